/- The reader's deferred closure: two walks by hand. No condition. -/
import Derived.Test.YtlckkciicchneaaHKb
import Derived.Laws.Pointers
section
namespace Go.Proofs.Ytlckkciicchneaa
open SY
open Go.RowKit
set_option linter.unusedVariables false
set_option linter.unusedSimpArgs false
set_option maxRecDepth 100000
theorem zero58 (w : World) : (zeroValue 58).run Try.prog w = .ok (.agg #[.int .i64 0]) w := by kernel_rfl
theorem ta_nil (w : World) : (Instr.typeAssert .nilIface 20 58 true).run Try.prog w = .ok (.tuple #[.agg #[.int .i64 0], .bool false]) w := by kernel_rfl
theorem ta_bad (e : Int) (w : World) : (Instr.typeAssert (.iface 58 (.agg #[.int .i64 e])) 20 58 true).run Try.prog w = .ok (.tuple #[.agg #[.int .i64 e], .bool true]) w := by kernel_rfl
theorem callsD_lit {P : Program} {f : FuncId} {fn : Func} {c : Code} {args : Array Value} {u : FrameMode} {w : World} {R : Ending → FrameMode → World → Prop} (T : Array Value)
    (hf : P.funcs[f]? = some fn) (hb : fn.body = some c) (hT : args ++ Array.replicate (fn.ntmps - args.size) undef = T)
    (h : ∀ (c₀ : Frame) (cs : List Frame), c₀.mode = u → c.wpS P (bodyPostS P fn c₀ cs R) { tmps := T, defers := [] } (c₀ :: cs) w) : CallsD P f args u w R :=
  callsD_of_wpS hf hb fun c₀ cs hu => by rw [hT]; exact h c₀ cs hu
theorem res_catch (tmps : Array Value) (w : World) : (results Try.f34 tmps).run Try.prog w = .ok (.tuple #[]) w := by simp [results, Try.results34, go_sem]
theorem catch_idle (p1 p2 p3 : Addr) (w : World) :
    CallsD Try.prog 34 #[.pointer (some p1), .pointer (some p2), .pointer (some p3)] .returning w fun e u' w' => e = .returned (.tuple #[]) ∧ u' = .returning ∧ Below w.heap.size w w' := by
  have z := zero58 w
  have ta := ta_nil w
  refine callsD_lit #[.pointer (some p1), .pointer (some p2), .pointer (some p3), undef, undef, undef, undef, undef, undef, undef, undef, undef, undef, undef, undef, undef, undef, undef, undef] Try.func34 rfl (by kernel_rfl) fun c₀ cs hu => ?_
  apply wpS_seq
  apply wpS_region
  simp [wpOpsS, go_sem, recoverD, hu, Exit.thenS]
  refine wpS_of_wp ?_
  go_wp2
  refine ⟨rfl, .returning, by rw [← hu], .tuple #[], res_catch _ _, rfl, rfl, (Below.refl _ _).alloc (Nat.le_refl _) _⟩
theorem stay_heap {w : World} {b k : Nat} {cs : Array Value} {t : TypeId} {v : Value} (h : w.heap[b]? = some (.cells cs t (0, 0))) (hk : cs[k]? = some v) : (w.setCell ⟨b, k, none⟩ v).heap[b]? = some (.cells cs t (0, 0)) := by
  obtain ⟨hlt, hv⟩ := Array.getElem?_eq_some_iff.1 hk
  rw [set_heap h hlt]
  congr 2
  rw [← hv]
  exact Array.set_getElem_self hlt
theorem far_heap {w : World} {b b' k : Nat} {v : Value} {o : Obj} (h : w.heap[b']? = some o) (hb : b' ≠ b) : (w.setCell ⟨b, k, none⟩ v).heap[b']? = some o := by rw [Below.heap_setCell _ _ _ _ (by exact hb)]; exact h
def zeroC : Array Value := #[.slice none 0 0, .slice none 0 0, .slice none 0 0, .int .i64 0, .int .i64 0, .int .i64 0]
/-- The three results' own blocks. -/
structure Res3 (q : Nat) (e : Int) (w : World) : Prop where
  h1 : w.heap[q]? = some (.cells #[.slice none 0 0, .slice none 0 0, .slice none 0 0, .int .i64 0, .int .i64 0, .int .i64 0] 25 (0, 0))
  h2 : w.heap[q + 1]? = some (.cells #[.int .i64 0] 3 (0, 0))
  h3 : w.heap[q + 2]? = some (.cells #[.int .i64 e] 29 (0, 0))
theorem Res3.below {q : Nat} {e : Int} {w w' : World} (h : Res3 q e w) (hb : Below w.heap.size w w') : Res3 q e w' :=
  ⟨(hb.block _ (lt_of_heap h.h1)).trans h.h1, (hb.block _ (lt_of_heap h.h2)).trans h.h2, (hb.block _ (lt_of_heap h.h3)).trans h.h3⟩
structure R4 (q d : Nat) (e' e : Int) (w0 w : World) : Prop where
  r : Res3 q e' w
  dd : w.heap[d]? = some (.cells #[.int .i64 e] 58 (0, 0))
  b : Below q w0 w
  lt : q + 2 < d
theorem R4.s1 {q d : Nat} {e' e : Int} {w0 w : World} (h : R4 q d e' e w0 w) {k : Nat} {v : Value} (hk : #[.slice none 0 0, .slice none 0 0, .slice none 0 0, .int .i64 0, .int .i64 0, .int .i64 0][k]? = some v) : R4 q d e' e w0 (w.setCell ⟨q, k, none⟩ v) := by
  have := h.lt
  exact ⟨⟨stay_heap h.r.h1 hk, far_heap h.r.h2 (by omega), far_heap h.r.h3 (by omega)⟩, far_heap h.dd (by omega), h.b.setCell (Nat.le_refl _) _, h.lt⟩
theorem R4.s2 {q d : Nat} {e' e : Int} {w0 w : World} (h : R4 q d e' e w0 w) : R4 q d e' e w0 (w.setCell ⟨q + 1, 0, none⟩ (.int .i64 0)) := by
  have := h.lt
  exact ⟨⟨far_heap h.r.h1 (by omega), stay_heap h.r.h2 rfl, far_heap h.r.h3 (by omega)⟩, far_heap h.dd (by omega), h.b.setCell (by show q ≤ q + 1; omega) _, h.lt⟩
theorem R4.s3 {q d : Nat} {e' e : Int} {w0 w : World} (h : R4 q d e' e w0 w) (e'' : Int) : R4 q d e'' e w0 (w.setCell ⟨q + 2, 0, none⟩ (.int .i64 e'')) := by
  have := h.lt
  exact ⟨⟨far_heap h.r.h1 (by omega), far_heap h.r.h2 (by omega), by rw [set_heap h.r.h3 (show 0 < 1 by decide)]; rfl⟩, far_heap h.dd (by omega), h.b.setCell (by show q ≤ q + 2; omega) _, h.lt⟩
theorem R4.drew {q d : Nat} {e' e : Int} {w0 w : World} (h : R4 q d e' e w0 w) : R4 q d e' e w0 w.drew := ⟨⟨h.r.h1, h.r.h2, h.r.h3⟩, h.dd, h.b.drew, h.lt⟩
set_option maxHeartbeats 1000000 in
theorem catch_bad (e : Int) (older : List PanicEntry) (q : Nat) (w : World) (h : Res3 q 0 w) :
    CallsD Try.prog 34 #[.pointer (some ⟨q, 0, none⟩), .pointer (some ⟨q + 1, 0, none⟩), .pointer (some ⟨q + 2, 0, none⟩)] (.panicking ({ v := .iface 58 (.agg #[.int .i64 e]), recovered := false } :: older)) w fun e' u' w' =>
      e' = .returned (.tuple #[]) ∧ u' = .panicking ({ v := .iface 58 (.agg #[.int .i64 e]), recovered := true } :: older) ∧ Res3 q e w' ∧ Below q w w' := by
  have z := zero58 w
  have ta := ta_bad e w
  have b1 : Below w.heap.size w (w.alloc (.cells #[.int .i64 e] 58)) := (Below.refl _ _).alloc (Nat.le_refl _) _
  have r1 := (h.below b1)
  have ww := heap_alloc_new w (.cells #[.int .i64 e] 58)
  have hq : q + 2 < w.heap.size := lt_of_heap h.h3
  refine callsD_lit #[.pointer (some ⟨q, 0, none⟩), .pointer (some ⟨q + 1, 0, none⟩), .pointer (some ⟨q + 2, 0, none⟩), undef, undef, undef, undef, undef, undef, undef, undef, undef, undef, undef, undef, undef, undef, undef, undef] Try.func34 rfl (by kernel_rfl) fun c₀ cs hu => ?_
  apply wpS_seq
  apply wpS_region
  simp [wpOpsS, go_sem, recoverD, hu, Exit.thenS]
  refine wpS_of_wp ?_
  go_wp2
  clear z ta
  obtain ⟨d, hd⟩ : ∃ d, w.heap.size = d := ⟨_, rfl⟩
  rw [hd] at ww b1 hq ⊢
  generalize w.alloc (.cells #[.int .i64 e] 58) = w1 at *
  have hS : w1.drew.cell? ⟨d, 0, none⟩ = some (.int .i64 e) := (cell_pg ww 0).1.trans rfl
  have f1 := fun k => (cell_pg r1.h1 k).2
  have f2 := fun k => (cell_pg r1.h2 k).2
  have f3 := fun k => (cell_pg r1.h3 k).2
  have c1 := fun k => (cell_pg r1.h1 k).1
  have c2 := fun k => (cell_pg r1.h2 k).1
  have c3 := fun k => (cell_pg r1.h3 k).1
  refine wp_region_G 5 (fun w' => w'.cell? ⟨d, 0, none⟩ = some (.int .i64 e)) mixed.mixed ?_
  refine wpAnyG_take (i := 0) (v := .agg #[.slice none 0 0, .slice none 0 0, .slice none 0 0, .int .i64 0, .int .i64 0, .int .i64 0]) rfl (by kernel_rfl) (by kernel_rfl) (by kernel_rfl) (by decide) (fun _ _ _ h => h) (Or.inl ⟨by rfl, fun w _ => by go_simp⟩) hS ?_
  simp only [Act.put, List.setIfInBounds_toArray, List.set_cons_zero, List.set_cons_succ]
  refine wpAnyG_take (i := 1) (v := .pointer (some ⟨d, 0, none⟩)) rfl (by kernel_rfl) (by kernel_rfl) (by kernel_rfl) (by decide) (fun _ _ _ h => h) (Or.inl ⟨by rfl, fun w _ => by go_simp⟩) hS ?_
  simp only [Act.put, List.setIfInBounds_toArray, List.set_cons_zero, List.set_cons_succ]
  refine wpAnyG_load (i := 2) (v := .int .i64 e) rfl (by kernel_rfl) (by kernel_rfl) (by kernel_rfl) (by decide) rfl (by kernel_rfl) (by kernel_rfl) (fun _ _ _ h => h) (Or.inl ⟨by rfl, fun w hSw => by dsimp only at hSw; go_simp⟩) hS ?_
  simp only [Act.put, List.setIfInBounds_toArray, List.set_cons_zero, List.set_cons_succ]
  refine wpAnyG_step (i := 3) (by kernel_rfl) rfl (by rfl) fun K hK => ?_
  go_simp
  have s1 := ((((((R4.mk r1 ww (b1.mono (by omega)) hq : R4 q d 0 e w w1).s1 (k := 0) rfl).s1 (k := 1) rfl).s1 (k := 2) rfl).s1 (k := 3) rfl).s1 (k := 4) rfl).s1 (k := 5) rfl
  refine hK.out _ _ (fun _ => (cell_pg s1.drew.dd 0).1.trans rfl) ?_
  clear hK K
  refine wpAnyG_step (i := 4) (by kernel_rfl) rfl (by rfl) fun K hK => ?_
  go_simp
  refine hK.out _ _ (fun _ => (cell_pg s1.s2.drew.dd 0).1.trans rfl) ?_
  clear hK K
  refine wpAnyG_stepD (i := 5) (by kernel_rfl) rfl (by rfl) (by kernel_rfl) fun K hK => ?_
  go_simp
  refine hK.out _ _ (wpAnyG_done (by kernel_rfl) ?_ _)
  clear hK K
  refine ⟨rfl, _, rfl, .tuple #[], res_catch _ _, rfl, rfl, (s1.s2.s3 e).drew.r, (s1.s2.s3 e).drew.b⟩
end Go.Proofs.Ytlckkciicchneaa
end
section
namespace Go.Proofs.Ytlckkciicchneaa
open SY
open Go.RowKit
set_option linter.unusedVariables false
set_option linter.unusedSimpArgs false
set_option maxRecDepth 100000
theorem kAt_all {ks : List CK} (hp : 0 < ks.length) (ha : ∀ c ∈ ks, c = .int .i64) (j : Nat) : kAt ks j = .int .i64 := by
  have hl := Nat.mod_lt j hp
  unfold kAt
  rw [List.getElem?_eq_getElem hl]
  exact ha _ (List.getElem_mem hl)
theorem row_dc {g : G} {W w : World} {base : Nat} {e : TypeId} {s n : Nat} {v : Value} {xs : List Int} {ks : List CK} (hg : Bound g W) (hW : W.heap.size ≤ base) (hs : s = ks.length) (hp : 0 < ks.length) (ha : ∀ c ∈ ks, c = .int .i64)
    (ho : w.ownsRow base e s v n (xs.map (Value.int .i64))) : DC g w (.sl ks xs none) v := by
  subst hs
  have hlen : xs.length = n * ks.length := by simpa using ho.1
  have hrd := fun q (h : v.ownBlock = some q) => ho.cells h
  have enc : ∀ (j : Nat) (u : Value), (encV ks xs)[j]? = some u → (xs.map (Value.int .i64))[j]? = some u := fun j u h => by
    rw [encV_get, kAt_all hp ha] at h
    rw [List.getElem?_map]
    exact h
  have hlt := ho.lt
  rcases ho.2 with ⟨rfl, rfl⟩ | ⟨q, cap, cur, rfl, b1, b2, b3, b4, b5, b6⟩
  · exact ⟨none, 0, 0, rfl, Nat.le_refl _, Nat.zero_le _, hp, hlen, fun _ => ⟨rfl, rfl⟩, fun A h => (by cases h), trivial⟩
  · refine ⟨some ⟨q, 0, none⟩, n, cap, rfl, b3, b4, hp, hlen, fun h => (by cases h), fun A h => ?_, trivial⟩
    cases h
    refine ⟨fun _ => ⟨rfl, lt_of_heap b2, fun f hf => ?_⟩, fun j u h => hrd q rfl j u (enc j u h)⟩
    have := hg _ _ hf
    simp only at this
    omega
theorem program_calls {g : G} {b : List Int} {a : Int} {W w1 : World} {rb : Nat} {rv : Value} (hg : Bound g W) (h1 : V.KeepFew b) (h2 : V.KeepBy b) (hv : DS g W (slB b) rv)
    (hB : Below W.heap.size W w1) (hr : W.heap.size ≤ rb) (hh : w1.heap[rb]? = some (.cells #[rv, .int .i64 a] 62 (0, 0))) (R : Ending → World → Prop)
    (hP : ∀ e w', e ≠ 0 → KeepPe b a = e → w1.grownBy w' (some rb) → R (.panicked (bad e)) w')
    (hOK : ∀ (w' : World) (v1 v2 v3 : Value) (n : Nat) (o r : List Int) (m : Int), KeepPe b a = 0 → KeepCl b (KeepCc b a 60 4) 8 2 = o → o.length ≤ 16 → KeepMs b (KeepCc b (KeepCc b a 60 4) 8 2) 3 = (m, r, 0) → (KeepCl b a 60 4).length = 4 * n → 
      PS w1 rb rv m v1 v2 v3 (KeepCl b a 60 4) (KeepEv o (o.length / 2)) (KeepOdd o (o.length / 2)) (gI r 0) (gI r 1) (gI r 2) n w' → R (.returned (.agg #[v1, v2, v3, .int .i64 (gI r 0), .int .i64 (gI r 1), .int .i64 (gI r 2)])) w') : Calls Try.prog 35 #[.pointer (some ⟨rb, 0, none⟩)] w1 R := by
  by_cases hc : KeepCn b a 60 = 0
  · obtain ⟨n, hn⟩ := toNat_of (cn_ok hc).2.1
    exact program_walk hg h1 h2 hv hB hr hh R hc hn hP fun w' v1 v2 v3 ks ss o r m => hOK w' v1 v2 v3 n o r m
  · refine program_bad hg h1 h2 hv hB hr hh R hc fun w' hw => hP _ _ hc ?_ hw
    unfold KeepPe
    rw [ce_bad hc, if_pos hc]
/-- What the document reads, by the reader's words. -/
theorem rd_bad {b : List Int} {a : Int} (h : ¬ (a < 0 ∨ a > b.length)) (he : KeepPe b a ≠ 0) : KeepRd b a = (zPF, 0, KeepPe b a) := by
  unfold KeepRd
  rw [if_neg h]
  unfold KeepPe at he ⊢
  by_cases c1 : KeepCe b a 60 4 ≠ 0
  · rw [if_pos c1, if_pos c1]
  · rw [if_neg c1] at he ⊢
    rw [if_neg c1]
    by_cases c2 : KeepCe b (KeepCc b a 60 4) 8 2 ≠ 0
    · rw [if_pos c2, if_pos c2]
    · rw [if_neg c2] at he ⊢
      rw [if_neg c2, if_pos he]
theorem rd_ok {b : List Int} {a m : Int} {o r : List Int} {n : Nat} (h : ¬ (a < 0 ∨ a > b.length)) (he : KeepPe b a = 0) (ho : KeepCl b (KeepCc b a 60 4) 8 2 = o) (hm : KeepMs b (KeepCc b (KeepCc b a 60 4) 8 2) 3 = (m, r, 0)) (hl : (KeepCl b a 60 4).length = 4 * n) :
    KeepRd b a = if KeepRt ⟨KeepCl b a 60 4, KeepEv o (o.length / 2), KeepOdd o (o.length / 2), gI r 0, gI r 1, gI r 2⟩ = false then (zPF, 0, 3) else (⟨KeepCl b a 60 4, KeepEv o (o.length / 2), KeepOdd o (o.length / 2), gI r 0, gI r 1, gI r 2⟩, m, 0) := by
  unfold KeepPe at he
  by_cases c1 : KeepCe b a 60 4 ≠ 0
  · rw [if_pos c1] at he; exact absurd he c1
  rw [if_neg c1] at he
  by_cases c2 : KeepCe b (KeepCc b a 60 4) 8 2 ≠ 0
  · rw [if_pos c2] at he; exact absurd he c2
  rw [if_neg c2] at he
  obtain ⟨e1, e2, e3⟩ := ms_at hm (n := 3) rfl
  unfold KeepRd
  rw [if_neg h, if_neg c1, if_neg c2, if_neg (by rw [he]; simp)]
  simp only [ho, e1, e2]
  have ht : (KeepCl b a 60 4).take (4 * ((KeepCl b a 60 4).length / 4)) = KeepCl b a 60 4 := List.take_of_length_le (by omega)
  rw [ht]
theorem cP_prg (p : PF) : cP (prgV p) = p := rfl
theorem right_calls {p : PF} {g : G} {w : World} {v : Value} (hg : Bound g w) (hd : DS g w (prgV p) v) (hs : p.cd.length ≤ 1000) (hk : p.ks.length ≤ 1000) (hz : p.sz.length ≤ 1000) :
    Calls Try.prog 13 #[v] w fun e w' => e = .returned (.bool (KeepRt p)) ∧ Below w.heap.size w w' := by
  have h := right_ok [prgV p] _ _ rfl (by
    rw [cP_prg]
    exact ⟨⟨rfl, rfl, rfl, rfl, rfl, rfl, trivial⟩, by omega, by omega⟩)
  rw [cP_prg] at h
  rcases h with ⟨_, h⟩ | ⟨e, ⟨fn, h1, _, h3, _⟩, _⟩
  · refine (h g w [v] hg ⟨hd, trivial⟩).mono fun e w' hh => ?_
    obtain ⟨r, h1, h2, h3⟩ := hh
    have h2 : r = .bool _ := h2
    exact ⟨by rw [h1, h2], h3⟩
  · rw [Try.func13] at h1
    cases h1
    cases h3
end Go.Proofs.Ytlckkciicchneaa
end
section
namespace Go.Proofs.Ytlckkciicchneaa
open SY
open Go.RowKit
set_option linter.unusedVariables false
set_option linter.unusedSimpArgs false
set_option maxRecDepth 100000
theorem zero3 (w : World) : (zeroValue 3).run Try.prog w = .ok (.int .i64 0) w := by kernel_rfl
theorem zero29 (w : World) : (zeroValue 29).run Try.prog w = .ok (.int .i64 0) w := by kernel_rfl
theorem read_result {w : World} {q : Nat} {l1 l2 l3 : Option Addr} {q1 o1 q2 o2 q3 o3 : Nat} {x y z m e : Int} {tmps : Array Value} (h : w.heap[q]? = some (.cells #[.slice l1 q1 o1, .slice l2 q2 o2, .slice l3 q3 o3, .int .i64 x, .int .i64 y, .int .i64 z] 25 (0, 0)))
    (h2 : w.heap[q + 1]? = some (.cells #[.int .i64 m] 3 (0, 0))) (h3 : w.heap[q + 2]? = some (.cells #[.int .i64 e] 29 (0, 0)))
    (ht : tmps[4]? = some (.pointer (some ⟨q, 0, none⟩))) (ht2 : tmps[5]? = some (.pointer (some ⟨q + 1, 0, none⟩))) (ht3 : tmps[6]? = some (.pointer (some ⟨q + 2, 0, none⟩))) :
    (results Try.f17 tmps).run Try.prog w = .ok (.tuple #[.agg #[.slice l1 q1 o1, .slice l2 q2 o2, .slice l3 q3 o3, .int .i64 x, .int .i64 y, .int .i64 z], .int .i64 m, .int .i64 e]) w := by
  have y0 := (cell_of_row _ _ 0 _ _ _ h).trans rfl
  have y1 := (cell_of_row _ _ 1 _ _ _ h).trans rfl
  have y2 := (cell_of_row _ _ 2 _ _ _ h).trans rfl
  have y3 := (cell_of_row _ _ 3 _ _ _ h).trans rfl
  have y4 := (cell_of_row _ _ 4 _ _ _ h).trans rfl
  have y5 := (cell_of_row _ _ 5 _ _ _ h).trans rfl
  have y6 := (cell_of_row _ _ 0 _ _ _ h2).trans rfl
  have y7 := (cell_of_row _ _ 0 _ _ _ h3).trans rfl
  simp [results, Try.results17, go_sem, ht, ht2, ht3, y0, y1, y2, y3, y4, y5, y6, y7]
def ReadPost (g : G) (w : World) (r : PF × Int × Int) (e : Ending) (w' : World) : Prop := ∃ v, e = .returned v ∧ DS g w' (.tup [prgT r.1, .c (.v (.int .i64 r.2.1)), .c (.v (.int .i64 r.2.2))]) v ∧ Below w.heap.size w w'
theorem tup_ds {g : G} {w : World} {p : PF} {m e : Int} {v : Value} (h : DS g w (prgV p) v) : DS g w (.tup [prgT p, .c (.v (.int .i64 m)), .c (.v (.int .i64 e))]) (.tuple #[v, .int .i64 m, .int .i64 e]) := ⟨[v, .int .i64 m, .int .i64 e], rfl, h, rfl, rfl, trivial⟩
theorem zero_ds (g : G) (w : World) : DS g w (prgV zPF) (.agg #[.slice none 0 0, .slice none 0 0, .slice none 0 0, .int .i64 0, .int .i64 0, .int .i64 0]) :=
  ⟨[.slice none 0 0, .slice none 0 0, .slice none 0 0, .int .i64 0, .int .i64 0, .int .i64 0], rfl, ⟨none, 0, 0, rfl, nil_sl (by decide)⟩, ⟨none, 0, 0, rfl, nil_sl (by decide)⟩, ⟨none, 0, 0, rfl, nil_sl (by decide)⟩, rfl, rfl, rfl, trivial⟩
/-- The three results' blocks, made. -/
theorem res3_made (w : World) (e : Int) : Res3 w.heap.size e (((w.alloc (.cells #[.slice none 0 0, .slice none 0 0, .slice none 0 0, .int .i64 0, .int .i64 0, .int .i64 0] 25)).alloc (.cells #[.int .i64 0] 3)).alloc (.cells #[.int .i64 e] 29)) := by
  have s1 : ∀ (w : World) o, (w.alloc o).heap.size = w.heap.size + 1 := fun w o => by show (w.heap.push o).size = _; simp
  refine ⟨?_, ?_, ?_⟩
  · rw [Below.heap_alloc _ _ _ (by rw [s1, s1]; omega), Below.heap_alloc _ _ _ (by rw [s1]; omega)]
    exact heap_alloc_new _ _
  · rw [Below.heap_alloc _ _ _ (by rw [s1, s1]; omega)]
    have := heap_alloc_new (w.alloc (.cells #[.slice none 0 0, .slice none 0 0, .slice none 0 0, .int .i64 0, .int .i64 0, .int .i64 0] 25)) (.cells #[.int .i64 0] 3)
    rwa [s1] at this
  · have := heap_alloc_new ((w.alloc (.cells #[.slice none 0 0, .slice none 0 0, .slice none 0 0, .int .i64 0, .int .i64 0, .int .i64 0] 25)).alloc (.cells #[.int .i64 0] 3)) (.cells #[.int .i64 e] 29)
    rwa [s1, s1] at this
theorem three_below (w : World) (o1 o2 o3 : Obj) : Below w.heap.size w (((w.alloc o1).alloc o2).alloc o3) := by
  have s1 : ∀ (w : World) o, (w.alloc o).heap.size = w.heap.size + 1 := fun w o => by show (w.heap.push o).size = _; simp
  exact (((Below.refl _ _).alloc (Nat.le_refl _) _).alloc (by rw [s1]; omega) _).alloc (by rw [s1, s1]; omega) _
theorem read_out {g : G} {b : List Int} {a : Int} {w : World} {A : Option Addr} {c : Nat} (ho : a < 0 ∨ a > b.length) :
    Calls Try.prog 17 #[.slice A b.length c, .int .i64 a] w (ReadPost g w (KeepRd b a)) := by
  have er : KeepRd b a = (zPF, 0, 1) := by unfold KeepRd; rw [if_pos ho]
  rw [er]
  have z1 := zeroP
  have z2 := zero3
  have z3 := zero29
  suffices H : ∀ R : Ending → World → Prop, (∀ w' v, DS g w' (prgV zPF) v → Below w.heap.size w w' → R (.returned (.tuple #[v, .int .i64 0, .int .i64 1])) w') → Calls Try.prog 17 #[.slice A b.length c, .int .i64 a] w R from
    H _ fun w' v h1 h2 => ⟨_, rfl, tup_ds h1, h2⟩
  intro R hR
  have r := res3_made w 1
  have hb : Below w.heap.size w (((w.alloc (.cells #[.slice none 0 0, .slice none 0 0, .slice none 0 0, .int .i64 0, .int .i64 0, .int .i64 0] 25)).alloc (.cells #[.int .i64 0] 3)).alloc (.cells #[.int .i64 1] 29)) := three_below w _ _ _
  by_cases ca : a < 0
  all_goals have cb : a < 0 ∨ (b.length : Int) < a := by omega
  all_goals go_enter_defers Try.func17, Try.ntmps17
  · go_wp2
    exact ⟨_, read_result r.h1 r.h2 r.h3 rfl rfl rfl, hR _ _ (zero_ds _ _) hb⟩
  · have cb : (b.length : Int) < a := by omega
    go_wp2
    exact ⟨_, read_result r.h1 r.h2 r.h3 rfl rfl rfl, hR _ _ (zero_ds _ _) hb⟩
theorem al_size (w : World) (o : Obj) : (w.alloc o).heap.size = w.heap.size + 1 := by show (w.heap.push o).size = _; simp
/-- What stands while Read goes on: q: the three results' blocks; behind them the reader. -/
structure GS (q : Nat) (rv : Value) (a m e : Int) (c : Array Value) (v1 v2 v3 : Value) (cd ks ss : List Int) (n : Nat) (w0 w : World) : Prop where
  b : Below q w0 w
  h1 : w.heap[q]? = some (.cells c 25 (0, 0))
  h2 : w.heap[q + 1]? = some (.cells #[.int .i64 m] 3 (0, 0))
  h3 : w.heap[q + 2]? = some (.cells #[.int .i64 e] 29 (0, 0))
  hr : w.heap[q + 3]? = some (.cells #[rv, .int .i64 a] 62 (0, 0))
  o1 : w.ownsRow (q + 5) 40 4 v1 n (cd.map (Value.int .i64))
  o2 : w.ownsRow (q + 5) 3 1 v2 ks.length (ks.map (Value.int .i64))
  o3 : w.ownsRow (q + 5) 3 1 v3 ss.length (ss.map (Value.int .i64))
section
variable {q : Nat} {rv : Value} {a m e : Int} {c : Array Value} {v1 v2 v3 : Value} {cd ks ss : List Int} {n : Nat} {w0 w : World}
theorem GS.setp (h : GS q rv a m e c v1 v2 v3 cd ks ss n w0 w) {k : Nat} {v : Value} (hk : k < c.size) : GS q rv a m e (c.set k v hk) v1 v2 v3 cd ks ss n w0 (w.setCell ⟨q, k, none⟩ v) :=
  ⟨h.b.setCell (Nat.le_refl _) _, set_heap h.h1 hk, far_heap h.h2 (by omega), far_heap h.h3 (by omega), far_heap h.hr (by omega), ownsRow_setCell_below h.o1 (by show q < q + 5; omega) _, ownsRow_setCell_below h.o2 (by show q < q + 5; omega) _, ownsRow_setCell_below h.o3 (by show q < q + 5; omega) _⟩
theorem GS.set2 (h : GS q rv a m e c v1 v2 v3 cd ks ss n w0 w) (m' : Int) : GS q rv a m' e c v1 v2 v3 cd ks ss n w0 (w.setCell ⟨q + 1, 0, none⟩ (.int .i64 m')) :=
  ⟨h.b.setCell (by show q ≤ q + 1; omega) _, far_heap h.h1 (by omega), by rw [set_heap h.h2 (show 0 < 1 by decide)]; rfl, far_heap h.h3 (by omega), far_heap h.hr (by omega), ownsRow_setCell_below h.o1 (by show q + 1 < q + 5; omega) _, ownsRow_setCell_below h.o2 (by show q + 1 < q + 5; omega) _, ownsRow_setCell_below h.o3 (by show q + 1 < q + 5; omega) _⟩
theorem GS.set3 (h : GS q rv a m e c v1 v2 v3 cd ks ss n w0 w) (e' : Int) : GS q rv a m e' c v1 v2 v3 cd ks ss n w0 (w.setCell ⟨q + 2, 0, none⟩ (.int .i64 e')) :=
  ⟨h.b.setCell (by show q ≤ q + 2; omega) _, far_heap h.h1 (by omega), far_heap h.h2 (by omega), by rw [set_heap h.h3 (show 0 < 1 by decide)]; rfl, far_heap h.hr (by omega), ownsRow_setCell_below h.o1 (by show q + 2 < q + 5; omega) _, ownsRow_setCell_below h.o2 (by show q + 2 < q + 5; omega) _, ownsRow_setCell_below h.o3 (by show q + 2 < q + 5; omega) _⟩
theorem GS.below (h : GS q rv a m e c v1 v2 v3 cd ks ss n w0 w) {w' : World} (hb : Below w.heap.size w w') : GS q rv a m e c v1 v2 v3 cd ks ss n w0 w' := by
  have hq : q < w.heap.size := lt_of_heap h.h1
  have ne : ∀ {v : Value}, v.ownBlock = none ∨ v.ownBlock ≠ none := fun {v} => by cases v.ownBlock <;> simp
  exact ⟨h.b.trans (hb.mono (by omega)), (hb.block _ hq).trans h.h1, (hb.block _ (lt_of_heap h.h2)).trans h.h2, (hb.block _ (lt_of_heap h.h3)).trans h.h3, (hb.block _ (lt_of_heap h.hr)).trans h.hr, h.o1.kept (grown_any hb) ne, h.o2.kept (grown_any hb) ne, h.o3.kept (grown_any hb) ne⟩
theorem GS.drew (h : GS q rv a m e c v1 v2 v3 cd ks ss n w0 w) : GS q rv a m e c v1 v2 v3 cd ks ss n w0 w.drew := h.below (Below.refl _ _).drew
theorem GS.ds {g : G} {x y z : Int} (h : GS q rv a m e c v1 v2 v3 cd ks ss n w0 w) (hg : Bound g w0) (hq : w0.heap.size = q) : DS g w (prgV ⟨cd, ks, ss, x, y, z⟩) (.agg #[v1, v2, v3, .int .i64 x, .int .i64 y, .int .i64 z]) :=
  ⟨[v1, v2, v3, .int .i64 x, .int .i64 y, .int .i64 z], rfl, row_dc hg (by omega) rfl (by decide) (by simp) h.o1, row_dc hg (by omega) rfl (by decide) (by simp) h.o2, row_dc hg (by omega) rfl (by decide) (by simp) h.o3, rfl, rfl, rfl, trivial⟩
end
theorem read_err {g : G} {b : List Int} {a : Int} {w : World} {A : Option Addr} {c : Nat} (hg : Bound g w) (h1 : V.KeepFew b) (h2 : V.KeepBy b) (hv : DS g w (slB b) (.slice A b.length c)) (ho : ¬ (a < 0 ∨ a > b.length)) (he : KeepPe b a ≠ 0) :
    Calls Try.prog 17 #[.slice A b.length c, .int .i64 a] w (ReadPost g w (KeepRd b a)) := by
  rw [rd_bad ho he]
  have z1 := zeroP
  have z2 := zero3
  have z3 := zero29
  have hmf : ∀ (fn : Fn) (first cap : Array Value) (w : World), (Instr.makeFunc fn first cap).run Try.prog w = .ok (.func fn first cap) w := fun _ _ _ _ => rfl
  have r := res3_made w 0
  have hb : Below w.heap.size w (((w.alloc (.cells #[.slice none 0 0, .slice none 0 0, .slice none 0 0, .int .i64 0, .int .i64 0, .int .i64 0] 25)).alloc (.cells #[.int .i64 0] 3)).alloc (.cells #[.int .i64 0] 29)) := three_below w _ _ _
  have hs : (((w.alloc (.cells #[.slice none 0 0, .slice none 0 0, .slice none 0 0, .int .i64 0, .int .i64 0, .int .i64 0] 25)).alloc (.cells #[.int .i64 0] 3)).alloc (.cells #[.int .i64 0] 29)).heap.size = w.heap.size + 1 + 1 + 1 := by rw [al_size, al_size, al_size]
  have hh := heap_alloc_new (((w.alloc (.cells #[.slice none 0 0, .slice none 0 0, .slice none 0 0, .int .i64 0, .int .i64 0, .int .i64 0] 25)).alloc (.cells #[.int .i64 0] 3)).alloc (.cells #[.int .i64 0] 29)) (.cells #[.slice A b.length c, .int .i64 a] 62)
  have hcall : Calls Try.prog 35 #[.pointer (some ⟨w.heap.size + 1 + 1 + 1, 0, none⟩)] ((((w.alloc (.cells #[.slice none 0 0, .slice none 0 0, .slice none 0 0, .int .i64 0, .int .i64 0, .int .i64 0] 25)).alloc (.cells #[.int .i64 0] 3)).alloc (.cells #[.int .i64 0] 29)).alloc (.cells #[.slice A b.length c, .int .i64 a] 62)) fun e w' => e = .panicked (bad (KeepPe b a)) ∧ Res3 w.heap.size 0 w' ∧ Below w.heap.size w w' := by
    rw [← hs]
    generalize (((w.alloc (.cells #[.slice none 0 0, .slice none 0 0, .slice none 0 0, .int .i64 0, .int .i64 0, .int .i64 0] 25)).alloc (.cells #[.int .i64 0] 3)).alloc (.cells #[.int .i64 0] 29)) = W at *
    have hB := (Below.refl W.heap.size W).alloc (Nat.le_refl _) (.cells #[.slice A b.length c, .int .i64 a] 62)
    refine program_calls (fun k f h => Nat.lt_of_lt_of_le (hg k f h) hb.size) h1 h2 ((ext_below g hb).s _ _ hv) hB (Nat.le_refl _) hh _ (fun e w' _ he hgr => ?_) (fun w' v1 v2 v3 n o rr m h => absurd h he)
    have hb2 : Below W.heap.size W w' := grown_below hB hgr (Nat.le_refl _)
    exact ⟨by rw [he], r.below hb2, hb.trans (hb2.mono hb.size)⟩
  have ca : ¬ a < 0 := by omega
  have cb : ¬ (b.length : Int) < a := by omega
  clear r hb hs hh
  go_enter_defers Try.func17, Try.ntmps17
  go_wp2_with (first | (go_at_call 35; refine hcall.mono ?_; rintro e w1 ⟨rfl, r1, b1⟩))
  refine leaves_cons (f := 34) (args := #[.pointer (some ⟨w.heap.size, 0, none⟩), .pointer (some ⟨w.heap.size + 1, 0, none⟩), .pointer (some ⟨w.heap.size + 1 + 1, 0, none⟩)]) (by simp [bad]) (by simp [go_sem]) ?_
  refine (catch_bad (KeepPe b a) [] w.heap.size w1 r1).mono ?_
  rintro e u' w'' ⟨rfl, rfl, r2, b2⟩
  exact ⟨_, read_result r2.h1 r2.h2 r2.h3 rfl rfl rfl, _, rfl, tup_ds (zero_ds _ _), b1.trans b2⟩
end Go.Proofs.Ytlckkciicchneaa
end
section
namespace Go.Proofs.Ytlckkciicchneaa
open SY
open Go.RowKit
set_option linter.unusedVariables false
set_option linter.unusedSimpArgs false
set_option maxRecDepth 100000
set_option maxHeartbeats 1000000 in
theorem read_good {g : G} {b : List Int} {a : Int} {w : World} {A : Option Addr} {c : Nat} (hg : Bound g w) (h1 : V.KeepFew b) (h2 : V.KeepBy b) (hv : DS g w (slB b) (.slice A b.length c)) (ho : ¬ (a < 0 ∨ a > b.length)) (he : KeepPe b a = 0) :
    Calls Try.prog 17 #[.slice A b.length c, .int .i64 a] w (ReadPost g w (KeepRd b a)) := by
  have z1 := zeroP
  have z2 := zero3
  have z3 := zero29
  have hmf : ∀ (fn : Fn) (first cap : Array Value) (w : World), (Instr.makeFunc fn first cap).run Try.prog w = .ok (.func fn first cap) w := fun _ _ _ _ => rfl
  have r := res3_made w 0
  have hb : Below w.heap.size w (((w.alloc (.cells #[.slice none 0 0, .slice none 0 0, .slice none 0 0, .int .i64 0, .int .i64 0, .int .i64 0] 25)).alloc (.cells #[.int .i64 0] 3)).alloc (.cells #[.int .i64 0] 29)) := three_below w _ _ _
  have hs : (((w.alloc (.cells #[.slice none 0 0, .slice none 0 0, .slice none 0 0, .int .i64 0, .int .i64 0, .int .i64 0] 25)).alloc (.cells #[.int .i64 0] 3)).alloc (.cells #[.int .i64 0] 29)).heap.size = w.heap.size + 1 + 1 + 1 := by rw [al_size, al_size, al_size]
  have hh := heap_alloc_new (((w.alloc (.cells #[.slice none 0 0, .slice none 0 0, .slice none 0 0, .int .i64 0, .int .i64 0, .int .i64 0] 25)).alloc (.cells #[.int .i64 0] 3)).alloc (.cells #[.int .i64 0] 29)) (.cells #[.slice A b.length c, .int .i64 a] 62)
  have hcall : Calls Try.prog 35 #[.pointer (some ⟨w.heap.size + 1 + 1 + 1, 0, none⟩)] ((((w.alloc (.cells #[.slice none 0 0, .slice none 0 0, .slice none 0 0, .int .i64 0, .int .i64 0, .int .i64 0] 25)).alloc (.cells #[.int .i64 0] 3)).alloc (.cells #[.int .i64 0] 29)).alloc (.cells #[.slice A b.length c, .int .i64 a] 62)) fun e w' =>
      ∃ (v1 v2 v3 : Value) (n : Nat) (p : PF) (m : Int), e = .returned (.agg #[v1, v2, v3, .int .i64 p.cl, .int .i64 p.rc, .int .i64 p.pt]) ∧ GS w.heap.size (.slice A b.length c) m 0 0 #[.slice none 0 0, .slice none 0 0, .slice none 0 0, .int .i64 0, .int .i64 0, .int .i64 0] v1 v2 v3 p.cd p.ks p.sz n w w' ∧
        p.cd.length ≤ 1000 ∧ p.ks.length ≤ 1000 ∧ p.sz.length ≤ 1000 ∧ KeepRd b a = if KeepRt p = false then (zPF, 0, 3) else (p, m, 0) := by
    rw [← hs]
    generalize (((w.alloc (.cells #[.slice none 0 0, .slice none 0 0, .slice none 0 0, .int .i64 0, .int .i64 0, .int .i64 0] 25)).alloc (.cells #[.int .i64 0] 3)).alloc (.cells #[.int .i64 0] 29)) = W at *
    have hB := (Below.refl W.heap.size W).alloc (Nat.le_refl _) (.cells #[.slice A b.length c, .int .i64 a] 62)
    refine program_calls (fun k f h => Nat.lt_of_lt_of_le (hg k f h) hb.size) h1 h2 ((ext_below g hb).s _ _ hv) hB (Nat.le_refl _) hh _ (fun e w' hn hk => absurd he (by rw [hk]; exact hn)) (fun w' v1 v2 v3 n o rr m _ q1 q2 q3 q4 ps => ?_)
    have hb2 : Below W.heap.size W w' := grown_below hB ps.gr (Nat.le_refl _)
    have r2 := r.below hb2
    have sz : (W.alloc (.cells #[.slice A b.length c, .int .i64 a] 62)).heap.size + 1 = w.heap.size + 5 := by rw [al_size, hs]
    have o1 := ps.o1
    have o2 := ps.o2
    have o3 := ps.o3
    have rd := ps.rd
    rw [sz] at o1 o2 o3
    rw [hs] at rd
    refine ⟨v1, v2, v3, n, ⟨KeepCl b a 60 4, KeepEv o (o.length / 2), KeepOdd o (o.length / 2), gI rr 0, gI rr 1, gI rr 2⟩, m, rfl, ⟨hb.trans (hb2.mono hb.size), r2.h1, r2.h2, r2.h3, rd, o1, o2, o3⟩, ?_, ?_, ?_, rd_ok ho he q1 q3 q4⟩
    · have := cl_len (b := b) (a := a) (m := 60) (n := 4) (by decide) (by decide) (by decide)
      show (KeepCl b a 60 4).length ≤ 1000
      omega
    · show (KeepEv o _).length ≤ 1000
      rw [ev_len]; omega
    · show (KeepOdd o _).length ≤ 1000
      rw [odd_len]; omega
  have ca : ¬ a < 0 := by omega
  have cb : ¬ (b.length : Int) < a := by omega
  clear r hb hs hh
  go_enter_defers Try.func17, Try.ntmps17
  go_upto_region 6 with (go_at_call 35; refine hcall.mono ?_; rintro e w1 ⟨v1, v2, v3, n, p, m, rfl, gs, l1, l2, l3, hrd⟩; obtain ⟨A1, n1, c1, rfl⟩ := row_shape gs.o1; obtain ⟨A2, n2, c2, rfl⟩ := row_shape gs.o2; obtain ⟨A3, n3, c3, rfl⟩ := row_shape gs.o3; have y1 := fun k => (cell_pg gs.h1 k).1; have y2 := fun k => (cell_pg gs.h1 k).2)
  clear y1 y2
  have s1 : GS w.heap.size (.slice A b.length c) m 0 0 #[.slice A1 n1 c1, .slice A2 n2 c2, .slice A3 n3 c3, .int .i64 p.cl, .int .i64 p.rc, .int .i64 p.pt] (.slice A1 n1 c1) (.slice A2 n2 c2) (.slice A3 n3 c3) p.cd p.ks p.sz n w _ := ((((((gs.setp (k := 0) (v := .slice A1 n1 c1) (by decide)).setp (k := 1) (v := .slice A2 n2 c2) (by show 1 < 6; decide)).setp (k := 2) (v := .slice A3 n3 c3) (by show 2 < 6; decide)).setp (k := 3) (v := .int .i64 p.cl) (by show 3 < 6; decide)).setp (k := 4) (v := .int .i64 p.rc) (by show 4 < 6; decide)).setp (k := 5) (v := .int .i64 p.pt) (by show 5 < 6; decide))
  clear gs
  generalize ((((((w1.setCell ⟨w.heap.size, 0, none⟩ (.slice A1 n1 c1)).setCell ⟨w.heap.size, 1, none⟩ (.slice A2 n2 c2)).setCell ⟨w.heap.size, 2, none⟩ (.slice A3 n3 c3)).setCell ⟨w.heap.size, 3, none⟩ (.int .i64 p.cl)).setCell ⟨w.heap.size, 4, none⟩ (.int .i64 p.rc)).setCell ⟨w.heap.size, 5, none⟩ (.int .i64 p.pt)) = w2 at *
  have y1 := fun k => (cell_pg s1.h1 k).1
  have hr := right_calls (p := p) (g := g) (w := w2) (fun k f h => Nat.lt_of_lt_of_le (hg k f h) s1.b.size) (s1.ds hg rfl) l1 l2 l3
  have hrd := hrd
  obtain ⟨bb, hbb⟩ : ∃ bb, KeepRt p = bb := ⟨_, rfl⟩
  rw [hbb] at hr hrd
  cases bb
  · rw [if_pos rfl] at hrd
    go_upto_region 7 with (go_at_call 13; refine hr.mono ?_; rintro e w3 ⟨rfl, b3⟩)
    have s2 := s1.below b3
    clear y1 hr
    have y1 := fun k => (cell_pg s2.h1 k).1
    have y2 := fun k => (cell_pg s2.h1 k).2
    have y3 := (cell_pg s2.h2 0).1.trans rfl
    have y4 := (cell_pg s2.h2 0).2
    have y5 := (cell_pg s2.h3 0).1.trans rfl
    have y6 := (cell_pg s2.h3 0).2
    go_wp2
    have s3 : GS w.heap.size (.slice A b.length c) m 0 3 #[.slice none 0 0, .slice none 0 0, .slice none 0 0, .int .i64 0, .int .i64 0, .int .i64 0] (.slice A1 n1 c1) (.slice A2 n2 c2) (.slice A3 n3 c3) p.cd p.ks p.sz n w _ := (((((((s2.setp (k := 0) (v := .slice none 0 0) (by show 0 < 6; decide)).setp (k := 1) (v := .slice none 0 0) (by show 1 < 6; decide)).setp (k := 2) (v := .slice none 0 0) (by show 2 < 6; decide)).setp (k := 3) (v := .int .i64 0) (by show 3 < 6; decide)).setp (k := 4) (v := .int .i64 0) (by show 4 < 6; decide)).setp (k := 5) (v := .int .i64 0) (by show 5 < 6; decide)).set2 0).set3 3
    refine leaves_cons (f := 34) (args := #[.pointer (some ⟨w.heap.size, 0, none⟩), .pointer (some ⟨w.heap.size + 1, 0, none⟩), .pointer (some ⟨w.heap.size + 1 + 1, 0, none⟩)]) (by simp) (by simp [go_sem]) ?_
    refine (catch_idle _ _ _ _).mono ?_
    rintro e u' w'' ⟨rfl, rfl, b4⟩
    have s4 := s3.below b4
    exact ⟨_, read_result s4.h1 s4.h2 s4.h3 rfl rfl rfl, _, rfl, by rw [hrd]; exact tup_ds (zero_ds _ _), s4.b⟩
  · rw [if_neg (by decide)] at hrd
    go_upto_region 8 with (go_at_call 13; refine hr.mono ?_; rintro e w3 ⟨rfl, b3⟩)
    have s2 := s1.below b3
    clear y1 hr
    have hS : w3.drew.heap[w.heap.size]? = some (.cells #[.slice A1 n1 c1, .slice A2 n2 c2, .slice A3 n3 c3, .int .i64 p.cl, .int .i64 p.rc, .int .i64 p.pt] 25 (0, 0)) ∧ w3.drew.heap[w.heap.size + 1 + 1 + 1]? = some (.cells #[.slice A b.length c, .int .i64 m] 62 (0, 0)) := ⟨s2.h1, s2.hr⟩
    refine wp_region_noPanic ?_
    refine wp_region_G 6 (fun w' => w'.heap[w.heap.size]? = some (.cells #[.slice A1 n1 c1, .slice A2 n2 c2, .slice A3 n3 c3, .int .i64 p.cl, .int .i64 p.rc, .int .i64 p.pt] 25 (0, 0)) ∧ w'.heap[w.heap.size + 1 + 1 + 1]? = some (.cells #[.slice A b.length c, .int .i64 m] 62 (0, 0))) mixed.mixed ?_
    refine wpAnyG_load (i := 0) (v := .agg #[.slice A1 n1 c1, .slice A2 n2 c2, .slice A3 n3 c3, .int .i64 p.cl, .int .i64 p.rc, .int .i64 p.pt]) rfl (by kernel_rfl) (by kernel_rfl) (by kernel_rfl) (by decide) rfl (by kernel_rfl) (by kernel_rfl) (fun _ _ _ h => h) (Or.inl ⟨by rfl, fun w hSw => by dsimp only at hSw; have k1 := fun k => (cell_pg hSw.1 k).1; have k2 := (cell_pg hSw.2 1).1.trans rfl; go_simp⟩) hS ?_
    simp only [Act.put, List.setIfInBounds_toArray, List.set_cons_zero, List.set_cons_succ]
    refine wpAnyG_take (i := 1) (v := .pointer (some ⟨w.heap.size + 1 + 1 + 1, 0, none⟩)) rfl (by kernel_rfl) (by kernel_rfl) (by kernel_rfl) (by decide) (fun _ _ _ h => h) (Or.inl ⟨by rfl, fun w _ => by go_simp⟩) hS ?_
    simp only [Act.put, List.setIfInBounds_toArray, List.set_cons_zero, List.set_cons_succ]
    refine wpAnyG_take (i := 2) (v := .pointer (some ⟨w.heap.size + 1 + 1 + 1, 0, none⟩)) rfl (by kernel_rfl) (by kernel_rfl) (by kernel_rfl) (by decide) (fun _ _ _ h => h) (Or.inl ⟨by rfl, fun w _ => by go_simp⟩) hS ?_
    simp only [Act.put, List.setIfInBounds_toArray, List.set_cons_zero, List.set_cons_succ]
    refine wpAnyG_take (i := 3) (v := .pointer (some ⟨w.heap.size + 1 + 1 + 1, 1, none⟩)) rfl (by kernel_rfl) (by kernel_rfl) (by kernel_rfl) (by decide) (fun _ _ _ h => h) (Or.inl ⟨by rfl, fun w _ => by go_simp⟩) hS ?_
    simp only [Act.put, List.setIfInBounds_toArray, List.set_cons_zero, List.set_cons_succ]
    refine wpAnyG_load (i := 4) (v := .int .i64 m) rfl (by kernel_rfl) (by kernel_rfl) (by kernel_rfl) (by decide) rfl (by kernel_rfl) (by kernel_rfl) (fun _ _ _ h => h) (Or.inl ⟨by rfl, fun w hSw => by dsimp only at hSw; have k1 := fun k => (cell_pg hSw.1 k).1; have k2 := (cell_pg hSw.2 1).1.trans rfl; go_simp⟩) hS ?_
    simp only [Act.put, List.setIfInBounds_toArray, List.set_cons_zero, List.set_cons_succ]
    have y1 := fun k => (cell_pg s2.h1 k).1
    have y2 := fun k => (cell_pg s2.h1 k).2
    have y3 := (cell_pg s2.h2 0).1.trans rfl
    have y4 := (cell_pg s2.h2 0).2
    have y5 := (cell_pg s2.h3 0).1.trans rfl
    have y6 := (cell_pg s2.h3 0).2
    have s3 : GS w.heap.size (.slice A b.length c) m 0 0 #[.slice A1 n1 c1, .slice A2 n2 c2, .slice A3 n3 c3, .int .i64 p.cl, .int .i64 p.rc, .int .i64 p.pt] (.slice A1 n1 c1) (.slice A2 n2 c2) (.slice A3 n3 c3) p.cd p.ks p.sz n w _ := ((((((s2.setp (k := 0) (v := .slice A1 n1 c1) (by show 0 < 6; decide)).setp (k := 1) (v := .slice A2 n2 c2) (by show 1 < 6; decide)).setp (k := 2) (v := .slice A3 n3 c3) (by show 2 < 6; decide)).setp (k := 3) (v := .int .i64 p.cl) (by show 3 < 6; decide)).setp (k := 4) (v := .int .i64 p.rc) (by show 4 < 6; decide)).setp (k := 5) (v := .int .i64 p.pt) (by show 5 < 6; decide))
    clear y1 y2 y3 y4 y5 y6
    have y1 := fun k => (cell_pg s2.h1 k).1
    have y2 := fun k => (cell_pg s2.h1 k).2
    have y3 := (cell_pg s2.h2 0).1.trans rfl
    have y4 := (cell_pg s2.h2 0).2
    have y5 := (cell_pg s2.h3 0).1.trans rfl
    have y6 := (cell_pg s2.h3 0).2
    refine wpAnyG_step (i := 5) (by kernel_rfl) rfl (by rfl) fun K hK => ?_
    go_simp
    refine hK.out _ _ (fun _ => ⟨s3.drew.h1, s3.drew.hr⟩) ?_
    clear hK K
    refine wpAnyG_stepD (i := 6) (by kernel_rfl) rfl (by rfl) (by kernel_rfl) fun K hK => ?_
    go_simp
    refine hK.out _ _ ?_
    clear hK K
    refine wpAnyG_stepD (i := 7) (by kernel_rfl) rfl (by rfl) (by kernel_rfl) fun K hK => ?_
    go_simp
    refine hK.out _ _ (wpAnyG_done (by kernel_rfl) ?_ _)
    clear hK K
    refine NoPanic.normal ?_
    have s4 := ((s3.set2 m).set3 0).drew
    go_wp2
    refine leaves_cons (f := 34) (args := #[.pointer (some ⟨w.heap.size, 0, none⟩), .pointer (some ⟨w.heap.size + 1, 0, none⟩), .pointer (some ⟨w.heap.size + 1 + 1, 0, none⟩)]) (by simp) (by simp [go_sem]) ?_
    refine (catch_idle _ _ _ _).mono ?_
    rintro e u' w'' ⟨rfl, rfl, b4⟩
    have s5 := s4.below b4
    exact ⟨_, read_result s5.h1 s5.h2 s5.h3 rfl rfl rfl, _, rfl, by rw [hrd]; exact tup_ds (s5.ds hg rfl), s5.b⟩
end Go.Proofs.Ytlckkciicchneaa
end
section
namespace Go.Proofs.Ytlckkciicchneaa
open SY
open Go.RowKit
set_option linter.unusedVariables false
theorem read_ok : GOK Try.prog 17 (hRd KeepRd) := by
  intro vs s r hg hs
  unfold hRd at hg
  split at hg <;> try (cases hg; done)
  rename_i x y
  simp only [Option.some.injEq, Prod.mk.injEq] at hg
  obtain ⟨rfl, rfl⟩ := hg
  obtain ⟨h1, h2, h3, h4⟩ := hs
  refine .inl ⟨⟨Try.f17, _, Try.func17, rfl, by kernel_rfl⟩, fun g w vals hb ha => ?_⟩
  obtain ⟨vx, vs, rfl, d1, ha⟩ := ha.cons_left
  obtain ⟨vy, vs, rfl, d2, ha⟩ := ha.cons_left
  obtain rfl := ha.nil_left
  have d1 := subS_ok h1 d1
  have d2 := subS_ok h2 d2
  generalize cL x = b at *
  generalize cI y = a at *
  obtain rfl : vy = .int .i64 a := d2
  obtain ⟨A, n, c, rfl, hS⟩ := d1
  have hl : n = b.length := by have := hS.len; simp at this; omega
  subst hl
  have dv : DS g w (slB b) (.slice A b.length c) := ⟨A, _, c, rfl, hS⟩
  by_cases ho : a < 0 ∨ a > b.length
  · exact read_out ho
  · by_cases he : KeepPe b a = 0
    · exact read_good hb h3 h4 dv ho he
    · exact read_err hb h3 h4 dv ho he
end Go.Proofs.Ytlckkciicchneaa
end
