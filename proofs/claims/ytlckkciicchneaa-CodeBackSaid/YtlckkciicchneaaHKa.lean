/- A reader's number: a walk by hand. No condition. -/
import Derived.Test.YtlckkciicchneaaLK11
import Derived.WalkKit
import Derived.Defers
import Derived.Recover
import Derived.LoopTactic
import Derived.Laws.AppendOwn
import Derived.Deep.RegionHeld3
import Derived.Deep.DeepCutAuto
section
namespace Go.Proofs.Ytlckkciicchneaa
open SY
open Go.RowKit
set_option linter.unusedVariables false
set_option maxRecDepth 100000
theorem readint_calls {g : G} {b : List Int} {a : Int} {w : World} {v : Value} (hg : Bound g w) (h1 : V.KeepFew b) (h2 : V.KeepBy b) (hv : DS g w (slB b) v) :
    Calls Try.prog 47 #[v, .int .i64 a] w fun e w' => e = .returned (.tuple #[.int .i64 (V.KeepZag (V.KeepRx b a)), .int .i64 (V.KeepRn b a), .int .i64 (V.KeepRe b a)]) ∧ Below w.heap.size w w' := by
  have h : callT Try.prog hkZ tab noL 10 47 [slB b, iS a] (fun u => subS (.tup [.c (.v (.int .i64 (V.KeepZag (V.KeepRx b a)))), .c (.v (.int .i64 (V.KeepRn b a))), .c (.v (.int .i64 (V.KeepRe b a)))]) u) := by
    rw [readint_res]
    exact ⟨⟨rfl, rfl, h1, h2⟩, ⟨rfl, V.rx_u b a h2⟩, rfl, rfl, rfl, trivial⟩
  refine ((callT_ok mixed tab_ok hkZ_ok h).2 g w [v, .int .i64 a] hg ⟨hv, rfl, trivial⟩).mono ?_
  rintro e w' ⟨r, u, rfl, hk, hd, hb⟩
  obtain ⟨us, rfl, d⟩ := subS_ok hk hd
  obtain ⟨u1, us, rfl, e1, d⟩ := d.cons_left
  obtain ⟨u2, us, rfl, e2, d⟩ := d.cons_left
  obtain ⟨u3, us, rfl, e3, d⟩ := d.cons_left
  obtain rfl := d.nil_left
  obtain rfl : u1 = .int .i64 _ := e1
  obtain rfl : u2 = .int .i64 _ := e2
  obtain rfl : u3 = .int .i64 _ := e3
  exact ⟨rfl, hb⟩
end Go.Proofs.Ytlckkciicchneaa
end
section
namespace Go.Proofs.Ytlckkciicchneaa
open SY
open Go.RowKit
set_option linter.unusedVariables false
set_option maxRecDepth 100000
/-- Behind a step of the reader in block rb, which then stands at 'at'. -/
structure RB (rb : Nat) (rv : Value) (a : Int) (w w' : World) : Prop where
  gr : w.grownBy w' (some rb)
  here : w'.heap[rb]? = some (.cells #[rv, .int .i64 a] 62 (0, 0))
def bad (e : Int) : List PanicEntry := [{ v := .iface 58 (.agg #[.int .i64 e]), recovered := false }]
theorem grown_below {W w w' : World} {rb : Nat} (h : Below W.heap.size W w) (hg : w.grownBy w' (some rb)) (hr : W.heap.size ≤ rb) : Below W.heap.size W w' :=
  h.grown hg h.size (fun k hk => by cases hk; exact hr)
theorem set_heap {w : World} {b k : Nat} {cs : Array Value} {t : TypeId} {v : Value} (h : w.heap[b]? = some (.cells cs t (0, 0))) (hk : k < cs.size) : (w.setCell ⟨b, k, none⟩ v).heap[b]? = some (.cells (cs.set k v hk) t (0, 0)) := by
  have hlt := SY.lt_of_heap h
  have h' : w.heap[b] = .cells cs t (0, 0) := by simpa [Array.getElem?_eq_getElem hlt] using h
  show (w.heap.modify b _)[b]? = _
  rw [Array.getElem?_eq_getElem (by simpa using hlt), Array.getElem_modify_self, h']
  simp [Array.set!, Array.setIfInBounds, hk]
theorem grown_any {w w' : World} {row : Option Nat} (h : Below w.heap.size w w') : w.grownBy w' row := ⟨h.os, h.tape, h.output, h.size, fun k hk _ => h.block k hk⟩
theorem grown_drew {w w' : World} {row : Option Nat} (h : Below w.drew.heap.size w.drew w') : w.grownBy w' row := ⟨h.os, h.tape, h.output, h.size, fun k hk _ => h.block k hk⟩
theorem grown_trans {a b c : World} {row : Option Nat} (h : a.grownBy b row) (k : b.grownBy c row) : a.grownBy c row :=
  ⟨k.os.trans h.os, k.tape.trans h.tape, k.output.trans h.output, Nat.le_trans h.size k.size, fun i hi hn => (k.block i (Nat.lt_of_lt_of_le hi h.size) hn).trans (h.block i hi hn)⟩
theorem grown_set (w : World) (rb o : Nat) (v : Value) : w.grownBy (w.setCell ⟨rb, o, none⟩ v) (some rb) :=
  ⟨rfl, rfl, rfl, by simp [World.setCell], fun k hk hn => Below.heap_setCell _ _ _ _ (fun h => hn (by rw [h]))⟩
theorem number_calls {g : G} {b : List Int} {a : Int} {W w : World} {rb : Nat} {rv : Value} (hg : Bound g W) (h1 : V.KeepFew b) (h2 : V.KeepBy b) (hv : DS g W (slB b) rv)
    (hB : Below W.heap.size W w) (hr : W.heap.size ≤ rb) (hh : w.heap[rb]? = some (.cells #[rv, .int .i64 a] 62 (0, 0))) :
    Calls Try.prog 43 #[.pointer (some ⟨rb, 0, none⟩)] w fun e w' =>
      (V.KeepRe b a = 0 ∧ e = .returned (.int .i64 (V.KeepZag (V.KeepRx b a))) ∧ RB rb rv (V.KeepRn b a) w w') ∨ (V.KeepRe b a ≠ 0 ∧ e = .panicked (bad (V.KeepRe b a)) ∧ RB rb rv a w w') := by
  have c0 : ∀ w' : World, w'.heap[rb]? = some (.cells #[rv, .int .i64 a] 62 (0, 0)) → w'.cell? ⟨rb, 0, none⟩ = some rv := fun w' h => by rw [cell_of_row _ _ _ _ _ _ h]; rfl
  have c1 : ∀ w' : World, w'.heap[rb]? = some (.cells #[rv, .int .i64 a] 62 (0, 0)) → w'.cell? ⟨rb, 1, none⟩ = some (.int .i64 a) := fun w' h => by rw [cell_of_row _ _ _ _ _ _ h]; rfl
  have hlt : rb < w.drew.heap.size := lt_of_heap hh
  have frz : ∀ {w' : World} {cs : Array Value} {o : Nat}, w'.heap[rb]? = some (.cells cs 62 (0, 0)) → w'.frozen? ⟨rb, o, none⟩ = false := fun h => by simp [World.frozen?, h]
  have d0 := c0 w hh
  have d1 := c1 w hh
  have hcall : Calls Try.prog 47 #[rv, .int .i64 a] w.drew fun e w' => e = .returned (.tuple #[.int .i64 (V.KeepZag (V.KeepRx b a)), .int .i64 (V.KeepRn b a), .int .i64 (V.KeepRe b a)]) ∧ Below w.drew.heap.size w.drew w' :=
    readint_calls (fun k f h => Nat.lt_of_lt_of_le (hg k f h) hB.drew.size) h1 h2 ((ext_below g hB.drew).s _ _ hv)
  have e0 : w.drew.cell? ⟨rb, 0, none⟩ = some rv := d0
  have e1 : w.drew.cell? ⟨rb, 1, none⟩ = some (.int .i64 a) := d1
  go_enter Try.func43, Try.ntmps43
  go_upto_region 1 with (fail)
  go_region_held3 (fun w' => w'.cell? ⟨rb, 0, none⟩ = some rv ∧ w'.cell? ⟨rb, 1, none⟩ = some (.int .i64 a)) (first | exact ⟨f0, f1⟩ | exact ⟨e0, e1⟩) ((go_at_call 47; refine hcall.mono ?_; rintro e w1 ⟨rfl, hb⟩; have f0 := (hb.cell (p := ⟨rb, 0, none⟩) hlt).trans e0; have f1 := (hb.cell (p := ⟨rb, 1, none⟩) hlt).trans e1; have f2 := (hb.block rb hlt).trans hh; have f3 : w1.frozen? ⟨rb, 1, none⟩ = false := frz f2))
  by_cases c : V.KeepRe b a = 0
  · go_wp2
    refine bodyPost_ret (v := .int .i64 (V.KeepZag (V.KeepRx b a))) (by simp [results, Try.results43, go_sem]) rfl ?_
    exact .inl ⟨c, rfl, grown_trans (grown_drew hb) (grown_set _ _ _ _), by rw [set_heap f2 (show 1 < 2 by decide)]; rfl⟩
  · have hpan : (Instr.panic (.iface 58 (.agg #[.int .i64 (V.KeepRe b a)]))).run Try.prog w1 = .halt (.panic (.iface 58 (.agg #[.int .i64 (V.KeepRe b a)]))) w1 := by kernel_rfl
    go_wp2
    exact ⟨rfl, .inr ⟨c, rfl, grown_drew hb, f2⟩⟩
theorem within_calls (n l h : Int) (w : World) : Calls Try.prog 28 #[.int .i64 n, .int .i64 l, .int .i64 h] w fun e w' => e = .returned (.bool (decide (l ≤ n) && decide (n ≤ h))) ∧ w' = w := by
  by_cases c1 : l ≤ n
  all_goals by_cases c2 : n ≤ h
  all_goals go_enter Try.func28, Try.ntmps28
  all_goals go_wp2
  all_goals (go_ret; exact ⟨by simp [c1, c2], rfl⟩)
/-- A count: a number, and an error of its own if it is none. -/
def KeepCn (b : List Int) (a m : Int) : Int := if V.KeepRe b a ≠ 0 then V.KeepRe b a else if V.KeepZag (V.KeepRx b a) < 0 ∨ V.KeepZag (V.KeepRx b a) > m then 4 else 0
theorem count_calls {g : G} {b : List Int} {a m : Int} {W w : World} {rb : Nat} {rv : Value} (hg : Bound g W) (h1 : V.KeepFew b) (h2 : V.KeepBy b) (hv : DS g W (slB b) rv)
    (hB : Below W.heap.size W w) (hr : W.heap.size ≤ rb) (hh : w.heap[rb]? = some (.cells #[rv, .int .i64 a] 62 (0, 0))) :
    Calls Try.prog 42 #[.pointer (some ⟨rb, 0, none⟩), .int .i64 m] w fun e w' =>
      (KeepCn b a m = 0 ∧ e = .returned (.int .i64 (V.KeepZag (V.KeepRx b a))) ∧ RB rb rv (V.KeepRn b a) w w') ∨ (KeepCn b a m ≠ 0 ∧ e = .panicked (bad (KeepCn b a m)) ∧ ∃ a', RB rb rv a' w w') := by
  have hn := number_calls (a := a) hg h1 h2 hv hB hr hh
  have hpan : ∀ w1 : World, (Instr.panic (.iface 58 (.agg #[.int .i64 4]))).run Try.prog w1 = .halt (.panic (.iface 58 (.agg #[.int .i64 4]))) w1 := fun w1 => by kernel_rfl
  have e0 : V.KeepRe b a ≠ 0 → KeepCn b a m = V.KeepRe b a := fun h => if_pos h
  have e1 : V.KeepRe b a = 0 → (decide ((0 : Int) ≤ V.KeepZag (V.KeepRx b a)) && decide (V.KeepZag (V.KeepRx b a) ≤ m)) = false → KeepCn b a m = 4 := fun h h' => by
    unfold KeepCn
    rw [if_neg (by simp [h]), if_pos]
    simp only [Bool.and_eq_false_iff, decide_eq_false_iff_not] at h'
    omega
  have e2 : V.KeepRe b a = 0 → (decide ((0 : Int) ≤ V.KeepZag (V.KeepRx b a)) && decide (V.KeepZag (V.KeepRx b a) ≤ m)) = true → KeepCn b a m = 0 := fun h h' => by
    unfold KeepCn
    rw [if_neg (by simp [h]), if_neg]
    simp only [Bool.and_eq_true, decide_eq_true_eq] at h'
    omega
  suffices H : ∀ R : Ending → World → Prop, (∀ w', KeepCn b a m = 0 → RB rb rv (V.KeepRn b a) w w' → R (.returned (.int .i64 (V.KeepZag (V.KeepRx b a)))) w') → (∀ e w', e ≠ 0 → KeepCn b a m = e → (∃ a', RB rb rv a' w w') → R (.panicked (bad e)) w') →
      Calls Try.prog 42 #[.pointer (some ⟨rb, 0, none⟩), .int .i64 m] w R from H _ (fun w' h h' => .inl ⟨h, rfl, h'⟩) (fun e w' h h' h3 => .inr ⟨by rw [h']; exact h, by rw [h'], h3⟩)
  intro R hR hP
  obtain ⟨bb, hbb⟩ : ∃ bb, (decide ((0 : Int) ≤ V.KeepZag (V.KeepRx b a)) && decide (V.KeepZag (V.KeepRx b a) ≤ m)) = bb := ⟨_, rfl⟩
  have hw := fun w' => within_calls (V.KeepZag (V.KeepRx b a)) 0 m w'
  rw [hbb] at hw e1 e2
  clear hbb
  go_enter Try.func42, Try.ntmps42
  cases bb
  all_goals go_wp2_with (first | (go_at_call 43; refine hn.mono ?_; rintro e w1 (⟨c, rfl, hb⟩ | ⟨c, rfl, hb⟩)) | (go_at_call 28; refine (hw _).mono ?_; rintro e w1 ⟨rfl, rfl⟩))
  · exact ⟨rfl, hP 4 _ (by decide) (e1 c trivial) ⟨_, hb⟩⟩
  · exact ⟨rfl, hP _ _ c (e0 c) ⟨_, hb⟩⟩
  · skip
    exact hR _ (e2 c trivial) hb
  · exact ⟨rfl, hP _ _ c (e0 c) ⟨_, hb⟩⟩
end Go.Proofs.Ytlckkciicchneaa
end
section
namespace Go.Proofs.Ytlckkciicchneaa
open Go.RowKit
set_option linter.unusedVariables false
section
variable {P : Program} {ops : Array Oper} {Q : Exit → Act → World → Prop} {md : Region.Mode} {S : World → Prop} {D : Nat}
/-- Whatever order is picked from here on; S holds behind every operation till number D has come up. -/
def wpAnyG (P : Program) (md : Region.Mode) (ops : Array Oper) (Q : Exit → Act → World → Prop) (S : World → Prop) (D : Nat) : Nat → Array Bool → Act → World → Prop
  | 0, listed, a, w => Region.ready md ops listed = [] ∧ Q .normal a w
  | fuel + 1, listed, a, w =>
    (Region.ready md ops listed = [] → Q .normal a w) ∧
    ∀ i ∈ Region.ready md ops listed, wpOp P ops Q i (fun a' w' => ((listed.setIfInBounds i true).getD D true = false → S w') ∧ wpAnyG P md ops Q S D fuel (listed.setIfInBounds i true) a' w') a w
theorem wpAny_of_G : ∀ (fuel : Nat) (listed : Array Bool) (a : Act) (w : World), wpAnyG P md ops Q S D fuel listed a w → wpAny P md ops Q fuel listed a w
  | 0, _, _, _, h => h
  | fuel + 1, _, _, _, h => ⟨h.1, fun i hi => wpOp_mono (fun a' w' h' => wpAny_of_G fuel _ a' w' h'.2) (h.2 i hi)⟩
theorem wpAnyG_first {S0 : World → Prop} {i : Nat} {oi : Oper} {v : Value} (hi : ops[i]? = some oi) (hsel : ∀ (j : Nat) (o : Oper) cs b, ops[j]? = some o → o.op ≠ .select cs b)
    (hQ : ∀ c a w, Q (.panic c) (a.put oi.dst v) w → Q (.panic c) a w) (hiD : D ≠ i)
    (hS0 : (∀ w, S0 w) ∨ ((∀ w, S w → S0 w) ∧ ∃ oD, ops[D]? = some oD ∧ ∃ e ∈ oD.after, Region.binds md e = true ∧ e.on = i)) :
    ∀ (fuel : Nat) (listed : Array Bool) (a : Act) (w : World),
      (∀ j oj, ops[j]? = some oj → j ≠ i → listed.getD j true = false → (∀ e ∈ oj.after, Region.binds md e = true → e.on ≠ i) → oi.apart ops oj = true) →
      i ∈ Region.ready md ops listed → YieldsIf P ops S0 oi v a → S0 w → (listed.getD D true = false → S w) →
      ((∀ w, S0 w) ∨ listed.getD D true = false) →
      wpAnyG P md ops Q S D fuel (listed.setIfInBounds i true) (a.put oi.dst v) w → wpAnyG P md ops Q S D (fuel + 1) listed a w := by
  have dn : ∀ listed : Array Bool, (listed.setIfInBounds i true).getD D true = listed.getD D true := fun listed => getD_set_ne true (Ne.symm hiD)
  intro fuel
  induction fuel with
  | zero =>
    intro listed a w _ hr hy h0 hS hD H
    refine ⟨fun h => (by rw [h] at hr; cases hr), fun j hj => ?_⟩
    by_cases hji : j = i
    · subst hji; exact hy.wpOp hi h0 ⟨fun h => hS (by rw [← dn]; exact h), H⟩
    · have := ready_mono hj hji
      rw [H.1] at this
      cases this
  | succ fuel ih =>
    intro listed a w hfree hr hy h0 hS hD H
    refine ⟨fun h => (by rw [h] at hr; cases hr), fun j hj => ?_⟩
    by_cases hji : j = i
    · subst hji; exact hy.wpOp hi h0 ⟨fun h => hS (by rw [← dn]; exact h), H⟩
    · have h1 := H.2 j (ready_mono hj hji)
      obtain ⟨hjun, oj, hoj, hall⟩ := mem_ready.1 hj
      have wait : ∀ oj' : Oper, (∀ e ∈ oj'.after, Region.binds md e = true → listed.getD e.on false = true) → ∀ e ∈ oj'.after, Region.binds md e = true → e.on ≠ i := fun oj' hall e he hb heq => by
        have h1 := hall e he hb
        have h0 := (mem_ready.1 hr).1
        rw [heq] at h1
        rcases Nat.lt_or_ge i listed.size with h' | h'
        · simp [h'] at h0 h1; rw [h0] at h1; cases h1
        · simp [Array.getElem?_eq_none h'] at h1
      have hnot := wait oj hall
      have h2 := wpOp_putIf hoj (hfree j oj hoj hji hjun hnot) (fun cs b => hsel i oi cs b hi) (fun cs b => hsel j oj cs b hoj) hQ hy h1
      have hfree' : ∀ k ok, ops[k]? = some ok → k ≠ i → (listed.setIfInBounds j true).getD k true = false →
          (∀ e ∈ ok.after, Region.binds md e = true → e.on ≠ i) → oi.apart ops ok = true := fun k ok hk hki hun hno => by
        refine hfree k ok hk hki ?_ hno
        by_cases hjk : j = k
        · subst hjk; exact hjun
        · rw [getD_set_ne true hjk] at hun; exact hun
      refine wpOp_mono (fun a' w' h3 => ?_) h2
      obtain ⟨h3, h4, h5⟩ := h3
      have h4 : ((listed.setIfInBounds j true).getD D true = false → S w') := fun h => h4 (by rw [Array.setIfInBounds_comm _ _ (Ne.symm hji), dn]; exact h)
      have hD' : (∀ w, S0 w) ∨ (listed.setIfInBounds j true).getD D true = false := by
        rcases hS0 with hS0 | ⟨_, oD, hoD, e, he, hb, hon⟩
        · exact .inl hS0
        · rcases hD with hD | hD
          · exact .inl hD
          · refine .inr ?_
            have hjD : j ≠ D := fun h => by
              subst h
              rw [hoj] at hoD
              cases hoD
              exact hnot e he hb hon
            rw [getD_set_ne true hjD]; exact hD
      refine ⟨h4, ih (listed.setIfInBounds j true) a' w' hfree' (ready_mono hr (Ne.symm hji)) h3 ?_ h4 hD' ?_⟩
      · rcases hS0 with hS0 | ⟨hS0, _⟩
        · exact hS0 _
        · rcases hD' with h | h
          · exact h _
          · exact hS0 _ (h4 h)
      · rw [Array.setIfInBounds_comm _ _ hji]
        exact h5
/-- Take number i first: whatever the world is. -/
theorem wpAnyG_take {i : Nat} {oi : Oper} {v : Value} {fuel : Nat} {listed : Array Bool} {a : Act} {w : World} (hi : ops[i]? = some oi)
    (hs : Region.noSelect ops = true) (hf : Region.free md ops listed i = true) (hr : (Region.ready md ops listed).contains i = true) (hiD : D ≠ i)
    (hQ : ∀ c a w, Q (.panic c) (a.put oi.dst v) w → Q (.panic c) a w) (hy : YieldsIf P ops (fun _ => True) oi v a) (hS : S w)
    (h : wpAnyG P md ops Q S D fuel (listed.setIfInBounds i true) (a.put oi.dst v) w) : wpAnyG P md ops Q S D (fuel + 1) listed a w :=
  wpAnyG_first hi (Region.noSelect_spec hs) hQ hiD (.inl fun _ => trivial) fuel listed a w (Region.free_spec hi hf) (by simpa using hr) hy trivial (fun _ => hS) (.inl fun _ => trivial) h
/-- Take a load first, that number D waits for. -/
theorem wpAnyG_load {i : Nat} {oi oD : Oper} {v : Value} {fuel : Nat} {listed : Array Bool} {a : Act} {w : World} (hi : ops[i]? = some oi)
    (hs : Region.noSelect ops = true) (hf : Region.free md ops listed i = true) (hr : (Region.ready md ops listed).contains i = true) (hiD : D ≠ i) (hD : ops[D]? = some oD) (hDw : (oD.after.any fun e => Region.binds md e && Nat.beq e.on i) = true)
    (hl : listed.getD D true = false)
    (hQ : ∀ c a w, Q (.panic c) (a.put oi.dst v) w → Q (.panic c) a w) (hy : YieldsIf P ops S oi v a) (hS : S w)
    (h : wpAnyG P md ops Q S D fuel (listed.setIfInBounds i true) (a.put oi.dst v) w) : wpAnyG P md ops Q S D (fuel + 1) listed a w := by
  refine wpAnyG_first hi (Region.noSelect_spec hs) hQ hiD (.inr ⟨fun _ h => h, oD, hD, ?_⟩) fuel listed a w (Region.free_spec hi hf) (by simpa using hr) hy hS (fun _ => hS) (.inr hl) h
  simp only [Array.any_eq_true', Bool.and_eq_true] at hDw
  obtain ⟨e, he, h1, h2⟩ := hDw
  exact ⟨e, he, h1, Nat.eq_of_beq_eq_true h2⟩
/-- One alone may come up. -/
theorem wpAnyG_one {i : Nat} {fuel : Nat} {listed : Array Bool} {a : Act} {w : World} (hr : Region.ready md ops listed = [i])
    (h : wpOp P ops Q i (fun a' w' => ((listed.setIfInBounds i true).getD D true = false → S w') ∧ wpAnyG P md ops Q S D fuel (listed.setIfInBounds i true) a' w') a w) : wpAnyG P md ops Q S D (fuel + 1) listed a w :=
  ⟨fun h0 => (by rw [hr] at h0; cases h0), fun j hj => by rw [hr] at hj; rw [List.mem_singleton.1 hj]; exact h⟩
/-- .. and what follows is handed over behind a 'for every K'. -/
theorem wpAnyG_step {i : Nat} {o : Oper} {fuel : Nat} {listed : Array Bool} {a : Act} {w : World} (hr : Region.ready md ops listed = [i]) (ho : ops[i]? = some o) (hw : Region.wanted o (yielded ops a.tmps) = true)
    (h : ∀ K' : Act → World → Prop, Shut (∀ a w, ((listed.setIfInBounds i true).getD D true = false → S w) → wpAnyG P md ops Q S D fuel (listed.setIfInBounds i true) a w → K' a w) → Oper.wp P o a w K' Q) : wpAnyG P md ops Q S D (fuel + 1) listed a w :=
  wpAnyG_one hr (wpOp_step ho (fun K' hK => by rw [if_pos hw]; exact h K' (fun a w hS hW => hK a w ⟨hS, hW⟩)))
/-- .. behind number D. -/
theorem wpAnyG_stepD {i : Nat} {o : Oper} {fuel : Nat} {listed : Array Bool} {a : Act} {w : World} (hr : Region.ready md ops listed = [i]) (ho : ops[i]? = some o) (hw : Region.wanted o (yielded ops a.tmps) = true) (hl : (listed.setIfInBounds i true).getD D true = true)
    (h : ∀ K' : Act → World → Prop, Shut (∀ a w, wpAnyG P md ops Q S D fuel (listed.setIfInBounds i true) a w → K' a w) → Oper.wp P o a w K' Q) : wpAnyG P md ops Q S D (fuel + 1) listed a w :=
  wpAnyG_one hr (wpOp_step ho (fun K' hK => by rw [if_pos hw]; exact h K' (fun a w hW => hK a w ⟨fun h => Bool.noConfusion (hl.symm.trans h), hW⟩)))
theorem wpAnyG_done {listed : Array Bool} {a : Act} {w : World} (hr : Region.ready md ops listed = []) (h : Q .normal a w) :
    ∀ fuel, wpAnyG P md ops Q S D fuel listed a w
  | 0 => ⟨hr, h⟩
  | _ + 1 => ⟨fun _ => h, by rw [hr]; simp⟩
theorem wp_region_G {id : Nat} {a : Act} {w : World} (D : Nat) (S : World → Prop) (hm : P.follows .mixedOrders = true)
    (h : wpAnyG P .any ops Q S D ops.size (Array.replicate ops.size false) a w.drew) : (Code.region id ops true).wp P Q a w :=
  wp_region_any hm (wpAny_of_G _ _ _ _ h)
theorem wp_app {o : Oper} {a : Act} {w w' : World} {K : Act → World → Prop} (t u : TypeId) (x y : Operand) (hop : o.op = .call ⟨.builtin .append, #[x, y], #[t, u]⟩) (vx vy v' : Value)
    (hx : a.eval x = vx) (hy : a.eval y = vy) (hrun : (Builtin.append_ #[t, u] o.type #[vx, vy]).run P w = .ok v' w') (hK : K (a.put o.dst v') w') : o.wp P a w K Q := by
  unfold Oper.wp
  simp [execOp, hop, resolve, invoke, builtin, hx, hy, hrun, Result.andThen]
  exact hK
end
end Go.Proofs.Ytlckkciicchneaa
end
section
namespace Go.Proofs.Ytlckkciicchneaa
open SY
open Go.RowKit
set_option linter.unusedVariables false
set_option maxRecDepth 100000
theorem app_own {P : Program} {w : World} {base : Nat} {t e : TypeId} {ks : List CK} {ti : TypeInfo} {z : Value} (ht : P.underlying t = some (.slice e)) (hel : ElOK P ks e ti z) (hp : 0 < ks.length)
    {v : Value} {n : Nat} {xs : List Value} (hown : w.ownsRow base e ks.length v n xs) (ad : Addr) (c : Nat) (news : List Value) (hl : news.length = ks.length) (hnews : ∀ j u, news[j]? = some u → w.cell? (ad.add j) = some u) (h1 : ∀ u ∈ news, u.oneCell' = true)
    (hn : n ≤ 1000) (hbase : base ≤ w.heap.size) (ty : TypeId) :
    ∃ v' w', (Builtin.append_ #[t, t] ty #[v, .slice (some ad) 1 c]).run P w = .ok v' w' ∧ w'.ownsRow base e ks.length v' (n + 1) (xs ++ news) ∧ w.grownBy w' v.ownBlock ∧ (v'.ownBlock = v.ownBlock ∨ v'.ownBlock = some w.heap.size) := by
  have hb : (n + 1) * ti.bytes ≤ 140737488355328 := by
    have := Nat.mul_le_mul (show n + 1 ≤ 1001 by omega) hel.bytes
    omega
  have hm : n + 1 ≤ maxLen := by unfold maxLen; omega
  obtain ⟨v', w', hr, a1, a2, _⟩ := run_append_own (P := P) w base t ty e ti z ks.length ti.bytes ht hel.info hel.zero hel.size rfl (hel.zsize.trans hel.size) hp v n xs hown ad 1 c news (by rw [hl, Nat.one_mul]) hnews h1 hm hb hbase
  refine ⟨v', w', hr, a1, a2, ?_⟩
  rcases hown.2 with ⟨rfl, rfl⟩ | ⟨q, cap, cur, rfl, b1, b2, b3, b4, b5, b6⟩
  · have := run_append_nil (P := P) w t ty e ti z ht hel.info hel.zero ad 1 c news (by rw [hl, hel.size, Nat.one_mul]) hnews (by decide) (by decide) (by omega)
    rw [this] at hr
    cases hr
    exact .inr rfl
  · by_cases hroom : n + 1 ≤ cap
    · have := run_append_room (P := P) w t ty e ti ht hel.info q n cap cur b2 ad 1 c news (by rw [hl, hel.size, Nat.one_mul]) hnews h1 hroom (by
        have := Nat.mul_le_mul_right ks.length hroom
        rw [hl, hel.size, b5]
        rw [Nat.add_mul, Nat.one_mul] at this
        exact this)
      rw [this] at hr
      cases hr
      exact .inl rfl
    · have := run_append_grow (P := P) w t ty e ti z ht hel.info hel.zero ⟨q, 0, none⟩ n cap xs (by rw [hown.1, hel.size]) (hown.cells (g := q) rfl) ad 1 c news (by rw [hl, hel.size, Nat.one_mul]) hnews (by omega) (by unfold maxLen at hm; omega) (growslice_fits (by omega) hb)
      rw [this] at hr
      cases hr
      exact .inr rfl
/-- What stands while a program is read: w1: the world as it began. -/
structure PS (w1 : World) (rb : Nat) (rv : Value) (a : Int) (v1 v2 v3 : Value) (cd ks ss : List Int) (x y z : Int) (n : Nat) (w : World) : Prop where
  lt : rb < w1.heap.size
  gr : w1.grownBy w (some rb)
  rd : w.heap[rb]? = some (.cells #[rv, .int .i64 a] 62 (0, 0))
  pg : w.heap[w1.heap.size]? = some (.cells #[v1, v2, v3, .int .i64 x, .int .i64 y, .int .i64 z] 25 (0, 0))
  o1 : w.ownsRow (w1.heap.size + 1) 40 4 v1 n (cd.map (Value.int .i64))
  o2 : w.ownsRow (w1.heap.size + 1) 3 1 v2 ks.length (ks.map (Value.int .i64))
  o3 : w.ownsRow (w1.heap.size + 1) 3 1 v3 ss.length (ss.map (Value.int .i64))
  d12 : v1.ownBlock = none ∨ v1.ownBlock ≠ v2.ownBlock
  d13 : v1.ownBlock = none ∨ v1.ownBlock ≠ v3.ownBlock
  d23 : v2.ownBlock = none ∨ v2.ownBlock ≠ v3.ownBlock
variable {w1 : World} {rb : Nat} {rv : Value} {a : Int} {v1 v2 v3 : Value} {cd ks ss : List Int} {x y z : Int} {n : Nat} {w : World}
theorem PS.pgLt (h : PS w1 rb rv a v1 v2 v3 cd ks ss x y z n w) : w1.heap.size < w.heap.size := lt_of_heap h.pg
theorem PS.step (h : PS w1 rb rv a v1 v2 v3 cd ks ss x y z n w) {a' : Int} {w' : World} (r : RB rb rv a' w w') : PS w1 rb rv a' v1 v2 v3 cd ks ss x y z n w' := by
  have hl := h.lt
  have ne : ∀ {v : Value} {e : TypeId} {s m : Nat} {l : List Value}, w.ownsRow (w1.heap.size + 1) e s v m l → v.ownBlock = none ∨ v.ownBlock ≠ some rb := fun {v} _ _ _ _ ho => by
    cases hv : v.ownBlock with
    | none => exact .inl rfl
    | some k =>
      have := (ho.lt k hv).1
      exact .inr (fun e => by cases e; omega)
  exact ⟨h.lt, grown_trans h.gr r.gr, r.here, (r.gr.block _ h.pgLt (fun e => by cases e; omega)).trans h.pg, h.o1.kept r.gr (ne h.o1), h.o2.kept r.gr (ne h.o2), h.o3.kept r.gr (ne h.o3), h.d12, h.d13, h.d23⟩
theorem PS.grow (h : PS w1 rb rv a v1 v2 v3 cd ks ss x y z n w) {w' : World} (r : w.grownBy w' none) : PS w1 rb rv a v1 v2 v3 cd ks ss x y z n w' := by
  have ne : ∀ {v : Value}, v.ownBlock = none ∨ v.ownBlock ≠ none := fun {v} => by cases v.ownBlock <;> simp
  refine ⟨h.lt, ⟨r.os.trans h.gr.os, r.tape.trans h.gr.tape, r.output.trans h.gr.output, Nat.le_trans h.gr.size r.size, fun i hi hn => (r.block i (Nat.lt_of_lt_of_le hi h.gr.size) (by simp)).trans (h.gr.block i hi hn)⟩, (r.block _ (lt_of_heap h.rd) (by simp)).trans h.rd, (r.block _ h.pgLt (by simp)).trans h.pg, h.o1.kept r ne, h.o2.kept r ne, h.o3.kept r ne, h.d12, h.d13, h.d23⟩
theorem PS.drew (h : PS w1 rb rv a v1 v2 v3 cd ks ss x y z n w) : PS w1 rb rv a v1 v2 v3 cd ks ss x y z n w.drew := h.grow ⟨rfl, rfl, rfl, Nat.le_refl _, fun _ _ _ => rfl⟩
theorem PS.alloc (h : PS w1 rb rv a v1 v2 v3 cd ks ss x y z n w) (o : Obj) : PS w1 rb rv a v1 v2 v3 cd ks ss x y z n (w.alloc o) := h.grow (World.grownBy_alloc w o none)
/-- A store into the program's own struct. -/
theorem ps_store {cs : Array Value} (hl : rb < w1.heap.size) (gr : w1.grownBy w (some rb)) (rd : w.heap[rb]? = some (.cells #[rv, .int .i64 a] 62 (0, 0))) (pg : w.heap[w1.heap.size]? = some (.cells cs 25 (0, 0))) {k : Nat} {v : Value} (hk : k < cs.size) :
    w1.grownBy (w.setCell ⟨w1.heap.size, k, none⟩ v) (some rb) ∧ (w.setCell ⟨w1.heap.size, k, none⟩ v).heap[rb]? = some (.cells #[rv, .int .i64 a] 62 (0, 0)) ∧
    (w.setCell ⟨w1.heap.size, k, none⟩ v).heap[w1.heap.size]? = some (.cells (cs.set k v hk) 25 (0, 0)) ∧
    ∀ {u : Value} {e : TypeId} {s m : Nat} {l : List Value}, w.ownsRow (w1.heap.size + 1) e s u m l → (w.setCell ⟨w1.heap.size, k, none⟩ v).ownsRow (w1.heap.size + 1) e s u m l := by
  have g := grown_set w w1.heap.size k v
  refine ⟨⟨g.os.trans gr.os, g.tape.trans gr.tape, g.output.trans gr.output, Nat.le_trans gr.size g.size, fun i hi hn => (g.block i (Nat.lt_of_lt_of_le hi gr.size) (fun e => by cases e; omega)).trans (gr.block i hi hn)⟩, (g.block _ (lt_of_heap rd) (fun e => by cases e; omega)).trans rd, set_heap pg hk, fun {u} _ _ _ _ ho => ho.kept g ?_⟩
  cases hv : u.ownBlock with
  | none => exact .inl rfl
  | some k =>
    have := (ho.lt k hv).1
    exact .inr (fun e => by cases e; omega)
theorem PS.setx (h : PS w1 rb rv a v1 v2 v3 cd ks ss x y z n w) (x' : Int) : PS w1 rb rv a v1 v2 v3 cd ks ss x' y z n (w.setCell ⟨w1.heap.size, 3, none⟩ (.int .i64 x')) := by
  obtain ⟨a1, a2, a3, a4⟩ := ps_store (v := .int .i64 x') h.lt h.gr h.rd h.pg (k := 3) (by show 3 < 6; decide)
  exact ⟨h.lt, a1, a2, a3, a4 h.o1, a4 h.o2, a4 h.o3, h.d12, h.d13, h.d23⟩
theorem PS.sety (h : PS w1 rb rv a v1 v2 v3 cd ks ss x y z n w) (x' : Int) : PS w1 rb rv a v1 v2 v3 cd ks ss x x' z n (w.setCell ⟨w1.heap.size, 4, none⟩ (.int .i64 x')) := by
  obtain ⟨a1, a2, a3, a4⟩ := ps_store (v := .int .i64 x') h.lt h.gr h.rd h.pg (k := 4) (by show 4 < 6; decide)
  exact ⟨h.lt, a1, a2, a3, a4 h.o1, a4 h.o2, a4 h.o3, h.d12, h.d13, h.d23⟩
theorem PS.setz (h : PS w1 rb rv a v1 v2 v3 cd ks ss x y z n w) (x' : Int) : PS w1 rb rv a v1 v2 v3 cd ks ss x y x' n (w.setCell ⟨w1.heap.size, 5, none⟩ (.int .i64 x')) := by
  obtain ⟨a1, a2, a3, a4⟩ := ps_store (v := .int .i64 x') h.lt h.gr h.rd h.pg (k := 5) (by show 5 < 6; decide)
  exact ⟨h.lt, a1, a2, a3, a4 h.o1, a4 h.o2, a4 h.o3, h.d12, h.d13, h.d23⟩
theorem PS.stay (h : PS w1 rb rv a v1 v2 v3 cd ks ss x y z n w) {k : Nat} {v : Value} (hk : #[v1, v2, v3, .int .i64 x, .int .i64 y, .int .i64 z][k]? = some v) : PS w1 rb rv a v1 v2 v3 cd ks ss x y z n (w.setCell ⟨w1.heap.size, k, none⟩ v) := by
  obtain ⟨hlt, hv⟩ := Array.getElem?_eq_some_iff.1 hk
  obtain ⟨a1, a2, a3, a4⟩ := ps_store (v := v) h.lt h.gr h.rd h.pg (k := k) hlt
  refine ⟨h.lt, a1, a2, ?_, a4 h.o1, a4 h.o2, a4 h.o3, h.d12, h.d13, h.d23⟩
  rw [a3]
  congr 2
  rw [← hv]
  exact Array.set_getElem_self hlt
theorem PS.cell (h : PS w1 rb rv a v1 v2 v3 cd ks ss x y z n w) (k : Nat) : w.cell? ⟨w1.heap.size, k, none⟩ = #[v1, v2, v3, .int .i64 x, .int .i64 y, .int .i64 z][k]? := cell_of_row _ _ _ _ _ _ h.pg
theorem PS.thawed (h : PS w1 rb rv a v1 v2 v3 cd ks ss x y z n w) (k : Nat) : w.frozen? ⟨w1.heap.size, k, none⟩ = false := by simp [World.frozen?, h.pg]
theorem other {q q2 : Option Nat} {s : Nat} (h2 : ∀ k, q2 = some k → k < s) (hd : q2 = none ∨ q2 ≠ q) {q' : Option Nat} (hq : q' = q ∨ q' = some s) : q2 = none ∨ q2 ≠ q' := by
  rcases hq with rfl | rfl
  · exact hd
  · cases q2 with
    | none => exact .inl rfl
    | some k => exact .inr (fun e => by cases e; have := h2 s rfl; omega)
theorem flipD {q q' : Option Nat} (h : q = none ∨ q ≠ q') : q' = none ∨ q' ≠ q := by
  cases q' with
  | none => exact .inl rfl
  | some k =>
    refine .inr (fun e => ?_)
    rcases h with h | h
    · rw [← e] at h; cases h
    · exact h e.symm
theorem own_ge {base : Nat} {e : TypeId} {s m : Nat} {l : List Value} {v : Value} (ho : w.ownsRow base e s v m l) {k : Nat} (hk : k < base) : some k ≠ v.ownBlock := fun e => by
  have := (ho.lt k e.symm).1
  omega
/-- What an append to one of the slices leaves of the rest. -/
theorem ps_app {w' : World} {u : Value} {e : TypeId} {s m : Nat} {l : List Value} (h : PS w1 rb rv a v1 v2 v3 cd ks ss x y z n w) (hu : w.ownsRow (w1.heap.size + 1) e s u m l) (gr : w.grownBy w' u.ownBlock) :
    w1.grownBy w' (some rb) ∧ w'.heap[rb]? = some (.cells #[rv, .int .i64 a] 62 (0, 0)) ∧ w'.heap[w1.heap.size]? = some (.cells #[v1, v2, v3, .int .i64 x, .int .i64 y, .int .i64 z] 25 (0, 0)) := by
  have hl := h.lt
  exact ⟨⟨gr.os.trans h.gr.os, gr.tape.trans h.gr.tape, gr.output.trans h.gr.output, Nat.le_trans h.gr.size gr.size, fun i hi hn => (gr.block i (Nat.lt_of_lt_of_le hi h.gr.size) (own_ge hu (by omega))).trans (h.gr.block i hi hn)⟩,
    (gr.block _ (lt_of_heap h.rd) (own_ge hu (by omega))).trans h.rd, (gr.block _ h.pgLt (own_ge hu (by omega))).trans h.pg⟩
theorem cell_pg {w' : World} {cs : Array Value} {t : TypeId} {b : Nat} (h : w'.heap[b]? = some (.cells cs t (0, 0))) (k : Nat) : w'.cell? ⟨b, k, none⟩ = cs[k]? ∧ w'.frozen? ⟨b, k, none⟩ = false := ⟨cell_of_row _ _ _ _ _ _ h, by simp [World.frozen?, h]⟩
theorem news_at (w : World) (cs : Array Value) (t : TypeId) : ∀ (j : Nat) (u : Value), cs.toList[j]? = some u → (w.alloc (.cells cs t)).cell? ((⟨w.heap.size, 0, none⟩ : Addr).add j) = some u := fun j u h => by
  have e : (⟨w.heap.size, 0, none⟩ : Addr).add j = ⟨w.heap.size, j, none⟩ := by rw [Addr.add_lit, Nat.zero_add]
  rw [e, cell_of_row _ _ _ _ _ _ (heap_alloc_new w _)]
  simpa using h
theorem row_shape {base : Nat} {e : TypeId} {s m : Nat} {l : List Value} {v : Value} (ho : w.ownsRow base e s v m l) : ∃ A k c, v = .slice A k c := by
  rcases ho.2 with ⟨h, _⟩ | ⟨q, cap, cur, h, _⟩
  · exact ⟨_, _, _, h⟩
  · exact ⟨_, _, _, h⟩
theorem PS.push1 (h : PS w1 rb rv a v1 v2 v3 cd ks ss x y z n w) (hn : n ≤ 1000) (i1 i2 i3 i4 : Int) (ty : TypeId) :
    ∃ v' w', (Builtin.append_ #[22, 22] ty #[v1, .slice (some ⟨w.heap.size, 0, none⟩) 1 1]).run Try.prog (w.alloc (.cells #[.int .i64 i1, .int .i64 i2, .int .i64 i3, .int .i64 i4] 40)) = .ok v' w' ∧
      w'.cell? ⟨w1.heap.size, 0, none⟩ = some v1 ∧ w'.frozen? ⟨w1.heap.size, 0, none⟩ = false ∧ PS w1 rb rv a v' v2 v3 (cd ++ [i1, i2, i3, i4]) ks ss x y z (n + 1) (w'.setCell ⟨w1.heap.size, 0, none⟩ v') := by
  obtain ⟨ti, zz, hel⟩ := el_ok (P := Try.prog) (e := 40) (ks := [.int .i64, .int .i64, .int .i64, .int .i64]) (by kernel_rfl) (by kernel_rfl)
  have h' := h.alloc (.cells #[.int .i64 i1, .int .i64 i2, .int .i64 i3, .int .i64 i4] 40)
  obtain ⟨v', w', hr, a1, a2, a3⟩ := app_own (P := Try.prog) (t := 22) Try.underlying22 hel (by decide) h'.o1 ⟨w.heap.size, 0, none⟩ 1 [.int .i64 i1, .int .i64 i2, .int .i64 i3, .int .i64 i4] rfl (news_at w #[.int .i64 i1, .int .i64 i2, .int .i64 i3, .int .i64 i4] 40) (by simp [Value.oneCell']) hn h'.pgLt ty
  obtain ⟨b1, b2, b3⟩ := ps_app h' h'.o1 a2
  obtain ⟨c1, c2, c3, c4⟩ := ps_store (v := v') h'.lt b1 b2 b3 (k := 0) (by show 0 < 6; decide)
  have e := cell_pg b3 0
  exact ⟨v', w', hr, e.1, e.2, h'.lt, c1, c2, c3, c4 (by simpa using a1), c4 (h'.o2.kept a2 (flipD h'.d12)), c4 (h'.o3.kept a2 (flipD h'.d13)),
    flipD (other (fun k hk => (h'.o2.lt k hk).2) (flipD h'.d12) a3), flipD (other (fun k hk => (h'.o3.lt k hk).2) (flipD h'.d13) a3), h'.d23⟩
theorem PS.push2 (h : PS w1 rb rv a v1 v2 v3 cd ks ss x y z n w) (hn : ks.length ≤ 1000) (i1 : Int) (ty : TypeId) :
    ∃ v' w', (Builtin.append_ #[23, 23] ty #[v2, .slice (some ⟨w.heap.size, 0, none⟩) 1 1]).run Try.prog (w.alloc (.cells #[.int .i64 i1] 3)) = .ok v' w' ∧
      w'.cell? ⟨w1.heap.size, 1, none⟩ = some v2 ∧ w'.frozen? ⟨w1.heap.size, 1, none⟩ = false ∧ PS w1 rb rv a v1 v' v3 cd (ks ++ [i1]) ss x y z n (w'.setCell ⟨w1.heap.size, 1, none⟩ v') := by
  obtain ⟨ti, zz, hel⟩ := el_ok (P := Try.prog) (e := 3) (ks := [.int .i64]) (by kernel_rfl) (by kernel_rfl)
  have h' := h.alloc (.cells #[.int .i64 i1] 3)
  obtain ⟨v', w', hr, a1, a2, a3⟩ := app_own (P := Try.prog) (t := 23) Try.underlying23 hel (by decide) h'.o2 ⟨w.heap.size, 0, none⟩ 1 [.int .i64 i1] rfl (news_at w #[.int .i64 i1] 3) (by simp [Value.oneCell']) hn h'.pgLt ty
  obtain ⟨b1, b2, b3⟩ := ps_app h' h'.o2 a2
  obtain ⟨c1, c2, c3, c4⟩ := ps_store (v := v') h'.lt b1 b2 b3 (k := 1) (by show 1 < 6; decide)
  have e := cell_pg b3 1
  exact ⟨v', w', hr, e.1, e.2, h'.lt, c1, c2, c3, c4 (h'.o1.kept a2 h'.d12), c4 (by simpa using a1), c4 (h'.o3.kept a2 (flipD h'.d23)),
    other (fun k hk => (h'.o1.lt k hk).2) h'.d12 a3, h'.d13, flipD (other (fun k hk => (h'.o3.lt k hk).2) (flipD h'.d23) a3)⟩
theorem PS.push3 (h : PS w1 rb rv a v1 v2 v3 cd ks ss x y z n w) (hn : ss.length ≤ 1000) (i1 : Int) (ty : TypeId) :
    ∃ v' w', (Builtin.append_ #[23, 23] ty #[v3, .slice (some ⟨w.heap.size, 0, none⟩) 1 1]).run Try.prog (w.alloc (.cells #[.int .i64 i1] 3)) = .ok v' w' ∧
      w'.cell? ⟨w1.heap.size, 2, none⟩ = some v3 ∧ w'.frozen? ⟨w1.heap.size, 2, none⟩ = false ∧ PS w1 rb rv a v1 v2 v' cd ks (ss ++ [i1]) x y z n (w'.setCell ⟨w1.heap.size, 2, none⟩ v') := by
  obtain ⟨ti, zz, hel⟩ := el_ok (P := Try.prog) (e := 3) (ks := [.int .i64]) (by kernel_rfl) (by kernel_rfl)
  have h' := h.alloc (.cells #[.int .i64 i1] 3)
  obtain ⟨v', w', hr, a1, a2, a3⟩ := app_own (P := Try.prog) (t := 23) Try.underlying23 hel (by decide) h'.o3 ⟨w.heap.size, 0, none⟩ 1 [.int .i64 i1] rfl (news_at w #[.int .i64 i1] 3) (by simp [Value.oneCell']) hn h'.pgLt ty
  obtain ⟨b1, b2, b3⟩ := ps_app h' h'.o3 a2
  obtain ⟨c1, c2, c3, c4⟩ := ps_store (v := v') h'.lt b1 b2 b3 (k := 2) (by show 2 < 6; decide)
  have e := cell_pg b3 2
  exact ⟨v', w', hr, e.1, e.2, h'.lt, c1, c2, c3, c4 (h'.o1.kept a2 h'.d13), c4 (h'.o2.kept a2 h'.d23), c4 (by simpa using a1),
    h'.d12, other (fun k hk => (h'.o1.lt k hk).2) h'.d13 a3, other (fun k hk => (h'.o2.lt k hk).2) h'.d23 a3⟩
end Go.Proofs.Ytlckkciicchneaa
end
section
namespace Go.Proofs.Ytlckkciicchneaa
open SY
open Go.RowKit
set_option linter.unusedVariables false
set_option linter.unusedSimpArgs false
set_option maxRecDepth 100000
/-- The error that ends the reading of a program's numbers, or none. -/
def KeepPe (b : List Int) (a : Int) : Int := if KeepCe b a 60 4 ≠ 0 then KeepCe b a 60 4 else if KeepCe b (KeepCc b a 60 4) 8 2 ≠ 0 then KeepCe b (KeepCc b a 60 4) 8 2 else KeepMe b (KeepCc b (KeepCc b a 60 4) 8 2) 3
theorem ms_ok {b : List Int} {a c : Int} {k : Nat} {l : List Int} (h : KeepMs b a k = (c, l, 0)) (he : V.KeepRe b c = 0) : KeepMs b a (k + 1) = (V.KeepRn b c, l ++ [V.KeepZag (V.KeepRx b c)], 0) := by
  rw [ms_succ, h, if_neg (by simp), if_neg (by simp [he])]
theorem ms_bad {b : List Int} {a c : Int} {k : Nat} {l : List Int} (h : KeepMs b a k = (c, l, 0)) (he : V.KeepRe b c ≠ 0) {n : Int} (hn : k < n.toNat) : KeepMe b a n = V.KeepRe b c := by
  have st : KeepMs b a (k + 1) = (0, [], V.KeepRe b c) := by rw [ms_succ, h, if_neg (by simp), if_pos he]
  have := ms_err (b := b) (a := a) (k := k + 1) (by rw [st]; exact he) (n.toNat - (k + 1))
  unfold KeepMe
  rw [show n.toNat = k + 1 + (n.toNat - (k + 1)) by omega, this, st]
theorem cn_ok {b : List Int} {a m : Int} (h : KeepCn b a m = 0) : V.KeepRe b a = 0 ∧ 0 ≤ V.KeepZag (V.KeepRx b a) ∧ V.KeepZag (V.KeepRx b a) ≤ m := by
  unfold KeepCn at h
  by_cases c : V.KeepRe b a ≠ 0
  · rw [if_pos c] at h; exact absurd h c
  · rw [if_neg c] at h
    have c := Decidable.not_not.1 c
    by_cases d : V.KeepZag (V.KeepRx b a) < 0 ∨ V.KeepZag (V.KeepRx b a) > m
    · rw [if_pos d] at h; cases h
    · exact ⟨c, by omega, by omega⟩
theorem me_one (b : List Int) (a : Int) : KeepMe b a 1 = V.KeepRe b a := by
  show (KeepMs b a 1).2.2 = _
  rw [ms_one]
  by_cases c : V.KeepRe b a ≠ 0
  · rw [if_pos c]
  · rw [if_neg c]; exact (Decidable.not_not.1 c).symm
theorem ms_one_ok {b : List Int} {a : Int} (h : V.KeepRe b a = 0) : KeepMl b a 1 = [V.KeepZag (V.KeepRx b a)] ∧ KeepMc b a 1 = V.KeepRn b a := by
  have e : KeepMs b a 1 = (V.KeepRn b a, [V.KeepZag (V.KeepRx b a)], 0) := by rw [ms_one, if_neg (by simp [h])]
  have t : (1 : Int).toNat = 1 := rfl
  constructor
  · unfold KeepMl; rw [t, e]
  · unfold KeepMc; rw [t, e]; rfl
theorem ce_bad {b : List Int} {a m n : Int} (h : KeepCn b a m ≠ 0) : KeepCe b a m n = KeepCn b a m := by
  unfold KeepCe KeepCt
  by_cases c : V.KeepRe b a ≠ 0
  · rw [if_pos (by rw [me_one]; exact c)]
    show KeepMe b a 1 = _
    rw [me_one]; unfold KeepCn; rw [if_pos c]
  · have c' := Decidable.not_not.1 c
    rw [if_neg (by rw [me_one]; exact c), (ms_one_ok c').1]
    unfold KeepCn at h ⊢
    rw [if_neg c] at h ⊢
    by_cases d : V.KeepZag (V.KeepRx b a) < 0 ∨ V.KeepZag (V.KeepRx b a) > m
    · rw [if_pos d, if_pos (by exact d)]
    · rw [if_neg d] at h; exact absurd rfl h
theorem ct_ok {b : List Int} {a m n : Int} (h : KeepCn b a m = 0) : KeepCl b a m n = KeepMl b (V.KeepRn b a) (V.KeepZag (V.KeepRx b a) * n) ∧ KeepCc b a m n = KeepMc b (V.KeepRn b a) (V.KeepZag (V.KeepRx b a) * n) ∧ KeepCe b a m n = KeepMe b (V.KeepRn b a) (V.KeepZag (V.KeepRx b a) * n) := by
  obtain ⟨h1, h2, h3⟩ := cn_ok h
  have g0 : gI (KeepMl b a 1) 0 = V.KeepZag (V.KeepRx b a) := by rw [(ms_one_ok h1).1]; rfl
  have : KeepCt b a m n = (KeepMl b (V.KeepRn b a) (V.KeepZag (V.KeepRx b a) * n), KeepMc b (V.KeepRn b a) (V.KeepZag (V.KeepRx b a) * n), KeepMe b (V.KeepRn b a) (V.KeepZag (V.KeepRx b a) * n)) := by
    unfold KeepCt
    rw [if_neg (by rw [me_one]; simp [h1]), if_neg (by rw [g0]; omega), g0, (ms_one_ok h1).2]
  unfold KeepCl KeepCc KeepCe
  rw [this]
  exact ⟨rfl, rfl, rfl⟩
theorem ms_at {b : List Int} {a c : Int} {k : Nat} {l : List Int} (h : KeepMs b a k = (c, l, 0)) {n : Int} (hn : n.toNat = k) : KeepMl b a n = l ∧ KeepMc b a n = c ∧ KeepMe b a n = 0 := by
  unfold KeepMl KeepMc KeepMe
  rw [hn, h]
  exact ⟨rfl, rfl, rfl⟩
theorem pe_one {b : List Int} {a c : Int} {n j : Nat} {l : List Int} (hc : KeepCn b a 60 = 0) (hn : V.KeepZag (V.KeepRx b a) = n) (hj : j < 4 * n) (hm : KeepMs b (V.KeepRn b a) j = (c, l, 0)) (he : V.KeepRe b c ≠ 0) : KeepPe b a = V.KeepRe b c := by
  have := ms_bad hm he (n := (n : Int) * 4) (by omega)
  unfold KeepPe
  rw [(ct_ok hc).2.2, hn, this, if_pos he]
/-- What stands behind the instructions. -/
theorem pe_two {b : List Int} {a c : Int} {n : Nat} {l : List Int} (hc : KeepCn b a 60 = 0) (hn : V.KeepZag (V.KeepRx b a) = n) (hm : KeepMs b (V.KeepRn b a) (4 * n) = (c, l, 0)) : KeepCl b a 60 4 = l ∧ KeepCc b a 60 4 = c ∧ KeepCe b a 60 4 = 0 := by
  obtain ⟨e1, e2, e3⟩ := ct_ok (n := 4) hc
  rw [hn] at e1 e2 e3
  obtain ⟨f1, f2, f3⟩ := ms_at hm (n := (n : Int) * 4) (by omega)
  exact ⟨e1.trans f1, e2.trans f2, e3.trans f3⟩
theorem pe_cnt {b : List Int} {a c : Int} (h1 : KeepCc b a 60 4 = c) (h2 : KeepCe b a 60 4 = 0) (h : KeepCn b c 8 ≠ 0) : KeepPe b a = KeepCn b c 8 := by
  unfold KeepPe
  rw [if_neg (by simp [h2]), h1, ce_bad h, if_pos h]
theorem pe_obj {b : List Int} {a c d : Int} {n j : Nat} {l : List Int} (h1 : KeepCc b a 60 4 = c) (h2 : KeepCe b a 60 4 = 0) (hc : KeepCn b c 8 = 0) (hn : V.KeepZag (V.KeepRx b c) = n) (hj : j < 2 * n) (hm : KeepMs b (V.KeepRn b c) j = (d, l, 0)) (he : V.KeepRe b d ≠ 0) : KeepPe b a = V.KeepRe b d := by
  have := ms_bad hm he (n := (n : Int) * 2) (by omega)
  unfold KeepPe
  rw [if_neg (by simp [h2]), h1, (ct_ok hc).2.2, hn, this, if_pos he]
theorem pe_three {b : List Int} {c d : Int} {n : Nat} {l : List Int} (hc : KeepCn b c 8 = 0) (hn : V.KeepZag (V.KeepRx b c) = n) (hm : KeepMs b (V.KeepRn b c) (2 * n) = (d, l, 0)) : KeepCl b c 8 2 = l ∧ KeepCc b c 8 2 = d ∧ KeepCe b c 8 2 = 0 := by
  obtain ⟨e1, e2, e3⟩ := ct_ok (n := 2) hc
  rw [hn] at e1 e2 e3
  obtain ⟨f1, f2, f3⟩ := ms_at hm (n := (n : Int) * 2) (by omega)
  exact ⟨e1.trans f1, e2.trans f2, e3.trans f3⟩
theorem pe_rest {b : List Int} {a c d e : Int} {j : Nat} {l : List Int} (h1 : KeepCc b a 60 4 = c) (h2 : KeepCe b a 60 4 = 0) (h3 : KeepCc b c 8 2 = d) (h4 : KeepCe b c 8 2 = 0) (hj : j < 3) (hm : KeepMs b d j = (e, l, 0)) (he : V.KeepRe b e ≠ 0) : KeepPe b a = V.KeepRe b e := by
  unfold KeepPe
  rw [if_neg (by simp [h2]), h1, if_neg (by simp [h4]), h3, ms_bad hm he (n := 3) (by show j < 3; exact hj)]
theorem pe_end {b : List Int} {a c d e : Int} {l : List Int} (h1 : KeepCc b a 60 4 = c) (h2 : KeepCe b a 60 4 = 0) (h3 : KeepCc b c 8 2 = d) (h4 : KeepCe b c 8 2 = 0) (hm : KeepMs b d 3 = (e, l, 0)) : KeepPe b a = 0 := by
  unfold KeepPe
  rw [if_neg (by simp [h2]), h1, if_neg (by simp [h4]), h3, (ms_at hm (n := 3) rfl).2.2]
theorem ev_app {o r : List Int} : ∀ k, 2 * k ≤ o.length → KeepEv (o ++ r) k = KeepEv o k
  | 0, _ => rfl
  | k + 1, h => by
    show KeepEv (o ++ r) k ++ [gI (o ++ r) (2 * k)] = KeepEv o k ++ [gI o (2 * k)]
    rw [ev_app k (by omega)]
    have : gI (o ++ r) (2 * k) = gI o (2 * k) := by unfold gI; simp only [List.getD_eq_getElem?_getD]; rw [List.getElem?_append_left (by omega)]
    rw [this]
theorem odd_app {o r : List Int} : ∀ k, 2 * k ≤ o.length → KeepOdd (o ++ r) k = KeepOdd o k
  | 0, _ => rfl
  | k + 1, h => by
    show KeepOdd (o ++ r) k ++ [gI (o ++ r) (2 * k + 1)] = KeepOdd o k ++ [gI o (2 * k + 1)]
    rw [odd_app k (by omega)]
    have : gI (o ++ r) (2 * k + 1) = gI o (2 * k + 1) := by unfold gI; simp only [List.getD_eq_getElem?_getD]; rw [List.getElem?_append_left (by omega)]
    rw [this]
theorem ev_push {o : List Int} {k : Nat} {x y : Int} (h : o.length = 2 * k) : KeepEv (o ++ [x] ++ [y]) (k + 1) = KeepEv o k ++ [x] ∧ KeepOdd (o ++ [x] ++ [y]) (k + 1) = KeepOdd o k ++ [y] := by
  rw [List.append_assoc]
  constructor
  · show KeepEv (o ++ _) k ++ [gI (o ++ _) (2 * k)] = _
    rw [ev_app k (by omega)]
    have : gI (o ++ ([x] ++ [y])) (2 * k) = x := by unfold gI; simp only [List.getD_eq_getElem?_getD]; rw [List.getElem?_append_right (by omega), h, Nat.sub_self]; rfl
    rw [this]
  · show KeepOdd (o ++ _) k ++ [gI (o ++ _) (2 * k + 1)] = _
    rw [odd_app k (by omega)]
    have : gI (o ++ ([x] ++ [y])) (2 * k + 1) = y := by unfold gI; simp only [List.getD_eq_getElem?_getD]; rw [List.getElem?_append_right (by omega), h, show 2 * k + 1 - 2 * k = 1 by omega]; rfl
    rw [this]
theorem ms_len0 {b : List Int} {a c : Int} {k : Nat} {l : List Int} (h : KeepMs b a k = (c, l, 0)) : l.length = k := by
  have := ml_all (b := b) (a := a) k (by rw [h])
  rwa [h] at this
end Go.Proofs.Ytlckkciicchneaa
end
