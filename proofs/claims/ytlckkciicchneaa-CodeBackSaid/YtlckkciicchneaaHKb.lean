/- The reader's program: the walk. No condition. -/
import Derived.Test.YtlckkciicchneaaHKa
import Derived.Deep.QuietTactic
import Derived.BigQuiet
namespace Go.Proofs.Ytlckkciicchneaa
open SY
open Go.RowKit
set_option linter.unusedVariables false
set_option linter.unusedSimpArgs false
set_option maxRecDepth 100000
theorem toNat_of {x : Int} (h : 0 ≤ x) : ∃ n : Nat, x = n := ⟨x.toNat, by omega⟩
theorem ps_number {g : G} {b : List Int} {W w1 : World} {rb : Nat} {rv : Value} (hg : Bound g W) (h1 : V.KeepFew b) (h2 : V.KeepBy b) (hv : DS g W (slB b) rv) (hB : Below W.heap.size W w1) (hr : W.heap.size ≤ rb)
    {c : Int} {v1 v2 v3 : Value} {cd ks ss : List Int} {x y z : Int} {n : Nat} {w : World} (h : PS w1 rb rv c v1 v2 v3 cd ks ss x y z n w) :
    Calls Try.prog 43 #[.pointer (some ⟨rb, 0, none⟩)] w fun e w' =>
      (V.KeepRe b c = 0 ∧ e = .returned (.int .i64 (V.KeepZag (V.KeepRx b c))) ∧ PS w1 rb rv (V.KeepRn b c) v1 v2 v3 cd ks ss x y z n w') ∨ (V.KeepRe b c ≠ 0 ∧ e = .panicked (bad (V.KeepRe b c)) ∧ w1.grownBy w' (some rb)) :=
  (number_calls hg h1 h2 hv (grown_below hB h.gr hr) hr h.rd).mono fun e w' hh => by
    rcases hh with ⟨k, he, hb⟩ | ⟨k, he, hb⟩
    · exact .inl ⟨k, he, h.step hb⟩
    · exact .inr ⟨k, he, (h.step hb).gr⟩
theorem ps_count {g : G} {b : List Int} {W w1 : World} {rb : Nat} {rv : Value} (hg : Bound g W) (h1 : V.KeepFew b) (h2 : V.KeepBy b) (hv : DS g W (slB b) rv) (hB : Below W.heap.size W w1) (hr : W.heap.size ≤ rb)
    {c m : Int} {v1 v2 v3 : Value} {cd ks ss : List Int} {x y z : Int} {n : Nat} {w : World} (h : PS w1 rb rv c v1 v2 v3 cd ks ss x y z n w) :
    Calls Try.prog 42 #[.pointer (some ⟨rb, 0, none⟩), .int .i64 m] w fun e w' =>
      (∃ k : Nat, V.KeepZag (V.KeepRx b c) = k ∧ k ≤ m ∧ KeepCn b c m = 0 ∧ e = .returned (.int .i64 k) ∧ PS w1 rb rv (V.KeepRn b c) v1 v2 v3 cd ks ss x y z n w') ∨ (KeepCn b c m ≠ 0 ∧ e = .panicked (bad (KeepCn b c m)) ∧ w1.grownBy w' (some rb)) :=
  (count_calls hg h1 h2 hv (grown_below hB h.gr hr) hr h.rd).mono fun e w' hh => by
    rcases hh with ⟨k, he, hb⟩ | ⟨k, he, a', hb⟩
    · obtain ⟨_, c2, c3⟩ := cn_ok k
      obtain ⟨q, hq⟩ := toNat_of c2
      exact .inl ⟨q, hq, by omega, k, by rw [he, hq], h.step hb⟩
    · exact .inr ⟨k, he, (h.step hb).gr⟩
theorem prog_result {w : World} {p : Nat} {l1 l2 l3 : Option Addr} {q1 o1 q2 o2 q3 o3 : Nat} {x y z : Int} {tmps : Array Value} (h : w.heap[p]? = some (.cells #[.slice l1 q1 o1, .slice l2 q2 o2, .slice l3 q3 o3, .int .i64 x, .int .i64 y, .int .i64 z] 25 (0, 0))) (ht : tmps[2]? = some (.pointer (some ⟨p, 0, none⟩))) :
    (results Try.f35 tmps).run Try.prog w = .ok (.agg #[.slice l1 q1 o1, .slice l2 q2 o2, .slice l3 q3 o3, .int .i64 x, .int .i64 y, .int .i64 z]) w := by
  have y0 := (cell_of_row _ _ 0 _ _ _ h).trans rfl
  have y1 := (cell_of_row _ _ 1 _ _ _ h).trans rfl
  have y2 := (cell_of_row _ _ 2 _ _ _ h).trans rfl
  have y3 := (cell_of_row _ _ 3 _ _ _ h).trans rfl
  have y4 := (cell_of_row _ _ 4 _ _ _ h).trans rfl
  have y5 := (cell_of_row _ _ 5 _ _ _ h).trans rfl
  simp [results, Try.results35, go_sem, ht, y0, y1, y2, y3, y4, y5]
theorem zeroP (w : World) : (zeroValue 25).run Try.prog w = .ok (.agg #[.slice none 0 0, .slice none 0 0, .slice none 0 0, .int .i64 0, .int .i64 0, .int .i64 0]) w := by kernel_rfl
theorem program_bad {g : G} {b : List Int} {a : Int} {W w1 : World} {rb : Nat} {rv : Value} (hg : Bound g W) (h1 : V.KeepFew b) (h2 : V.KeepBy b) (hv : DS g W (slB b) rv)
    (hB : Below W.heap.size W w1) (hr : W.heap.size ≤ rb) (hh : w1.heap[rb]? = some (.cells #[rv, .int .i64 a] 62 (0, 0))) (R : Ending → World → Prop) (hc : KeepCn b a 60 ≠ 0)
    (hP : ∀ w', w1.grownBy w' (some rb) → R (.panicked (bad (KeepCn b a 60))) w') : Calls Try.prog 35 #[.pointer (some ⟨rb, 0, none⟩)] w1 R := by
  have z25 := zeroP w1
  have hlt : rb < w1.heap.size := lt_of_heap hh
  have hB1 := hB.alloc hB.size (.cells #[.slice none 0 0, .slice none 0 0, .slice none 0 0, .int .i64 0, .int .i64 0, .int .i64 0] 25)
  have c1 : Calls Try.prog 42 #[.pointer (some ⟨rb, 0, none⟩), .int .i64 60] (w1.alloc (.cells #[.slice none 0 0, .slice none 0 0, .slice none 0 0, .int .i64 0, .int .i64 0, .int .i64 0] 25)) fun e w' => e = .panicked (bad (KeepCn b a 60)) ∧ w1.grownBy w' (some rb) :=
    (count_calls (m := 60) hg h1 h2 hv hB1 hr ((Below.heap_alloc _ _ _ hlt).trans hh)).mono fun e w' h => by
      rcases h with ⟨k, _⟩ | ⟨_, he, a', hb⟩
      · exact absurd k hc
      · exact ⟨he, grown_trans (World.grownBy_alloc _ _ _) hb.gr⟩
  go_enter Try.func35, Try.ntmps35
  go_wp2_with (first | (go_at_call 42; refine c1.mono ?_; rintro e w2 ⟨rfl, hb⟩))
  exact ⟨rfl, hP _ hb⟩
set_option maxHeartbeats 2000000 in
theorem program_walk {g : G} {b : List Int} {a : Int} {W w1 : World} {rb : Nat} {rv : Value} (hg : Bound g W) (h1 : V.KeepFew b) (h2 : V.KeepBy b) (hv : DS g W (slB b) rv)
    (hB : Below W.heap.size W w1) (hr : W.heap.size ≤ rb) (hh : w1.heap[rb]? = some (.cells #[rv, .int .i64 a] 62 (0, 0))) (R : Ending → World → Prop) (hc : KeepCn b a 60 = 0) {n : Nat} (hn : V.KeepZag (V.KeepRx b a) = n)
    (hP : ∀ e w', e ≠ 0 → KeepPe b a = e → w1.grownBy w' (some rb) → R (.panicked (bad e)) w')
    (hOK : ∀ (w' : World) (v1 v2 v3 : Value) (ks ss : List Int) (o r : List Int) (m : Int), KeepPe b a = 0 → KeepCl b (KeepCc b a 60 4) 8 2 = o → o.length ≤ 16 → KeepMs b (KeepCc b (KeepCc b a 60 4) 8 2) 3 = (m, r, 0) → (KeepCl b a 60 4).length = 4 * n → 
      PS w1 rb rv m v1 v2 v3 (KeepCl b a 60 4) (KeepEv o (o.length / 2)) (KeepOdd o (o.length / 2)) (gI r 0) (gI r 1) (gI r 2) n w' → R (.returned (.agg #[v1, v2, v3, .int .i64 (gI r 0), .int .i64 (gI r 1), .int .i64 (gI r 2)])) w') : Calls Try.prog 35 #[.pointer (some ⟨rb, 0, none⟩)] w1 R := by
  have z25 := zeroP w1
  have hlt : rb < w1.heap.size := lt_of_heap hh
  obtain ⟨k1, _, k3⟩ := cn_ok hc
  rw [hn] at k3
  have p0 : PS w1 rb rv a (.slice none 0 0) (.slice none 0 0) (.slice none 0 0) [] [] [] 0 0 0 0 (w1.alloc (.cells #[.slice none 0 0, .slice none 0 0, .slice none 0 0, .int .i64 0, .int .i64 0, .int .i64 0] 25)) :=
    ⟨hlt, World.grownBy_alloc _ _ _, (Below.heap_alloc _ _ _ hlt).trans hh, heap_alloc_new _ _, World.ownsRow_nil _ _ _ _, World.ownsRow_nil _ _ _ _, World.ownsRow_nil _ _ _ _, .inl rfl, .inl rfl, .inl rfl⟩
  have hB1 := hB.alloc hB.size (.cells #[.slice none 0 0, .slice none 0 0, .slice none 0 0, .int .i64 0, .int .i64 0, .int .i64 0] 25)
  have c1 : Calls Try.prog 42 #[.pointer (some ⟨rb, 0, none⟩), .int .i64 60] (w1.alloc (.cells #[.slice none 0 0, .slice none 0 0, .slice none 0 0, .int .i64 0, .int .i64 0, .int .i64 0] 25)) fun e w' => e = .returned (.int .i64 n) ∧ PS w1 rb rv (V.KeepRn b a) (.slice none 0 0) (.slice none 0 0) (.slice none 0 0) [] [] [] 0 0 0 0 w' :=
    (count_calls (m := 60) hg h1 h2 hv hB1 hr ((Below.heap_alloc _ _ _ hlt).trans hh)).mono fun e w' h => by
      rcases h with ⟨_, he, hb⟩ | ⟨k, _⟩
      · exact ⟨by rw [he, hn], p0.step hb⟩
      · exact absurd hc k
  go_enter Try.func35, Try.ntmps35
  go_wp2_with (first | (go_at_call 42; refine c1.mono ?_; rintro e w2 ⟨rfl, p1⟩))
  clear c1 p0 hB1
  go_loopw [5] (fun i wr => ∃ (k : Nat) (v1 : Value) (cd : List Int) (c : Int), k ≤ n ∧ i = .int .i64 k ∧ PS w1 rb rv c v1 (.slice none 0 0) (.slice none 0 0) cd [] [] 0 0 0 k wr ∧ KeepMs b (V.KeepRn b a) (4 * k) = (c, cd, 0)) (fun i _ => n - (intOf i).toNat)
  case atStart => exact ⟨0, _, [], _, Nat.zero_le _, rfl, p1, rfl⟩
  case round =>
    obtain ⟨k, v1, cd, c, hk, rfl, ps, hm⟩ := hrel
    go_upto_region 3 with (fail)
    · have hS : wr.drew.cell? ⟨w1.heap.size, 0, none⟩ = some v1 := (ps.drew.cell 0).trans rfl
      refine wp_region_G 12 (fun w' => w'.cell? ⟨w1.heap.size, 0, none⟩ = some v1) mixed.mixed ?_
      refine wpAnyG_take (i := 0) (v := .pointer (some ⟨w1.heap.size, 0, none⟩)) rfl (by kernel_rfl) (by kernel_rfl) (by kernel_rfl) (by decide) (fun _ _ _ h => h) (Or.inl ⟨by rfl, fun w _ => by go_simp⟩) hS ?_
      simp only [Act.put, List.setIfInBounds_toArray, List.set_cons_zero, List.set_cons_succ]
      refine wpAnyG_load (i := 1) (v := v1) rfl (by kernel_rfl) (by kernel_rfl) (by kernel_rfl) (by decide) rfl (by kernel_rfl) (by kernel_rfl) (fun _ _ _ h => h) (Or.inl ⟨by rfl, fun w hSw => by dsimp only at hSw; go_simp⟩) hS ?_
      simp only [Act.put, List.setIfInBounds_toArray, List.set_cons_zero, List.set_cons_succ]
      refine wpAnyG_take (i := 2) (v := .pointer (some ⟨rb, 0, none⟩)) rfl (by kernel_rfl) (by kernel_rfl) (by kernel_rfl) (by decide) (fun _ _ _ h => h) (Or.inl ⟨by rfl, fun w _ => by go_simp⟩) hS ?_
      simp only [Act.put, List.setIfInBounds_toArray, List.set_cons_zero, List.set_cons_succ]
      refine wpAnyG_take (i := 4) (v := .pointer (some ⟨rb, 0, none⟩)) rfl (by kernel_rfl) (by kernel_rfl) (by kernel_rfl) (by decide) (fun _ _ _ h => h) (Or.inl ⟨by rfl, fun w _ => by go_simp⟩) hS ?_
      simp only [Act.put, List.setIfInBounds_toArray, List.set_cons_zero, List.set_cons_succ]
      refine wpAnyG_take (i := 6) (v := .pointer (some ⟨rb, 0, none⟩)) rfl (by kernel_rfl) (by kernel_rfl) (by kernel_rfl) (by decide) (fun _ _ _ h => h) (Or.inl ⟨by rfl, fun w _ => by go_simp⟩) hS ?_
      simp only [Act.put, List.setIfInBounds_toArray, List.set_cons_zero, List.set_cons_succ]
      refine wpAnyG_take (i := 8) (v := .pointer (some ⟨rb, 0, none⟩)) rfl (by kernel_rfl) (by kernel_rfl) (by kernel_rfl) (by decide) (fun _ _ _ h => h) (Or.inl ⟨by rfl, fun w _ => by go_simp⟩) hS ?_
      simp only [Act.put, List.setIfInBounds_toArray, List.set_cons_zero, List.set_cons_succ]
      refine wpAnyG_step (i := 3) (by kernel_rfl) rfl (by rfl) fun K hK => ?_
      go_simp
      refine (ps_number hg h1 h2 hv hB hr ps.drew).mono ?_
      rintro e x1 (⟨r1, rfl, q1⟩ | ⟨r1, rfl, q1⟩)
      rotate_left
      · exact ⟨rfl, hP _ _ r1 (pe_one hc hn (j := 4 * k + 0) (by omega) hm r1) q1⟩
      have m1 := ms_ok hm r1
      refine hK.out _ _ (fun _ => (q1.cell 0).trans rfl) ?_
      clear hK K
      refine wpAnyG_step (i := 5) (by kernel_rfl) rfl (by rfl) fun K hK => ?_
      go_simp
      refine (ps_number hg h1 h2 hv hB hr q1).mono ?_
      rintro e x2 (⟨r2, rfl, q2⟩ | ⟨r2, rfl, q2⟩)
      rotate_left
      · exact ⟨rfl, hP _ _ r2 (pe_one hc hn (j := 4 * k + 1) (by omega) m1 r2) q2⟩
      have m2 := ms_ok m1 r2
      refine hK.out _ _ (fun _ => (q2.cell 0).trans rfl) ?_
      clear hK K
      refine wpAnyG_step (i := 7) (by kernel_rfl) rfl (by rfl) fun K hK => ?_
      go_simp
      refine (ps_number hg h1 h2 hv hB hr q2).mono ?_
      rintro e x3 (⟨r3, rfl, q3⟩ | ⟨r3, rfl, q3⟩)
      rotate_left
      · exact ⟨rfl, hP _ _ r3 (pe_one hc hn (j := 4 * k + 2) (by omega) m2 r3) q3⟩
      have m3 := ms_ok m2 r3
      refine hK.out _ _ (fun _ => (q3.cell 0).trans rfl) ?_
      clear hK K
      refine wpAnyG_step (i := 9) (by kernel_rfl) rfl (by rfl) fun K hK => ?_
      go_simp
      refine (ps_number hg h1 h2 hv hB hr q3).mono ?_
      rintro e x4 (⟨r4, rfl, q4⟩ | ⟨r4, rfl, q4⟩)
      rotate_left
      · exact ⟨rfl, hP _ _ r4 (pe_one hc hn (j := 4 * k + 3) (by omega) m3 r4) q4⟩
      have m4 := ms_ok m3 r4
      refine hK.out _ _ (fun _ => (q4.cell 0).trans rfl) ?_
      clear hK K
      refine wpAnyG_step (i := 10) (by kernel_rfl) rfl (by rfl) fun K hK => ?_
      go_simp
      refine hK.out _ _ (fun _ => (q4.cell 0).trans rfl) ?_
      clear hK K
      obtain ⟨v', x5, hrun, s1, s2, q5⟩ := q4.push1 (by omega) (V.KeepZag (V.KeepRx b c)) (V.KeepZag (V.KeepRx b (V.KeepRn b c))) (V.KeepZag (V.KeepRx b (V.KeepRn b (V.KeepRn b c)))) (V.KeepZag (V.KeepRx b (V.KeepRn b (V.KeepRn b (V.KeepRn b c))))) 22
      obtain ⟨A, len, cap, rfl⟩ := row_shape q5.o1
      refine wpAnyG_step (i := 11) (by kernel_rfl) rfl (by rfl) fun K hK => ?_
      go_simp
      refine hK.out _ _ (fun _ => ((q4.alloc _).cell 0).trans rfl) ?_
      clear hK K
      refine wpAnyG_stepD (i := 12) (by kernel_rfl) rfl (by rfl) (by kernel_rfl) fun K hK => ?_
      refine wp_app 22 22 _ _ rfl _ _ _ rfl rfl hrun ?_
      refine hK.out _ _ ?_
      clear hK K
      simp only [Act.put, List.setIfInBounds_toArray, List.set_cons_zero, List.set_cons_succ]
      refine wpAnyG_stepD (i := 13) (by kernel_rfl) rfl (by rfl) (by kernel_rfl) fun K hK => ?_
      go_simp
      refine hK.out _ _ ?_
      clear hK K
      refine wpAnyG_stepD (i := 14) (by kernel_rfl) rfl (by rfl) (by kernel_rfl) fun K hK => ?_
      go_simp
      refine hK.out _ _ (wpAnyG_done (by kernel_rfl) ?_ _)
      clear hK K
      go_wp2
      refine ⟨⟨k + 1, _, _, _, by omega, rfl, q5, by rw [show 4 * (k + 1) = 4 * k + 1 + 1 + 1 + 1 by omega, m4]; simp [List.append_assoc]⟩, by simp [intOf]; omega⟩
    · have hkn : k = n := by omega
      subst hkn
      obtain ⟨t1, t2, t3⟩ := pe_two hc hn hm
      have cc := ps_count (m := 8) hg h1 h2 hv hB hr ps
      go_wp2_with (first | (go_at_call 42; refine cc.mono ?_; rintro e w3 (⟨n2, d1, d2, d3, rfl, p2⟩ | ⟨d3, rfl, p2⟩)))
      rotate_left
      · exact ⟨rfl, hP _ _ d3 (pe_cnt t2 t3 d3) p2⟩
      clear cc
      go_loopw [24] (fun i wr => ∃ (j : Nat) (v2 v3 : Value) (ks ss : List Int) (c2 : Int) (o : List Int), j ≤ n2 ∧ i = .int .i64 j ∧ PS w1 rb rv c2 v1 v2 v3 cd ks ss 0 0 0 k wr ∧ KeepMs b (V.KeepRn b c) (2 * j) = (c2, o, 0) ∧ ks = KeepEv o j ∧ ss = KeepOdd o j) (fun i _ => n2 - (intOf i).toNat)
      case atStart => exact ⟨0, _, _, [], [], _, [], Nat.zero_le _, rfl, p2, rfl, rfl, rfl⟩
      case round =>
      obtain ⟨j, v2, v3, ks, ss, c2, o, hj, rfl, ps2, hm2, u3, u4⟩ := hrel
      go_upto_region 7 with (fail)
      rotate_left
      · have hjn : j = n2 := by omega
        subst hjn
        obtain ⟨t4, t5, t6⟩ := pe_three d3 d1 hm2
        go_upto_region 11 with (go_at_call 43; refine (ps_number hg h1 h2 hv hB hr ps2).mono ?_; rintro e w4 (⟨f1, rfl, e1⟩ | ⟨f1, rfl, e1⟩); have s1 := e1.thawed 3; have s2 := (e1.cell 3).trans rfl)
        rotate_left
        · exact ⟨rfl, hP _ _ f1 (pe_rest t2 t3 t5 t6 (j := 0) (by decide) rfl f1) e1⟩
        have n1 := ms_ok (b := b) (a := c2) (k := 0) rfl f1
        have e2 := e1.setx (V.KeepZag (V.KeepRx b c2))
        clear e1 s1 s2
        go_upto_region 12 with (go_at_call 43; refine (ps_number hg h1 h2 hv hB hr e2).mono ?_; rintro e w5 (⟨f3, rfl, e3⟩ | ⟨f3, rfl, e3⟩); have s1 := e3.thawed 4; have s2 := (e3.cell 4).trans rfl)
        rotate_left
        · exact ⟨rfl, hP _ _ f3 (pe_rest t2 t3 t5 t6 (j := 1) (by decide) n1 f3) e3⟩
        have n3 := ms_ok n1 f3
        have e4 := e3.sety (V.KeepZag (V.KeepRx b (V.KeepRn b c2)))
        clear e3 s1 s2
        go_upto_region 13 with (go_at_call 43; refine (ps_number hg h1 h2 hv hB hr e4).mono ?_; rintro e w6 (⟨f5, rfl, e5⟩ | ⟨f5, rfl, e5⟩); have s1 := e5.thawed 5; have s2 := (e5.cell 5).trans rfl)
        rotate_left
        · exact ⟨rfl, hP _ _ f5 (pe_rest t2 t3 t5 t6 (j := 2) (by decide) n3 f5) e5⟩
        have n5 := ms_ok n3 f5
        have e6 := e5.setz (V.KeepZag (V.KeepRx b (V.KeepRn b (V.KeepRn b c2))))
        clear e5 s1 s2
        generalize w6.setCell ⟨w1.heap.size, 5, none⟩ (.int .i64 (V.KeepZag (V.KeepRx b (V.KeepRn b (V.KeepRn b c2))))) = w7 at *
        obtain ⟨l1, q1, o1, rfl⟩ := row_shape e6.o1
        obtain ⟨l2, q2, o2, rfl⟩ := row_shape e6.o2
        obtain ⟨l3, q3, o3, rfl⟩ := row_shape e6.o3
        have y0 := (e6.cell 0).trans rfl
        have y1 := (e6.cell 1).trans rfl
        have y2 := (e6.cell 2).trans rfl
        have y3 := (e6.cell 3).trans rfl
        have y4 := (e6.cell 4).trans rfl
        have y5 := (e6.cell 5).trans rfl
        have fz0 := e6.thawed 0
        have fz1 := e6.thawed 1
        have fz2 := e6.thawed 2
        have fz3 := e6.thawed 3
        have fz4 := e6.thawed 4
        have fz5 := e6.thawed 5
        go_wp2
        have e7 := (((((e6.stay (k := 0) rfl).stay (k := 1) rfl).stay (k := 2) rfl).stay (k := 3) rfl).stay (k := 4) rfl).stay (k := 5) rfl
        have n6 : KeepMs b c2 3 = (_, [V.KeepZag (V.KeepRx b c2), V.KeepZag (V.KeepRx b (V.KeepRn b c2)), V.KeepZag (V.KeepRx b (V.KeepRn b (V.KeepRn b c2)))], 0) := n5
        refine bodyPost_ret (prog_result e7.pg rfl) rfl ?_
        have lo := ms_len0 hm2
        have ll := ms_len0 hm
        have h2 : o.length / 2 = j := by omega
        refine hOK _ (.slice l1 q1 o1) (.slice l2 q2 o2) (.slice l3 q3 o3) (KeepEv o j) (KeepOdd o j) o [V.KeepZag (V.KeepRx b c2), V.KeepZag (V.KeepRx b (V.KeepRn b c2)), V.KeepZag (V.KeepRx b (V.KeepRn b (V.KeepRn b c2)))] _ (pe_end t2 t3 t5 t6 n6) (by rw [t2]; exact t4) (by omega) (by rw [t2, t5]; exact n6) (by rw [t1]; exact ll) ?_
        rw [t1, h2, ← u3, ← u4]
        exact e7
      have hS : wr.drew.cell? ⟨w1.heap.size, 1, none⟩ = some v2 := (ps2.drew.cell 1).trans rfl
      refine wp_region_G 5 (fun w' => w'.cell? ⟨w1.heap.size, 1, none⟩ = some v2) mixed.mixed ?_
      refine wpAnyG_take (i := 0) (v := .pointer (some ⟨w1.heap.size, 1, none⟩)) rfl (by kernel_rfl) (by kernel_rfl) (by kernel_rfl) (by decide) (fun _ _ _ h => h) (Or.inl ⟨by rfl, fun w _ => by go_simp⟩) hS ?_
      simp only [Act.put, List.setIfInBounds_toArray, List.set_cons_zero, List.set_cons_succ]
      refine wpAnyG_load (i := 1) (v := v2) rfl (by kernel_rfl) (by kernel_rfl) (by kernel_rfl) (by decide) rfl (by kernel_rfl) (by kernel_rfl) (fun _ _ _ h => h) (Or.inl ⟨by rfl, fun w hSw => by dsimp only at hSw; go_simp⟩) hS ?_
      simp only [Act.put, List.setIfInBounds_toArray, List.set_cons_zero, List.set_cons_succ]
      refine wpAnyG_take (i := 2) (v := .pointer (some ⟨rb, 0, none⟩)) rfl (by kernel_rfl) (by kernel_rfl) (by kernel_rfl) (by decide) (fun _ _ _ h => h) (Or.inl ⟨by rfl, fun w _ => by go_simp⟩) hS ?_
      simp only [Act.put, List.setIfInBounds_toArray, List.set_cons_zero, List.set_cons_succ]
      refine wpAnyG_step (i := 3) (by kernel_rfl) rfl (by rfl) fun K hK => ?_
      go_simp
      refine (ps_number hg h1 h2 hv hB hr ps2.drew).mono ?_
      rintro e xa (⟨ra, rfl, qa⟩ | ⟨ra, rfl, qa⟩)
      rotate_left
      · exact ⟨rfl, hP _ _ ra (pe_obj t2 t3 d3 d1 (j := 2 * j) (by omega) hm2 ra) qa⟩
      have ma := ms_ok hm2 ra
      refine hK.out _ _ (fun _ => (qa.cell 1).trans rfl) ?_
      clear hK K
      obtain ⟨v'a, ya, hruna, s1a, s2a, za⟩ := qa.push2 (by have := ms_len0 hm2; simp only [u3, u4, ev_len, odd_len]; omega) _ 23
      obtain ⟨Aa, lena, capa, rfl⟩ := row_shape za.o2
      refine wpAnyG_step (i := 4) (by kernel_rfl) rfl (by rfl) fun K hK => ?_
      go_simp
      refine hK.out _ _ (fun _ => ((qa.alloc _).cell 1).trans rfl) ?_
      clear hK K
      refine wpAnyG_stepD (i := 5) (by kernel_rfl) rfl (by rfl) (by kernel_rfl) fun K hK => ?_
      refine wp_app 23 23 _ _ rfl _ _ _ rfl rfl hruna ?_
      refine hK.out _ _ ?_
      clear hK K
      simp only [Act.put, List.setIfInBounds_toArray, List.set_cons_zero, List.set_cons_succ]
      refine wpAnyG_stepD (i := 6) (by kernel_rfl) rfl (by rfl) (by kernel_rfl) fun K hK => ?_
      go_simp
      refine hK.out _ _ ?_
      clear hK K
      refine wpAnyG_stepD (i := 7) (by kernel_rfl) rfl (by rfl) (by kernel_rfl) fun K hK => ?_
      go_simp
      refine hK.out _ _ (wpAnyG_done (by kernel_rfl) ?_ _)
      clear hK K
      go_upto_region 8 with (fail)
      have hS : (ya.setCell ⟨w1.heap.size, 1, none⟩ (.slice Aa lena capa)).drew.cell? ⟨w1.heap.size, 2, none⟩ = some v3 := (za.drew.cell 2).trans rfl
      refine wp_region_G 5 (fun w' => w'.cell? ⟨w1.heap.size, 2, none⟩ = some v3) mixed.mixed ?_
      refine wpAnyG_take (i := 0) (v := .pointer (some ⟨w1.heap.size, 2, none⟩)) rfl (by kernel_rfl) (by kernel_rfl) (by kernel_rfl) (by decide) (fun _ _ _ h => h) (Or.inl ⟨by rfl, fun w _ => by go_simp⟩) hS ?_
      simp only [Act.put, List.setIfInBounds_toArray, List.set_cons_zero, List.set_cons_succ]
      refine wpAnyG_load (i := 1) (v := v3) rfl (by kernel_rfl) (by kernel_rfl) (by kernel_rfl) (by decide) rfl (by kernel_rfl) (by kernel_rfl) (fun _ _ _ h => h) (Or.inl ⟨by rfl, fun w hSw => by dsimp only at hSw; go_simp⟩) hS ?_
      simp only [Act.put, List.setIfInBounds_toArray, List.set_cons_zero, List.set_cons_succ]
      refine wpAnyG_take (i := 2) (v := .pointer (some ⟨rb, 0, none⟩)) rfl (by kernel_rfl) (by kernel_rfl) (by kernel_rfl) (by decide) (fun _ _ _ h => h) (Or.inl ⟨by rfl, fun w _ => by go_simp⟩) hS ?_
      simp only [Act.put, List.setIfInBounds_toArray, List.set_cons_zero, List.set_cons_succ]
      refine wpAnyG_step (i := 3) (by kernel_rfl) rfl (by rfl) fun K hK => ?_
      go_simp
      refine (ps_number hg h1 h2 hv hB hr za.drew).mono ?_
      rintro e xb (⟨rb, rfl, qb⟩ | ⟨rb, rfl, qb⟩)
      rotate_left
      · exact ⟨rfl, hP _ _ rb (pe_obj t2 t3 d3 d1 (j := 2 * j + 1) (by omega) ma rb) qb⟩
      have mb := ms_ok ma rb
      refine hK.out _ _ (fun _ => (qb.cell 2).trans rfl) ?_
      clear hK K
      obtain ⟨v'b, yb, hrunb, s1b, s2b, zb⟩ := qb.push3 (by have := ms_len0 hm2; simp only [u3, u4, ev_len, odd_len]; omega) _ 23
      obtain ⟨Ab, lenb, capb, rfl⟩ := row_shape zb.o3
      refine wpAnyG_step (i := 4) (by kernel_rfl) rfl (by rfl) fun K hK => ?_
      go_simp
      refine hK.out _ _ (fun _ => ((qb.alloc _).cell 2).trans rfl) ?_
      clear hK K
      refine wpAnyG_stepD (i := 5) (by kernel_rfl) rfl (by rfl) (by kernel_rfl) fun K hK => ?_
      refine wp_app 23 23 _ _ rfl _ _ _ rfl rfl hrunb ?_
      refine hK.out _ _ ?_
      clear hK K
      simp only [Act.put, List.setIfInBounds_toArray, List.set_cons_zero, List.set_cons_succ]
      refine wpAnyG_stepD (i := 6) (by kernel_rfl) rfl (by rfl) (by kernel_rfl) fun K hK => ?_
      go_simp
      refine hK.out _ _ ?_
      clear hK K
      refine wpAnyG_stepD (i := 7) (by kernel_rfl) rfl (by rfl) (by kernel_rfl) fun K hK => ?_
      go_simp
      refine hK.out _ _ (wpAnyG_done (by kernel_rfl) ?_ _)
      clear hK K
      go_wp2
      obtain ⟨g1, g2⟩ := ev_push (o := o) (k := j) (x := V.KeepZag (V.KeepRx b c2)) (y := V.KeepZag (V.KeepRx b (V.KeepRn b c2))) (ms_len0 hm2)
      exact ⟨⟨j + 1, _, _, _, _, _, _, by omega, rfl, zb, by rw [show 2 * (j + 1) = 2 * j + 1 + 1 by omega]; exact mb, by rw [g1, u3], by rw [g2, u4]⟩, by simp [intOf]; omega⟩
end Go.Proofs.Ytlckkciicchneaa
