/- CondNone: the walk. No condition. -/
import Derived.Test.YtmmliaobjendoaaDoorPL9
namespace Go.Proofs.YtmmliaobjendoaaDoor
open SY
open Go.RowKit
set_option linter.unusedVariables false
set_option linter.unusedSimpArgs false
set_option maxRecDepth 100000
theorem zero26 (w : World) : (zeroValue 26).run Tryd.prog w = .ok (.agg #[.int .u32 0, .int .u32 0, .slice none 0 0]) w := by kernel_rfl
theorem zero27 (w : World) : (zeroValue 27).run Tryd.prog w = .ok (.agg #[.int .i64 0, .int .i64 0, .int .i64 0, .int .i64 0, .int .i64 0, .int .i64 0]) w := by kernel_rfl
theorem zero30 (w : World) : (zeroValue 30).run Tryd.prog w = .ok (.agg #[.int .i64 0, .int .i64 0, .int .i64 0, .int .i64 0, .int .i64 0, .int .i64 0, .int .i64 0, .int .u32 0, .int .u32 0, .slice none 0 0, .slice none 0 0]) w := by kernel_rfl
theorem zero33 (w : World) : (zeroValue 33).run Tryd.prog w = .ok (.agg #[.int .i64 0, .int .i64 0, .int .i64 0, .int .i64 0, .int .i64 0, .int .i64 0, .bool false, .bool false, .int .i64 0, .bool false]) w := by kernel_rfl
theorem zero39 (w : World) : (zeroValue 39).run Tryd.prog w = .ok (.agg #[.bool false, .bool false, .bool false, .int .i64 0, .int .i64 0, .int .u64 0, .slice none 0 0]) w := by kernel_rfl
set_option maxHeartbeats 8000000 in
theorem none_walk (W : World) (x a b : Int) (n k : Nat) (hx : KeepU x) (hn : n ≤ 5) (hk : k ≤ 5) (ha : (wrap64 a).tmod 6 = n) (hb : (wrap64 b).tmod 6 = k) : Calls Tryd.prog 3 #[.int .u32 x, .int .u8 a, .int .u8 b] W fun e w' => e = .returned (.bool true) ∧ Below W.heap.size W w' := by
  have z1 := zero26
  have z2 := zero27
  have z3 := zero30
  have z4 := zero33
  have z5 := zero39
  go_enter Tryd.func3, Tryd.ntmps3
  go_wp2_with (first | (go_at_call 4; refine (alive_calls _).mono ?_; rintro e w0 ⟨rfl, hb0⟩))
  obtain ⟨p, hp⟩ : ∃ p, w0.heap.size = p := ⟨_, rfl⟩
  have hnn := ws_nil (g := g0) (g' := g0) (W := w0) (W' := w0) ⟨none, 0, 0, rfl, nil_sl (by decide)⟩
  have hL0 : L p (cC x x (.slice none 0 0)) (mC 1) (.slice none 0 0) 0 (frC x 0) w0 ((w0.alloc (.cells (cC x x (.slice none 0 0)) 30)).alloc (.cells (mC 1) 30)) := by
    subst hp
    have e2 := heap_alloc_new (w0.alloc (.cells (cC x x (.slice none 0 0)) 30)) (.cells (mC 1) 30)
    rw [al_size'] at e2
    exact ⟨((Below.refl _ _).alloc (Nat.le_refl _) _).alloc (by rw [al_size']; omega) _, (Below.heap_alloc _ _ _ (by rw [al_size']; omega)).trans (heap_alloc_new _ _), e2, World.ownsRow_nil _ _ _ _⟩
  have e0 : (x + ((0 : Nat) : Int)) % 4294967296 = x := by unfold KeepU at hx; omega
  simp only [hp]
  refine wp_world (fun w' => L p (cC x x (.slice none 0 0)) (mC 1) (.slice none 0 0) 0 (frC x 0) w0 w') hL0 fun w1 hL1 => ?_
  clear hL0
  go_loopw [11, 12] (fun fv i wr => ∃ (j : Nat) (v : Value) (y : Int), j ≤ n + k ∧ i = .int .i64 j ∧ L p (cC ((x + j) % 4294967296) x v) (mC y) fv j (frC x j) w0 wr ∧ WS g0 wr [] v ∧ (y = 0 ∨ j = 0)) (fun _ i _ => n + k - (intOf i).toNat)
  case atStart => exact ⟨0, .slice none 0 0, 1, Nat.zero_le _, rfl, by rw [e0]; exact hL1, ws_nil hnn, .inr rfl⟩
  case round =>
    obtain ⟨j, v, y, hj, rfl, hL, hws, hy⟩ := hrel
    go_upto_region 10 with (go_at_call 5; refine (begin_calls _).mono ?_; rintro e w2 ⟨rfl, bb⟩; simp only [fC])
    · obtain ⟨q, hq⟩ : ∃ q, w2.heap.size = q := ⟨_, rfl⟩
      simp only [hq]
      refine wp_world (fun w' => LF p q (cC ((x + j) % 4294967296) x v) (mC y) (fC 0 0) u11 j (frC x j) w0 w') (hq ▸ LF.start (hL.below bb) (fC 0 0)) fun w3 h3 => ?_
      have ym := fun k => (cell_pg h3.l.h8 k).1
      have zm := fun k => (cell_pg h3.l.h8 k).2
      simp only [mC] at ym
      go_wp2
      refine wp_loop_rounds 3 ?_
      rw [rounds_succ]
      have hv0 : ∀ w', WS g0 w' [] v := fun w' => ws_nil hws
      have hw0 : KeepU ((x + j) % 4294967296) := by unfold KeepU; omega
      refine wp_world (fun w' => LF p q (cC ((x + j) % 4294967296) x v) (mC 1) (fC 0 0) u11 j (frC x j) w0 w') (h3.set8 (k := 1) (by show 1 < 11; decide)) fun w4 h4 => ?_
      clear ym zm h3 hL bb
      have yca := fun k => (cell_pg h4.l.h7 k).1
      have yma := fun k => (cell_pg h4.l.h8 k).1
      have yfa := fun k => (cell_pg h4.h13 k).1
      simp only [cC, mC, fC] at yca yma yfa
      go_upto_region 15 with (go_at_call 6; refine (aw0_eq (w1 := (x + j + 1) % 4294967296) (g0_bound _) (hv0 _) hw0 hx (by unfold KeepU at hx; omega) (by omega)).mono ?_; rintro e ua ⟨Aa, aa, da, Ba, ba, ea, hva, rfl, hba⟩; simp only [cC, mC, fC, aC])
      clear yca yma yfa
      have hfa := four_new ua (.cells (cC ((x + j + 1) % 4294967296) (x) (.slice Aa aa da)) 30) (.cells (mC 1) 30) (.cells (fC 1 ((x + j) % 4294967296)) 33) (.cells (aC false false (.slice Ba ba ea)) 39)
      have hBa := (h4.below hba)
      have ra : p + 1 < ua.heap.size ∧ q < ua.heap.size := ⟨lt_of_heap hBa.l.h8, lt_of_heap hBa.h13⟩
      obtain ⟨na, hra⟩ : ∃ r, ua.heap.size = r := ⟨_, rfl⟩
      simp only [hra] at hfa ra ⊢
      refine wp_world (fun w' => LF p q _ _ _ u11 j (frC x j) w0 w' ∧ T4 na (cC ((x + j + 1) % 4294967296) (x) (.slice Aa aa da)) (mC 1) (fC 1 ((x + j) % 4294967296)) (aC false false (.slice Ba ba ea)) w') ⟨hBa.below (hra ▸ hfa.2.2.2.2), hfa.1, hfa.2.1, hfa.2.2.1, hfa.2.2.2.1⟩ fun wa hwa => ?_
      obtain ⟨hla, hta⟩ := hwa
      clear hfa hba hBa
      have hS : (fun w' : World => T4 na #[.int .i64 5, .int .i64 0, .int .i64 0, .int .i64 0, .int .i64 0, .int .i64 0, .int .i64 0, .int .u32 ((x + j + 1) % 4294967296), .int .u32 (x), (.slice Aa aa da), .slice none 0 0] #[.int .i64 1, .int .i64 1, .int .i64 0, .int .i64 0, .int .i64 0, .int .i64 0, .int .i64 0, .int .u32 0, .int .u32 0, .slice none 0 0, .slice none 0 0] #[.int .i64 36, .int .i64 1, .int .i64 0, .int .i64 0, .int .i64 (-1), .int .i64 ((x + j) % 4294967296), .bool false, .bool false, .int .i64 0, .bool false] #[.bool false, .bool false, .bool false, .int .i64 0, .int .i64 0, .int .u64 0, (.slice Ba ba ea)] w') wa.drew := hta.drew
      refine wp_region_G 5 (fun w' => T4 na #[.int .i64 5, .int .i64 0, .int .i64 0, .int .i64 0, .int .i64 0, .int .i64 0, .int .i64 0, .int .u32 ((x + j + 1) % 4294967296), .int .u32 (x), (.slice Aa aa da), .slice none 0 0] #[.int .i64 1, .int .i64 1, .int .i64 0, .int .i64 0, .int .i64 0, .int .i64 0, .int .i64 0, .int .u32 0, .int .u32 0, .slice none 0 0, .slice none 0 0] #[.int .i64 36, .int .i64 1, .int .i64 0, .int .i64 0, .int .i64 (-1), .int .i64 ((x + j) % 4294967296), .bool false, .bool false, .int .i64 0, .bool false] #[.bool false, .bool false, .bool false, .int .i64 0, .int .i64 0, .int .u64 0, (.slice Ba ba ea)] w') mixed.mixed ?_
      refine wpAnyG_load (i := 0) (v := .agg #[.int .i64 5, .int .i64 0, .int .i64 0, .int .i64 0, .int .i64 0, .int .i64 0, .int .i64 0, .int .u32 ((x + j + 1) % 4294967296), .int .u32 (x), (.slice Aa aa da), .slice none 0 0]) rfl (by kernel_rfl) (by kernel_rfl) (by kernel_rfl) (by decide) rfl (by kernel_rfl) (by kernel_rfl) (fun _ _ _ h => h) (Or.inl ⟨by rfl, fun w hSw => by dsimp only at hSw; have k1 := fun k => (cell_pg hSw.t1 k).1; go_simp⟩) hS ?_
      simp only [Act.put, List.setIfInBounds_toArray, List.set_cons_zero, List.set_cons_succ, List.getElem_toArray, List.getElem_cons_zero, List.getElem_cons_succ]
      refine wpAnyG_load (i := 1) (v := .agg #[.int .i64 1, .int .i64 1, .int .i64 0, .int .i64 0, .int .i64 0, .int .i64 0, .int .i64 0, .int .u32 0, .int .u32 0, .slice none 0 0, .slice none 0 0]) rfl (by kernel_rfl) (by kernel_rfl) (by kernel_rfl) (by decide) rfl (by kernel_rfl) (by kernel_rfl) (fun _ _ _ h => h) (Or.inl ⟨by rfl, fun w hSw => by dsimp only at hSw; have k1 := fun k => (cell_pg hSw.t2 k).1; go_simp⟩) hS ?_
      simp only [Act.put, List.setIfInBounds_toArray, List.set_cons_zero, List.set_cons_succ, List.getElem_toArray, List.getElem_cons_zero, List.getElem_cons_succ]
      refine wpAnyG_load (i := 2) (v := .agg #[.int .i64 36, .int .i64 1, .int .i64 0, .int .i64 0, .int .i64 (-1), .int .i64 ((x + j) % 4294967296), .bool false, .bool false, .int .i64 0, .bool false]) rfl (by kernel_rfl) (by kernel_rfl) (by kernel_rfl) (by decide) rfl (by kernel_rfl) (by kernel_rfl) (fun _ _ _ h => h) (Or.inl ⟨by rfl, fun w hSw => by dsimp only at hSw; have k1 := fun k => (cell_pg hSw.t3 k).1; go_simp⟩) hS ?_
      simp only [Act.put, List.setIfInBounds_toArray, List.set_cons_zero, List.set_cons_succ, List.getElem_toArray, List.getElem_cons_zero, List.getElem_cons_succ]
      have yc := fun k => (cell_pg hla.l.h7 k).1
      have ym := fun k => (cell_pg hla.l.h8 k).1
      have yf := fun k => (cell_pg hla.h13 k).1
      have zc := fun k => (cell_pg hla.l.h7 k).2
      have zm := fun k => (cell_pg hla.l.h8 k).2
      have zf := fun k => (cell_pg hla.h13 k).2
      simp only [cC, mC, fC] at yc ym yf
      have bp : p < na ∧ p + 1 < na ∧ q < na := ⟨by omega, by omega, by omega⟩
      clear yc ym yf zc zm zf hS
      refine wpAnyG_step (i := 3) (by kernel_rfl) rfl (by rfl) fun K hK => ?_
      have yc := fun k => (cell_pg hla.l.h7 k).1
      have zc := fun k => (cell_pg hla.l.h7 k).2
      simp only [cC] at yc
      go_simp
      refine G_out hK (fun w' => LF p q (cC ((x + j + 1) % 4294967296) (x) (.slice Aa aa da)) (mC 1) (fC 0 0) u11 j (frC x j) w0 w' ∧ T4 na (cC ((x + j + 1) % 4294967296) (x) (.slice Aa aa da)) (mC 1) (fC 1 ((x + j) % 4294967296)) (aC false false (.slice Ba ba ea)) w') ⟨LF.drew (LF.all7 hla _ _ _ _ _ _ _ _ _ _ _ ), T4.drew (T4.far11 hta bp.1 _ _ _ _ _ _ _ _ _ _ _ )⟩ (fun w' h => h.2) fun w2a hw2a => ?_
      clear hK K hla hta yc zc
      obtain ⟨hla, hta⟩ := hw2a
      refine wpAnyG_step (i := 4) (by kernel_rfl) rfl (by rfl) fun K hK => ?_
      have yc := fun k => (cell_pg hla.l.h8 k).1
      have zc := fun k => (cell_pg hla.l.h8 k).2
      simp only [mC] at yc
      go_simp
      refine G_out hK (fun w' => LF p q (cC ((x + j + 1) % 4294967296) (x) (.slice Aa aa da)) (mC 1) (fC 0 0) u11 j (frC x j) w0 w' ∧ T4 na (cC ((x + j + 1) % 4294967296) (x) (.slice Aa aa da)) (mC 1) (fC 1 ((x + j) % 4294967296)) (aC false false (.slice Ba ba ea)) w') ⟨LF.all8 hla _ _ _ _ _ _ _ _ _ _ _ , T4.far11 hta bp.2.1 _ _ _ _ _ _ _ _ _ _ _ ⟩ (fun w' h => h.2) fun w3a hw3a => ?_
      clear hK K hla hta yc zc
      obtain ⟨hla, hta⟩ := hw3a
      refine wpAnyG_stepD (i := 5) (by kernel_rfl) rfl (by rfl) (by kernel_rfl) fun K hK => ?_
      have yc := fun k => (cell_pg hla.h13 k).1
      have zc := fun k => (cell_pg hla.h13 k).2
      simp only [fC] at yc
      go_simp
      refine G_outD hK (fun w' => LF p q (cC ((x + j + 1) % 4294967296) (x) (.slice Aa aa da)) (mC 1) (fC 1 ((x + j) % 4294967296)) u11 j (frC x j) w0 w' ∧ T4 na (cC ((x + j + 1) % 4294967296) (x) (.slice Aa aa da)) (mC 1) (fC 1 ((x + j) % 4294967296)) (aC false false (.slice Ba ba ea)) w') ⟨LF.all13 hla _ _ _ _ _ _ _ _ _ _ , T4.far10 hta bp.2.2 _ _ _ _ _ _ _ _ _ _ ⟩ fun w4a hw4a => wpAnyG_done (by kernel_rfl) ?_ _
      clear hK K hla hta yc zc
      obtain ⟨hla, hta⟩ := hw4a
      have ya := fun k => (cell_pg hta.t4 k).1
      simp only [aC] at ya
      go_wp2
      clear ya
      rw [rounds_succ]
      have hv1 : ∀ w', WS g0 w' [] (.slice Aa aa da) := fun w' => ws_nil hva
      have ycb := fun k => (cell_pg hla.l.h7 k).1
      have ymb := fun k => (cell_pg hla.l.h8 k).1
      have yfb := fun k => (cell_pg hla.h13 k).1
      simp only [cC, mC, fC] at ycb ymb yfb
      go_upto_region 15 with (go_at_call 6; refine (aw1 (g0_bound _) (hv1 _)).mono ?_; rintro e ub ⟨Ab, ab, db, Bb, bb, eb, hvb, rfl, hbb⟩; simp only [cC, mC, fC, aC])
      clear ycb ymb yfb
      have hfb := four_new ub (.cells (cC ((x + j + 1) % 4294967296) (x) (.slice Ab ab db)) 30) (.cells (mC 0) 30) (.cells (fC 2 ((x + j) % 4294967296)) 33) (.cells (aC false false (.slice Bb bb eb)) 39)
      have hBb := (hla.below hbb)
      have rb : p + 1 < ub.heap.size ∧ q < ub.heap.size := ⟨lt_of_heap hBb.l.h8, lt_of_heap hBb.h13⟩
      obtain ⟨nb, hrb⟩ : ∃ r, ub.heap.size = r := ⟨_, rfl⟩
      simp only [hrb] at hfb rb ⊢
      refine wp_world (fun w' => LF p q _ _ _ u11 j (frC x j) w0 w' ∧ T4 nb (cC ((x + j + 1) % 4294967296) (x) (.slice Ab ab db)) (mC 0) (fC 2 ((x + j) % 4294967296)) (aC false false (.slice Bb bb eb)) w') ⟨hBb.below (hrb ▸ hfb.2.2.2.2), hfb.1, hfb.2.1, hfb.2.2.1, hfb.2.2.2.1⟩ fun wb hwb => ?_
      obtain ⟨hlb, htb⟩ := hwb
      clear hfb hbb hBb
      have hS : (fun w' : World => T4 nb #[.int .i64 5, .int .i64 0, .int .i64 0, .int .i64 0, .int .i64 0, .int .i64 0, .int .i64 0, .int .u32 ((x + j + 1) % 4294967296), .int .u32 (x), (.slice Ab ab db), .slice none 0 0] #[.int .i64 1, .int .i64 0, .int .i64 0, .int .i64 0, .int .i64 0, .int .i64 0, .int .i64 0, .int .u32 0, .int .u32 0, .slice none 0 0, .slice none 0 0] #[.int .i64 36, .int .i64 2, .int .i64 0, .int .i64 0, .int .i64 (-1), .int .i64 ((x + j) % 4294967296), .bool false, .bool false, .int .i64 0, .bool false] #[.bool false, .bool false, .bool false, .int .i64 0, .int .i64 0, .int .u64 0, (.slice Bb bb eb)] w') wb.drew := htb.drew
      refine wp_region_G 5 (fun w' => T4 nb #[.int .i64 5, .int .i64 0, .int .i64 0, .int .i64 0, .int .i64 0, .int .i64 0, .int .i64 0, .int .u32 ((x + j + 1) % 4294967296), .int .u32 (x), (.slice Ab ab db), .slice none 0 0] #[.int .i64 1, .int .i64 0, .int .i64 0, .int .i64 0, .int .i64 0, .int .i64 0, .int .i64 0, .int .u32 0, .int .u32 0, .slice none 0 0, .slice none 0 0] #[.int .i64 36, .int .i64 2, .int .i64 0, .int .i64 0, .int .i64 (-1), .int .i64 ((x + j) % 4294967296), .bool false, .bool false, .int .i64 0, .bool false] #[.bool false, .bool false, .bool false, .int .i64 0, .int .i64 0, .int .u64 0, (.slice Bb bb eb)] w') mixed.mixed ?_
      refine wpAnyG_load (i := 0) (v := .agg #[.int .i64 5, .int .i64 0, .int .i64 0, .int .i64 0, .int .i64 0, .int .i64 0, .int .i64 0, .int .u32 ((x + j + 1) % 4294967296), .int .u32 (x), (.slice Ab ab db), .slice none 0 0]) rfl (by kernel_rfl) (by kernel_rfl) (by kernel_rfl) (by decide) rfl (by kernel_rfl) (by kernel_rfl) (fun _ _ _ h => h) (Or.inl ⟨by rfl, fun w hSw => by dsimp only at hSw; have k1 := fun k => (cell_pg hSw.t1 k).1; go_simp⟩) hS ?_
      simp only [Act.put, List.setIfInBounds_toArray, List.set_cons_zero, List.set_cons_succ, List.getElem_toArray, List.getElem_cons_zero, List.getElem_cons_succ]
      refine wpAnyG_load (i := 1) (v := .agg #[.int .i64 1, .int .i64 0, .int .i64 0, .int .i64 0, .int .i64 0, .int .i64 0, .int .i64 0, .int .u32 0, .int .u32 0, .slice none 0 0, .slice none 0 0]) rfl (by kernel_rfl) (by kernel_rfl) (by kernel_rfl) (by decide) rfl (by kernel_rfl) (by kernel_rfl) (fun _ _ _ h => h) (Or.inl ⟨by rfl, fun w hSw => by dsimp only at hSw; have k1 := fun k => (cell_pg hSw.t2 k).1; go_simp⟩) hS ?_
      simp only [Act.put, List.setIfInBounds_toArray, List.set_cons_zero, List.set_cons_succ, List.getElem_toArray, List.getElem_cons_zero, List.getElem_cons_succ]
      refine wpAnyG_load (i := 2) (v := .agg #[.int .i64 36, .int .i64 2, .int .i64 0, .int .i64 0, .int .i64 (-1), .int .i64 ((x + j) % 4294967296), .bool false, .bool false, .int .i64 0, .bool false]) rfl (by kernel_rfl) (by kernel_rfl) (by kernel_rfl) (by decide) rfl (by kernel_rfl) (by kernel_rfl) (fun _ _ _ h => h) (Or.inl ⟨by rfl, fun w hSw => by dsimp only at hSw; have k1 := fun k => (cell_pg hSw.t3 k).1; go_simp⟩) hS ?_
      simp only [Act.put, List.setIfInBounds_toArray, List.set_cons_zero, List.set_cons_succ, List.getElem_toArray, List.getElem_cons_zero, List.getElem_cons_succ]
      have yc := fun k => (cell_pg hlb.l.h7 k).1
      have ym := fun k => (cell_pg hlb.l.h8 k).1
      have yf := fun k => (cell_pg hlb.h13 k).1
      have zc := fun k => (cell_pg hlb.l.h7 k).2
      have zm := fun k => (cell_pg hlb.l.h8 k).2
      have zf := fun k => (cell_pg hlb.h13 k).2
      simp only [cC, mC, fC] at yc ym yf
      have bp : p < nb ∧ p + 1 < nb ∧ q < nb := ⟨by omega, by omega, by omega⟩
      clear yc ym yf zc zm zf hS
      refine wpAnyG_step (i := 3) (by kernel_rfl) rfl (by rfl) fun K hK => ?_
      have yc := fun k => (cell_pg hlb.l.h7 k).1
      have zc := fun k => (cell_pg hlb.l.h7 k).2
      simp only [cC] at yc
      go_simp
      refine G_out hK (fun w' => LF p q (cC ((x + j + 1) % 4294967296) (x) (.slice Ab ab db)) (mC 1) (fC 1 ((x + j) % 4294967296)) u11 j (frC x j) w0 w' ∧ T4 nb (cC ((x + j + 1) % 4294967296) (x) (.slice Ab ab db)) (mC 0) (fC 2 ((x + j) % 4294967296)) (aC false false (.slice Bb bb eb)) w') ⟨LF.drew (LF.all7 hlb _ _ _ _ _ _ _ _ _ _ _ ), T4.drew (T4.far11 htb bp.1 _ _ _ _ _ _ _ _ _ _ _ )⟩ (fun w' h => h.2) fun w2b hw2b => ?_
      clear hK K hlb htb yc zc
      obtain ⟨hlb, htb⟩ := hw2b
      refine wpAnyG_step (i := 4) (by kernel_rfl) rfl (by rfl) fun K hK => ?_
      have yc := fun k => (cell_pg hlb.l.h8 k).1
      have zc := fun k => (cell_pg hlb.l.h8 k).2
      simp only [mC] at yc
      go_simp
      refine G_out hK (fun w' => LF p q (cC ((x + j + 1) % 4294967296) (x) (.slice Ab ab db)) (mC 0) (fC 1 ((x + j) % 4294967296)) u11 j (frC x j) w0 w' ∧ T4 nb (cC ((x + j + 1) % 4294967296) (x) (.slice Ab ab db)) (mC 0) (fC 2 ((x + j) % 4294967296)) (aC false false (.slice Bb bb eb)) w') ⟨LF.all8 hlb _ _ _ _ _ _ _ _ _ _ _ , T4.far11 htb bp.2.1 _ _ _ _ _ _ _ _ _ _ _ ⟩ (fun w' h => h.2) fun w3b hw3b => ?_
      clear hK K hlb htb yc zc
      obtain ⟨hlb, htb⟩ := hw3b
      refine wpAnyG_stepD (i := 5) (by kernel_rfl) rfl (by rfl) (by kernel_rfl) fun K hK => ?_
      have yc := fun k => (cell_pg hlb.h13 k).1
      have zc := fun k => (cell_pg hlb.h13 k).2
      simp only [fC] at yc
      go_simp
      refine G_outD hK (fun w' => LF p q (cC ((x + j + 1) % 4294967296) (x) (.slice Ab ab db)) (mC 0) (fC 2 ((x + j) % 4294967296)) u11 j (frC x j) w0 w' ∧ T4 nb (cC ((x + j + 1) % 4294967296) (x) (.slice Ab ab db)) (mC 0) (fC 2 ((x + j) % 4294967296)) (aC false false (.slice Bb bb eb)) w') ⟨LF.all13 hlb _ _ _ _ _ _ _ _ _ _ , T4.far10 htb bp.2.2 _ _ _ _ _ _ _ _ _ _ ⟩ fun w4b hw4b => wpAnyG_done (by kernel_rfl) ?_ _
      clear hK K hlb htb yc zc
      obtain ⟨hlb, htb⟩ := hw4b
      have ya := fun k => (cell_pg htb.t4 k).1
      simp only [aC] at ya
      go_wp2
      clear ya
      rw [rounds_succ]
      have yf := fun k => (cell_pg hlb.h13 k).1
      simp only [fC] at yf
      obtain ⟨v', x5, hrun, h5⟩ := hlb.l.push (by omega) 2 ((x + j) % 4294967296) 31
      go_wp2_with (first | (at_builtin; refine wpList_plain rfl fun K hK => ?_; refine wp_app 31 31 _ _ rfl _ _ _ rfl rfl hrun ?_; refine hK _ _ ?_; clear hK K))
      have e1 : x + ((j + 1 : Nat) : Int) = x + j + 1 := by push_cast; omega
      exact ⟨⟨j + 1, _, 0, by omega, by simp, by rw [e1]; exact h5, ws_nil hvb, .inl rfl⟩, by simp [intOf]; omega⟩
    · have hj2 : n + k ≤ j := by omega
      obtain ⟨b0, h3⟩ := hL.f3
      have hy0 : 0 < j → y = 0 := fun h => by rcases hy with h1 | h1; exact h1; omega
      have hsz : (fun b => b = p ∨ b = p + 1 ∨ b = b0) = (fun b => b = p ∨ b = p + 1 ∨ b = b0) := rfl
      clear hL hy hsz
      go_loopw [19] (fun i wr => ∃ (i' : Nat) (v : Value), i' ≤ n ∧ i = .int .i64 i' ∧ F3 p b0 (cC ((x + j) % 4294967296) x v) (mC y) u11 j i' x w0 wr ∧ WS (gS (sP p b0)) wr (nsl x i') v) (fun i _ => n - (intOf i).toNat)
      case atStart => exact ⟨0, v, Nat.zero_le _, rfl, h3, ws_nil hws⟩
      case round =>
        obtain ⟨i, v, hi, rfl, h3, hws⟩ := hrel
        have yc := fun k => (cell_pg h3.h7 k).1
        have zc := fun k => (cell_pg h3.h7 k).2
        simp only [cC] at yc
        have hN : j ≤ 10 := by omega
        have hx' : 0 ≤ x ∧ x < 4294967296 := by unfold KeepU at hx; omega
        go_upto_region 22 with (go_at_call 7; obtain rfl : n = i := (by omega); refine (aall (gS_bound h3.sb) hws (nsl_ws (by omega) hx (by omega)) (nsl_ak hN (by omega) (by omega))).mono ?_; rintro e u ⟨AA, aa, dd, B, b1, e1, hv, hd, rfl, hb⟩; obtain rfl : n = b1 := (by have := sl_len1 hd; rw [wkl_len] at this; simpa using this); simp only [cC, aC]; have h3 := h3.below hb; clear yc zc; have yc := fun k => (cell_pg h3.h7 k).1; have zc := fun k => (cell_pg h3.h7 k).2; simp only [cC] at yc; have lp := lt_of_heap h3.h7; have lq : p ≠ u.heap.size := Nat.ne_of_lt lp)
        · obtain rfl : y = 0 := hy0 (by omega)
          obtain ⟨hb0, _, cap, rfl, _, _, _⟩ := h3.fr (by omega)
          have hlt := decide_eq_true (show i < n by omega)
          simp only [hlt]
          obtain ⟨B, hB⟩ : ∃ B, wr.heap.size = B := ⟨_, rfl⟩
          have hS : (fun w' : World => F3 p b0 (cC ((x + j) % 4294967296) (x) v) (mC 0) (.slice (some ⟨b0, 0, none⟩) j cap) j i x w0 w') wr.drew := h3.drew
          refine wp_region_G 7 (fun w' => F3 p b0 (cC ((x + j) % 4294967296) (x) v) (mC 0) (.slice (some ⟨b0, 0, none⟩) j cap) j i x w0 w') mixed.mixed ?_
          refine wpAnyG_take (i := 2) (v := .slice (some ⟨b0, 0, none⟩) j cap) rfl (by kernel_rfl) (by kernel_rfl) (by kernel_rfl) (by decide) (fun _ _ _ h => h) (Or.inl ⟨by rfl, fun w _ => by go_simp⟩) hS ?_
          simp only [Act.put, List.setIfInBounds_toArray, List.set_cons_zero, List.set_cons_succ, List.getElem_toArray, List.getElem_cons_zero, List.getElem_cons_succ]
          refine wpAnyG_take (i := 3) (v := .int .i64 i) rfl (by kernel_rfl) (by kernel_rfl) (by kernel_rfl) (by decide) (fun _ _ _ h => h) (Or.inl ⟨by rfl, fun w _ => by go_simp⟩) hS ?_
          simp only [Act.put, List.setIfInBounds_toArray, List.set_cons_zero, List.set_cons_succ, List.getElem_toArray, List.getElem_cons_zero, List.getElem_cons_succ]
          refine wpAnyG_load (i := 0) (v := .agg #[.int .i64 5, .int .i64 0, .int .i64 0, .int .i64 0, .int .i64 0, .int .i64 0, .int .i64 0, .int .u32 ((x + j) % 4294967296), .int .u32 (x), v, .slice none 0 0]) rfl (by kernel_rfl) (by kernel_rfl) (by kernel_rfl) (by decide) rfl (by kernel_rfl) (by kernel_rfl) (fun _ _ _ h => h) (Or.inl ⟨by rfl, fun w hSw => by have k1 := fun k => (cell_pg hSw.h7 k).1; simp only [cC] at k1; go_simp⟩) hS ?_
          simp only [Act.put, List.setIfInBounds_toArray, List.set_cons_zero, List.set_cons_succ, List.getElem_toArray, List.getElem_cons_zero, List.getElem_cons_succ]
          refine wpAnyG_load (i := 1) (v := .agg #[.int .i64 1, .int .i64 0, .int .i64 0, .int .i64 0, .int .i64 0, .int .i64 0, .int .i64 0, .int .u32 0, .int .u32 0, .slice none 0 0, .slice none 0 0]) rfl (by kernel_rfl) (by kernel_rfl) (by kernel_rfl) (by decide) rfl (by kernel_rfl) (by kernel_rfl) (fun _ _ _ h => h) (Or.inl ⟨by rfl, fun w hSw => by have k1 := fun k => (cell_pg hSw.h8 k).1; simp only [mC] at k1; go_simp⟩) hS ?_
          simp only [Act.put, List.setIfInBounds_toArray, List.set_cons_zero, List.set_cons_succ, List.getElem_toArray, List.getElem_cons_zero, List.getElem_cons_succ]
          refine wpAnyG_take (i := 4) (v := .pointer (some ⟨b0, i * 10, none⟩)) rfl (by kernel_rfl) (by kernel_rfl) (by kernel_rfl) (by decide) (fun _ _ _ h => h) (Or.inl ⟨by rfl, fun w _ => by go_simp; intro hc; exfalso; omega⟩) hS ?_
          simp only [Act.put, List.setIfInBounds_toArray, List.set_cons_zero, List.set_cons_succ, List.getElem_toArray, List.getElem_cons_zero, List.getElem_cons_succ]
          refine wpAnyG_load (i := 5) (v := .agg #[.int .i64 36, .int .i64 2, .int .i64 0, .int .i64 0, .int .i64 (-1), .int .i64 ((x + i) % 4294967296), .bool false, .bool false, .int .i64 0, .bool false]) rfl (by kernel_rfl) (by kernel_rfl) (by kernel_rfl) (by decide) rfl (by kernel_rfl) (by kernel_rfl) (fun _ _ _ h => h) (Or.inl ⟨by rfl, fun w hSw => by obtain ⟨k0, k1, k2, k3, k4, k5, k6, k7, k8, k9⟩ := F3.at10 hSw (j := i) (by omega) (by omega); go_simp⟩) hS ?_
          simp only [Act.put, List.setIfInBounds_toArray, List.set_cons_zero, List.set_cons_succ, List.getElem_toArray, List.getElem_cons_zero, List.getElem_cons_succ]
          refine wpAnyG_take (i := 6) (v := .int .i64 i) rfl (by kernel_rfl) (by kernel_rfl) (by kernel_rfl) (by decide) (fun _ _ _ h => h) (Or.inl ⟨by rfl, fun w _ => by go_simp⟩) hS ?_
          simp only [Act.put, List.setIfInBounds_toArray, List.set_cons_zero, List.set_cons_succ, List.getElem_toArray, List.getElem_cons_zero, List.getElem_cons_succ]
          have hc : 20 + 3 < 100 - 8 := by decide
          have hlo : p + 1 < B ∧ b0 < B := by rw [← hB]; exact ⟨lt_of_heap h3.h8, h3.lt⟩
          refine mid5 (JJ 20 100 (⟨p, b0, cC ((x + j) % 4294967296) (x) v, mC 0, .slice (some ⟨b0, 0, none⟩) j cap, j, i, x, w0, B, nsl x i, nsl x (i + 1), v, (x + j) % 4294967296, x, true⟩ : RF) _) rfl rfl rfl rfl rfl (fun _ => rfl) (fun _ => rfl) (fun _ => rfl) (fun _ => rfl) (fun _ => rfl) ?_ (fun _ _ _ _ _ _ _ h => h.f3) ?_ ?_ ?_ ?_ ?_ ?_ false false false false false _ _ (JJ.start 20 100 (r := (⟨p, b0, cC ((x + j) % 4294967296) (x) v, mC 0, .slice (some ⟨b0, 0, none⟩) j cap, j, i, x, w0, B, nsl x i, nsl x (i + 1), v, (x + j) % 4294967296, x, true⟩ : RF)) h3.drew ⟨.inl rfl, .inr (.inl rfl), .inr (.inr rfl)⟩ h3.drew.sb (Nat.le_of_eq hB.symm) (sl_drew hws) _)
          · intro l7 l1 l2 l3 l4 h
            cases l7 <;> cases l1 <;> cases l2 <;> cases l3 <;> cases l4 <;> first | exact Bool.noConfusion h | kernel_rfl
          · intro l1 l2 l3 l4 a w ⟨v1, v2, v3, v4, u0, u1, u2, u3, u4, u5, ha, b1, b2, b3, b4, s, hM⟩ fuel ih K hK
            subst ha
            simp only [chain, Act.put, List.setIfInBounds_toArray, List.set_cons_zero, List.set_cons_succ, Nat.reduceAdd, Nat.reduceSub]
            go_simp
            refine (aw2b (gS_bound hM.sb) (hM.pre rfl) (by unfold KeepU; omega) (by unfold KeepI; omega) (by omega) (nsl_ws (by omega) hx (by omega)) (nsl_pk hN (by omega) (by omega))).mono ?_
            rintro e u ⟨A, k1, c1, B1, j1, c2, hw, rfl, hb⟩
            refine hK.out _ _ ?_
            have hS := hM.f.below hb
            refine wpAnyG_take (i := 8) (v := .tuple #[.agg (cC ((x + j) % 4294967296) (x) (.slice A k1 c1)), .agg (mC 0), .agg (fC 3 0), .agg (aC false true (.slice B1 j1 c2))]) rfl (by kernel_rfl) (by cases l1 <;> cases l2 <;> cases l3 <;> cases l4 <;> kernel_rfl) (by cases l1 <;> cases l2 <;> cases l3 <;> cases l4 <;> kernel_rfl) (by decide) (fun _ _ _ h => h) (Or.inl ⟨by rfl, fun w _ => by go_simp⟩) hS ?_
            simp only [Act.put, List.setIfInBounds_toArray, List.set_cons_zero, List.set_cons_succ, List.getElem_toArray, List.getElem_cons_zero, List.getElem_cons_succ]
            refine wpAnyG_take (i := 9) (v := .agg (cC ((x + j) % 4294967296) (x) (.slice A k1 c1))) rfl (by kernel_rfl) (by cases l1 <;> cases l2 <;> cases l3 <;> cases l4 <;> kernel_rfl) (by cases l1 <;> cases l2 <;> cases l3 <;> cases l4 <;> kernel_rfl) (by decide) (fun _ _ _ h => h) (Or.inl ⟨by rfl, fun w _ => by go_simp⟩) hS ?_
            simp only [Act.put, List.setIfInBounds_toArray, List.set_cons_zero, List.set_cons_succ, List.getElem_toArray, List.getElem_cons_zero, List.getElem_cons_succ]
            refine wpAnyG_take (i := 10) (v := .agg (mC 0)) rfl (by kernel_rfl) (by cases l1 <;> cases l2 <;> cases l3 <;> cases l4 <;> kernel_rfl) (by cases l1 <;> cases l2 <;> cases l3 <;> cases l4 <;> kernel_rfl) (by decide) (fun _ _ _ h => h) (Or.inl ⟨by rfl, fun w _ => by go_simp⟩) hS ?_
            simp only [Act.put, List.setIfInBounds_toArray, List.set_cons_zero, List.set_cons_succ, List.getElem_toArray, List.getElem_cons_zero, List.getElem_cons_succ]
            refine wpAnyG_take (i := 11) (v := .agg (fC 3 0)) rfl (by kernel_rfl) (by cases l1 <;> cases l2 <;> cases l3 <;> cases l4 <;> kernel_rfl) (by cases l1 <;> cases l2 <;> cases l3 <;> cases l4 <;> kernel_rfl) (by decide) (fun _ _ _ h => h) (Or.inl ⟨by rfl, fun w _ => by go_simp⟩) hS ?_
            simp only [Act.put, List.setIfInBounds_toArray, List.set_cons_zero, List.set_cons_succ, List.getElem_toArray, List.getElem_cons_zero, List.getElem_cons_succ]
            refine wpAnyG_take (i := 12) (v := .agg (aC false true (.slice B1 j1 c2))) rfl (by kernel_rfl) (by cases l1 <;> cases l2 <;> cases l3 <;> cases l4 <;> kernel_rfl) (by cases l1 <;> cases l2 <;> cases l3 <;> cases l4 <;> kernel_rfl) (by decide) (fun _ _ _ h => h) (Or.inl ⟨by rfl, fun w _ => by go_simp⟩) hS ?_
            simp only [Act.put, List.setIfInBounds_toArray, List.set_cons_zero, List.set_cons_succ, List.getElem_toArray, List.getElem_cons_zero, List.getElem_cons_succ]
            refine ih _ _ ⟨v1, v2, v3, v4, .tuple #[.agg (cC ((x + j) % 4294967296) (x) (.slice A k1 c1)), .agg (mC 0), .agg (fC 3 0), .agg (aC false true (.slice B1 j1 c2))], .tuple #[.agg (cC ((x + j) % 4294967296) (x) (.slice A k1 c1)), .agg (mC 0), .agg (fC 3 0), .agg (aC false true (.slice B1 j1 c2))], .agg (cC ((x + j) % 4294967296) (x) (.slice A k1 c1)), .agg (mC 0), .agg (fC 3 0), .agg (aC false true (.slice B1 j1 c2)), ?_, hM.call hw hb⟩
            simp only [chain, Act.put, List.setIfInBounds_toArray, List.set_cons_zero, List.set_cons_succ, Nat.reduceAdd, Nat.reduceSub]
          · intro l7 l2 l3 l4 a w hJ K hK
            go_simp
            exact hK.out _ _ (hJ.al1 hc)
          · intro l7 l1 l3 l4 a w hJ K hK
            go_simp
            exact hK.out _ _ (hJ.al2 hc)
          · intro l7 l1 l2 l4 a w hJ K hK
            go_simp
            exact hK.out _ _ (hJ.al3 hc)
          · intro l7 l1 l2 l3 a w hJ K hK
            go_simp
            exact hK.out _ _ (hJ.al4 hc)
          · intro a w ⟨v1, v2, v3, v4, u0, u1, u2, u3, u4, u5, ha, hM⟩
            obtain ⟨A, a1, c1, B1, j1, c2, b1, b2, b3, b4, s, ⟨rfl, rfl, rfl, rfl⟩, ⟨rfl, rfl, rfl, rfl⟩, h5⟩ := hM.w5 hlo
            subst ha
            simp only [chain, Act.put, List.setIfInBounds_toArray, List.set_cons_zero, List.set_cons_succ, Nat.reduceAdd, Nat.reduceSub]
            refine wpAnyG_stepD (i := 17) (by kernel_rfl) rfl (by rfl) (by kernel_rfl) fun K hK => ?_
            have yc := fun k => (cell_pg h5.t1 k).1
            have zc := fun k => (cell_pg h5.t1 k).2
            try simp only [cC, mC, fC, aC]
            go_simp
            refine G_outD hK (fun w' => W5 p b0 (cC ((x + j) % 4294967296) (x) v) (mC 0) (.slice (some ⟨b0, 0, none⟩) j cap) j i x w0 B (nsl x (i + 1)) (.slice A a1 c1) b1 b2 b3 b4 s (cC ((x + j) % 4294967296) (x) (.slice A a1 c1)) #[.int .i64 0, .int .i64 0, .int .i64 0, .int .i64 0, .int .i64 0, .int .i64 0, .int .i64 0, .int .u32 0, .int .u32 0, .slice none 0 0, .slice none 0 0] #[.int .i64 0, .int .i64 0, .int .i64 0, .int .i64 0, .int .i64 0, .int .i64 0, .bool false, .bool false, .int .i64 0, .bool false] #[.bool false, .bool false, .bool false, .int .i64 0, .int .i64 0, .int .u64 0, .slice none 0 0] w') (W5.all1 h5 _ _ _ _ _ _ _ _ _ _ _ ) fun w50 h5 => ?_
            clear hK K yc zc
            refine wpAnyG_stepD (i := 18) (by kernel_rfl) rfl (by rfl) (by kernel_rfl) fun K hK => ?_
            have yc := fun k => (cell_pg h5.t2 k).1
            have zc := fun k => (cell_pg h5.t2 k).2
            try simp only [cC, mC, fC, aC]
            go_simp
            refine G_outD hK (fun w' => W5 p b0 (cC ((x + j) % 4294967296) (x) v) (mC 0) (.slice (some ⟨b0, 0, none⟩) j cap) j i x w0 B (nsl x (i + 1)) (.slice A a1 c1) b1 b2 b3 b4 s (cC ((x + j) % 4294967296) (x) (.slice A a1 c1)) (mC 0) #[.int .i64 0, .int .i64 0, .int .i64 0, .int .i64 0, .int .i64 0, .int .i64 0, .bool false, .bool false, .int .i64 0, .bool false] #[.bool false, .bool false, .bool false, .int .i64 0, .int .i64 0, .int .u64 0, .slice none 0 0] w') (W5.all2 h5 _ _ _ _ _ _ _ _ _ _ _ ) fun w51 h5 => ?_
            clear hK K yc zc
            refine wpAnyG_stepD (i := 19) (by kernel_rfl) rfl (by rfl) (by kernel_rfl) fun K hK => ?_
            have yc := fun k => (cell_pg h5.t3 k).1
            have zc := fun k => (cell_pg h5.t3 k).2
            try simp only [cC, mC, fC, aC]
            go_simp
            refine G_outD hK (fun w' => W5 p b0 (cC ((x + j) % 4294967296) (x) v) (mC 0) (.slice (some ⟨b0, 0, none⟩) j cap) j i x w0 B (nsl x (i + 1)) (.slice A a1 c1) b1 b2 b3 b4 s (cC ((x + j) % 4294967296) (x) (.slice A a1 c1)) (mC 0) (fC 3 0) #[.bool false, .bool false, .bool false, .int .i64 0, .int .i64 0, .int .u64 0, .slice none 0 0] w') (W5.all3 h5 _ _ _ _ _ _ _ _ _ _ ) fun w52 h5 => ?_
            clear hK K yc zc
            refine wpAnyG_stepD (i := 20) (by kernel_rfl) rfl (by rfl) (by kernel_rfl) fun K hK => ?_
            have yc := fun k => (cell_pg h5.t4 k).1
            have zc := fun k => (cell_pg h5.t4 k).2
            try simp only [cC, mC, fC, aC]
            go_simp
            refine G_outD hK (fun w' => W5 p b0 (cC ((x + j) % 4294967296) (x) v) (mC 0) (.slice (some ⟨b0, 0, none⟩) j cap) j i x w0 B (nsl x (i + 1)) (.slice A a1 c1) b1 b2 b3 b4 s (cC ((x + j) % 4294967296) (x) (.slice A a1 c1)) (mC 0) (fC 3 0) (aC false true (.slice B1 j1 c2)) w') (W5.all4 h5 _ _ _ _ _ _ _ ) fun w53 h5 => ?_
            clear hK K yc zc
            refine wpAnyG_done (by kernel_rfl) ?_ _
            go_upto_region 23 with fail
            have h5 := h5.drew
            have hS : (fun w' : World => w'.heap[b1]? = some (.cells (cC ((x + j) % 4294967296) x (.slice A a1 c1)) 30 (0, 0)) ∧ w'.heap[b2]? = some (.cells (mC 0) 30 (0, 0)) ∧ w'.heap[b3]? = some (.cells (fC 3 0) 33 (0, 0))) w53.drew := h5.bl
            refine wp_region_G 8 (fun w' => w'.heap[b1]? = some (.cells (cC ((x + j) % 4294967296) x (.slice A a1 c1)) 30 (0, 0)) ∧ w'.heap[b2]? = some (.cells (mC 0) 30 (0, 0)) ∧ w'.heap[b3]? = some (.cells (fC 3 0) 33 (0, 0))) mixed.mixed ?_
            refine wpAnyG_take (i := 0) (v := .slice (some ⟨b0, 0, none⟩) j cap) rfl (by kernel_rfl) (by kernel_rfl) (by kernel_rfl) (by decide) (fun _ _ _ h => h) (Or.inl ⟨by rfl, fun w _ => by go_simp⟩) hS ?_
            simp only [Act.put, List.setIfInBounds_toArray, List.set_cons_zero, List.set_cons_succ, List.getElem_toArray, List.getElem_cons_zero, List.getElem_cons_succ]
            refine wpAnyG_take (i := 1) (v := .int .i64 i) rfl (by kernel_rfl) (by kernel_rfl) (by kernel_rfl) (by decide) (fun _ _ _ h => h) (Or.inl ⟨by rfl, fun w _ => by go_simp⟩) hS ?_
            simp only [Act.put, List.setIfInBounds_toArray, List.set_cons_zero, List.set_cons_succ, List.getElem_toArray, List.getElem_cons_zero, List.getElem_cons_succ]
            refine wpAnyG_load (i := 2) (v := .agg #[.int .i64 5, .int .i64 0, .int .i64 0, .int .i64 0, .int .i64 0, .int .i64 0, .int .i64 0, .int .u32 ((x + j) % 4294967296), .int .u32 (x), (.slice A a1 c1), .slice none 0 0]) rfl (by kernel_rfl) (by kernel_rfl) (by kernel_rfl) (by decide) rfl (by kernel_rfl) (by kernel_rfl) (fun _ _ _ h => h) (Or.inl ⟨by rfl, fun w hSw => by have k1 := fun k => (cell_pg hSw.1 k).1; simp only [cC] at k1; go_simp⟩) hS ?_
            simp only [Act.put, List.setIfInBounds_toArray, List.set_cons_zero, List.set_cons_succ, List.getElem_toArray, List.getElem_cons_zero, List.getElem_cons_succ]
            refine wpAnyG_load (i := 3) (v := .agg #[.int .i64 1, .int .i64 0, .int .i64 0, .int .i64 0, .int .i64 0, .int .i64 0, .int .i64 0, .int .u32 0, .int .u32 0, .slice none 0 0, .slice none 0 0]) rfl (by kernel_rfl) (by kernel_rfl) (by kernel_rfl) (by decide) rfl (by kernel_rfl) (by kernel_rfl) (fun _ _ _ h => h) (Or.inl ⟨by rfl, fun w hSw => by have k1 := fun k => (cell_pg hSw.2.1 k).1; simp only [mC] at k1; go_simp⟩) hS ?_
            simp only [Act.put, List.setIfInBounds_toArray, List.set_cons_zero, List.set_cons_succ, List.getElem_toArray, List.getElem_cons_zero, List.getElem_cons_succ]
            refine wpAnyG_load (i := 4) (v := .agg #[.int .i64 36, .int .i64 3, .int .i64 0, .int .i64 0, .int .i64 (-1), .int .i64 (0), .bool false, .bool false, .int .i64 0, .bool false]) rfl (by kernel_rfl) (by kernel_rfl) (by kernel_rfl) (by decide) rfl (by kernel_rfl) (by kernel_rfl) (fun _ _ _ h => h) (Or.inl ⟨by rfl, fun w hSw => by have k1 := fun k => (cell_pg hSw.2.2 k).1; simp only [fC] at k1; go_simp⟩) hS ?_
            simp only [Act.put, List.setIfInBounds_toArray, List.set_cons_zero, List.set_cons_succ, List.getElem_toArray, List.getElem_cons_zero, List.getElem_cons_succ]
            clear hS
            generalize w53.drew = w54 at h5 ⊢
            refine wpAnyG_step (i := 5) (by kernel_rfl) rfl (by rfl) fun K hK => ?_
            have yc := fun k => (cell_pg h5.f.h7 k).1
            have zc := fun k => (cell_pg h5.f.h7 k).2
            simp only [cC] at yc
            go_simp
            refine G_out hK (fun w' => W5 p b0 (cC ((x + j) % 4294967296) x (.slice A a1 c1)) (mC 0) (.slice (some ⟨b0, 0, none⟩) j cap) j i x w0 B (nsl x (i + 1)) (.slice A a1 c1) b1 b2 b3 b4 s (cC ((x + j) % 4294967296) x (.slice A a1 c1)) (mC 0) (fC 3 0) (aC false true (.slice B1 j1 c2)) w') (W5.all7 h5 _ _ _ _ _ _ _ _ _ _ _ ) (fun w' h => h.bl) fun w55 h5 => ?_
            clear hK K yc zc
            refine wpAnyG_step (i := 6) (by kernel_rfl) rfl (by rfl) fun K hK => ?_
            have yc := fun k => (cell_pg h5.f.h8 k).1
            have zc := fun k => (cell_pg h5.f.h8 k).2
            simp only [mC] at yc
            go_simp
            refine G_out hK (fun w' => W5 p b0 (cC ((x + j) % 4294967296) x (.slice A a1 c1)) (mC 0) (.slice (some ⟨b0, 0, none⟩) j cap) j i x w0 B (nsl x (i + 1)) (.slice A a1 c1) b1 b2 b3 b4 s (cC ((x + j) % 4294967296) x (.slice A a1 c1)) (mC 0) (fC 3 0) (aC false true (.slice B1 j1 c2)) w') (W5.all8 h5 _ _ _ _ _ _ _ _ _ _ _ ) (fun w' h => h.bl) fun w56 h5 => ?_
            clear hK K yc zc
            have hS := h5.bl
            refine wpAnyG_take (i := 7) (v := .pointer (some ⟨b0, i * 10, none⟩)) rfl (by kernel_rfl) (by kernel_rfl) (by kernel_rfl) (by decide) (fun _ _ _ h => h) (Or.inl ⟨by rfl, fun w _ => by go_simp; intro hc; exfalso; omega⟩) hS ?_
            simp only [Act.put, List.setIfInBounds_toArray, List.set_cons_zero, List.set_cons_succ, List.getElem_toArray, List.getElem_cons_zero, List.getElem_cons_succ]
            refine wpAnyG_stepD (i := 8) (by kernel_rfl) rfl (by rfl) (by kernel_rfl) fun K hK => ?_
            obtain ⟨k0, k1, k2, k3, k4, k5, k6, k7, k8, k9⟩ := h5.f.at10 (j := i) (by omega) (by omega)
            obtain ⟨f0, f1, f2, f3, f4, f5, f6, f7, f8, f9⟩ := h5.f.fz10 (j := i) (by omega) (by omega)
            go_simp
            refine G_outD hK (fun w' => W5 p b0 (cC ((x + j) % 4294967296) x (.slice A a1 c1)) (mC 0) (.slice (some ⟨b0, 0, none⟩) j cap) j (i + 1) x w0 B (nsl x (i + 1)) (.slice A a1 c1) b1 b2 b3 b4 s (cC ((x + j) % 4294967296) x (.slice A a1 c1)) (mC 0) (fC 3 0) (aC false true (.slice B1 j1 c2)) w') (W5.allF h5 (by omega) _ _ _ _ _ _ _ _ _ _ ) fun w57 h5 => wpAnyG_done (by kernel_rfl) ?_ _
            clear hK K
            have ya := fun k => (cell_pg h5.t4 k).1
            simp only [aC] at ya
            go_wp2
            exact ⟨⟨i + 1, _, by omega, by simp, h5.f, h5.ws3 fun _ h => h⟩, by simp [intOf]; omega⟩
        · obtain ⟨q, hq⟩ : ∃ q, u.heap.size = q := ⟨_, rfl⟩
          simp only [hq, decide_eq_false (Nat.lt_irrefl n)]
          refine wp_world (fun w' => F3 p b0 (cC ((x + j) % 4294967296) ((x + j) % 4294967296) (.slice AA aa dd)) (mC y) u11 j n x w0 w' ∧ DC (gS (sP p b0)) w' (.sl [.int .i64] (wkl n) none) (.slice B n e1) ∧ w'.heap[q]? = some (.cells (aC true false (.slice B n e1)) 39 (0, 0))) ⟨(F3.all7 h3 _ _ _ _ _ _ _ _ _ _ _).alloc _, sl_below (sl_all11 hd (.inl rfl) _ _ _ _ _ _ _ _ _ _ _) (al_below _ _), ?_⟩ fun w6 h6 => ?_
          · have e := sz_all11 (w := u) (b := p) (.int .i64 5) (.int .i64 0) (.int .i64 0) (.int .i64 0) (.int .i64 0) (.int .i64 0) (.int .i64 0) (.int .u32 ((x + j) % 4294967296)) (.int .u32 ((x + j) % 4294967296)) (.slice AA aa dd) (.slice none 0 0)
            rw [← hq, ← e]
            exact heap_alloc_new _ _
          clear h3 hd hb yc zc lp lq hq
          obtain ⟨h3, hd, h7⟩ := h6
          go_loopw [25] (fun i wr => ∃ i' : Nat, i' ≤ n ∧ i = .int .i64 i' ∧ F3 p b0 (cC ((x + j) % 4294967296) ((x + j) % 4294967296) (.slice AA aa dd)) (mC y) u11 j n x w0 wr ∧ DC (gS (sP p b0)) wr (.sl [.int .i64] (wkl n) none) (.slice B n e1) ∧ wr.heap[q]? = some (.cells (aC true false (.slice B n e1)) 39 (0, 0))) (fun i _ => n - (intOf i).toNat)
          case atStart => exact ⟨0, Nat.zero_le _, rfl, h3, hd, h7⟩
          case round =>
            obtain ⟨i, hi, rfl, h3, hd, h7⟩ := hrel
            go_upto_region 32 with fail
            · obtain ⟨b, o, rfl, hc⟩ := wk_at hd (show i < n by omega)
              have yq := fun k => (cell_pg h7 k).1
              simp only [aC] at yq
              go_wp2
              exact ⟨⟨i + 1, by omega, by simp, h3, hd, h7⟩, by simp [intOf]; omega⟩
            · simp only [decide_eq_false (show ¬ i < n by omega)]
              clear hd h7
              have hnil : ∀ w', WS (gS (sP p b0)) w' [] (.slice AA aa dd) := fun w' => ws_nil hv
              go_loopw [26] (fun i wr => ∃ i' : Nat, (n ≤ i' ∧ i' ≤ j) ∧ i = .int .i64 i' ∧ F3 p b0 (cC ((x + j) % 4294967296) ((x + j) % 4294967296) (.slice AA aa dd)) (mC y) u11 j n x w0 wr) (fun i _ => n + k - (intOf i).toNat)
              case atStart => exact ⟨n, ⟨Nat.le_refl _, by omega⟩, rfl, h3⟩
              case round =>
                obtain ⟨i, ⟨hi1, hi⟩, rfl, h3⟩ := hrel
                have yc := fun k => (cell_pg h3.h7 k).1
                simp only [cC] at yc
                go_upto_region 37 with fail
                · have hws := hnil wr
                  obtain rfl : y = 0 := hy0 (by omega)
                  obtain ⟨hb0, _, cap, rfl, _, _, _⟩ := h3.fr (by omega)
                  have hlt := decide_eq_true (show (i : Int) < (n : Int) + (k : Int) by omega)
                  simp only [hlt]
                  obtain ⟨B, hB⟩ : ∃ B, wr.heap.size = B := ⟨_, rfl⟩
                  have hS : (fun w' : World => F3 p b0 (cC ((x + j) % 4294967296) ((x + j) % 4294967296) (.slice AA aa dd)) (mC 0) (.slice (some ⟨b0, 0, none⟩) j cap) j n x w0 w') wr.drew := h3.drew
                  refine wp_region_G 7 (fun w' => F3 p b0 (cC ((x + j) % 4294967296) ((x + j) % 4294967296) (.slice AA aa dd)) (mC 0) (.slice (some ⟨b0, 0, none⟩) j cap) j n x w0 w') mixed.mixed ?_
                  refine wpAnyG_take (i := 2) (v := .slice (some ⟨b0, 0, none⟩) j cap) rfl (by kernel_rfl) (by kernel_rfl) (by kernel_rfl) (by decide) (fun _ _ _ h => h) (Or.inl ⟨by rfl, fun w _ => by go_simp⟩) hS ?_
                  simp only [Act.put, List.setIfInBounds_toArray, List.set_cons_zero, List.set_cons_succ, List.getElem_toArray, List.getElem_cons_zero, List.getElem_cons_succ]
                  refine wpAnyG_take (i := 3) (v := .int .i64 i) rfl (by kernel_rfl) (by kernel_rfl) (by kernel_rfl) (by decide) (fun _ _ _ h => h) (Or.inl ⟨by rfl, fun w _ => by go_simp⟩) hS ?_
                  simp only [Act.put, List.setIfInBounds_toArray, List.set_cons_zero, List.set_cons_succ, List.getElem_toArray, List.getElem_cons_zero, List.getElem_cons_succ]
                  refine wpAnyG_load (i := 0) (v := .agg #[.int .i64 5, .int .i64 0, .int .i64 0, .int .i64 0, .int .i64 0, .int .i64 0, .int .i64 0, .int .u32 ((x + j) % 4294967296), .int .u32 ((x + j) % 4294967296), (.slice AA aa dd), .slice none 0 0]) rfl (by kernel_rfl) (by kernel_rfl) (by kernel_rfl) (by decide) rfl (by kernel_rfl) (by kernel_rfl) (fun _ _ _ h => h) (Or.inl ⟨by rfl, fun w hSw => by have k1 := fun k => (cell_pg hSw.h7 k).1; simp only [cC] at k1; go_simp⟩) hS ?_
                  simp only [Act.put, List.setIfInBounds_toArray, List.set_cons_zero, List.set_cons_succ, List.getElem_toArray, List.getElem_cons_zero, List.getElem_cons_succ]
                  refine wpAnyG_load (i := 1) (v := .agg #[.int .i64 1, .int .i64 0, .int .i64 0, .int .i64 0, .int .i64 0, .int .i64 0, .int .i64 0, .int .u32 0, .int .u32 0, .slice none 0 0, .slice none 0 0]) rfl (by kernel_rfl) (by kernel_rfl) (by kernel_rfl) (by decide) rfl (by kernel_rfl) (by kernel_rfl) (fun _ _ _ h => h) (Or.inl ⟨by rfl, fun w hSw => by have k1 := fun k => (cell_pg hSw.h8 k).1; simp only [mC] at k1; go_simp⟩) hS ?_
                  simp only [Act.put, List.setIfInBounds_toArray, List.set_cons_zero, List.set_cons_succ, List.getElem_toArray, List.getElem_cons_zero, List.getElem_cons_succ]
                  refine wpAnyG_take (i := 4) (v := .pointer (some ⟨b0, i * 10, none⟩)) rfl (by kernel_rfl) (by kernel_rfl) (by kernel_rfl) (by decide) (fun _ _ _ h => h) (Or.inl ⟨by rfl, fun w _ => by go_simp; intro hc; exfalso; omega⟩) hS ?_
                  simp only [Act.put, List.setIfInBounds_toArray, List.set_cons_zero, List.set_cons_succ, List.getElem_toArray, List.getElem_cons_zero, List.getElem_cons_succ]
                  refine wpAnyG_load (i := 5) (v := .agg #[.int .i64 36, .int .i64 2, .int .i64 0, .int .i64 0, .int .i64 (-1), .int .i64 ((x + i) % 4294967296), .bool false, .bool false, .int .i64 0, .bool false]) rfl (by kernel_rfl) (by kernel_rfl) (by kernel_rfl) (by decide) rfl (by kernel_rfl) (by kernel_rfl) (fun _ _ _ h => h) (Or.inl ⟨by rfl, fun w hSw => by obtain ⟨k0, k1, k2, k3, k4, k5, k6, k7, k8, k9⟩ := F3.at10 hSw (j := i) (by omega) (by omega); go_simp⟩) hS ?_
                  simp only [Act.put, List.setIfInBounds_toArray, List.set_cons_zero, List.set_cons_succ, List.getElem_toArray, List.getElem_cons_zero, List.getElem_cons_succ]
                  refine wpAnyG_take (i := 6) (v := .int .i64 i) rfl (by kernel_rfl) (by kernel_rfl) (by kernel_rfl) (by decide) (fun _ _ _ h => h) (Or.inl ⟨by rfl, fun w _ => by go_simp⟩) hS ?_
                  simp only [Act.put, List.setIfInBounds_toArray, List.set_cons_zero, List.set_cons_succ, List.getElem_toArray, List.getElem_cons_zero, List.getElem_cons_succ]
                  have hc : 27 + 3 < 157 - 8 := by decide
                  have hlo : p + 1 < B ∧ b0 < B := by rw [← hB]; exact ⟨lt_of_heap h3.h8, h3.lt⟩
                  refine mid5 (JJ 27 157 (⟨p, b0, cC ((x + j) % 4294967296) ((x + j) % 4294967296) (.slice AA aa dd), mC 0, .slice (some ⟨b0, 0, none⟩) j cap, j, n, x, w0, B, [], [], (.slice AA aa dd), (x + j) % 4294967296, (x + j) % 4294967296, false⟩ : RF) _) rfl rfl rfl rfl rfl (fun _ => rfl) (fun _ => rfl) (fun _ => rfl) (fun _ => rfl) (fun _ => rfl) ?_ (fun _ _ _ _ _ _ _ h => h.f3) ?_ ?_ ?_ ?_ ?_ ?_ false false false false false _ _ (JJ.start 27 157 (r := (⟨p, b0, cC ((x + j) % 4294967296) ((x + j) % 4294967296) (.slice AA aa dd), mC 0, .slice (some ⟨b0, 0, none⟩) j cap, j, n, x, w0, B, [], [], (.slice AA aa dd), (x + j) % 4294967296, (x + j) % 4294967296, false⟩ : RF)) h3.drew ⟨.inl rfl, .inr (.inl rfl), .inr (.inr rfl)⟩ h3.drew.sb (Nat.le_of_eq hB.symm) (sl_drew hws) _)
                  · intro l7 l1 l2 l3 l4 h
                    cases l7 <;> cases l1 <;> cases l2 <;> cases l3 <;> cases l4 <;> first | exact Bool.noConfusion h | kernel_rfl
                  · intro l1 l2 l3 l4 a w ⟨v1, v2, v3, v4, u0, u1, u2, u3, u4, u5, ha, b1, b2, b3, b4, s, hM⟩ fuel ih K hK
                    subst ha
                    simp only [chain, Act.put, List.setIfInBounds_toArray, List.set_cons_zero, List.set_cons_succ, Nat.reduceAdd, Nat.reduceSub]
                    go_simp
                    refine (aw2a (gS_bound hM.sb) (hM.pre rfl) (by unfold KeepU; omega) (by omega)).mono ?_
                    rintro e u ⟨A, k1, c1, B1, j1, c2, hw, rfl, hb⟩
                    refine hK.out _ _ ?_
                    have hS := hM.f.below hb
                    refine wpAnyG_take (i := 8) (v := .tuple #[.agg (cC ((x + j) % 4294967296) ((x + j) % 4294967296) (.slice A k1 c1)), .agg (mC 0), .agg (fC 3 0), .agg (aC false false (.slice B1 j1 c2))]) rfl (by kernel_rfl) (by cases l1 <;> cases l2 <;> cases l3 <;> cases l4 <;> kernel_rfl) (by cases l1 <;> cases l2 <;> cases l3 <;> cases l4 <;> kernel_rfl) (by decide) (fun _ _ _ h => h) (Or.inl ⟨by rfl, fun w _ => by go_simp⟩) hS ?_
                    simp only [Act.put, List.setIfInBounds_toArray, List.set_cons_zero, List.set_cons_succ, List.getElem_toArray, List.getElem_cons_zero, List.getElem_cons_succ]
                    refine wpAnyG_take (i := 9) (v := .agg (cC ((x + j) % 4294967296) ((x + j) % 4294967296) (.slice A k1 c1))) rfl (by kernel_rfl) (by cases l1 <;> cases l2 <;> cases l3 <;> cases l4 <;> kernel_rfl) (by cases l1 <;> cases l2 <;> cases l3 <;> cases l4 <;> kernel_rfl) (by decide) (fun _ _ _ h => h) (Or.inl ⟨by rfl, fun w _ => by go_simp⟩) hS ?_
                    simp only [Act.put, List.setIfInBounds_toArray, List.set_cons_zero, List.set_cons_succ, List.getElem_toArray, List.getElem_cons_zero, List.getElem_cons_succ]
                    refine wpAnyG_take (i := 10) (v := .agg (mC 0)) rfl (by kernel_rfl) (by cases l1 <;> cases l2 <;> cases l3 <;> cases l4 <;> kernel_rfl) (by cases l1 <;> cases l2 <;> cases l3 <;> cases l4 <;> kernel_rfl) (by decide) (fun _ _ _ h => h) (Or.inl ⟨by rfl, fun w _ => by go_simp⟩) hS ?_
                    simp only [Act.put, List.setIfInBounds_toArray, List.set_cons_zero, List.set_cons_succ, List.getElem_toArray, List.getElem_cons_zero, List.getElem_cons_succ]
                    refine wpAnyG_take (i := 11) (v := .agg (fC 3 0)) rfl (by kernel_rfl) (by cases l1 <;> cases l2 <;> cases l3 <;> cases l4 <;> kernel_rfl) (by cases l1 <;> cases l2 <;> cases l3 <;> cases l4 <;> kernel_rfl) (by decide) (fun _ _ _ h => h) (Or.inl ⟨by rfl, fun w _ => by go_simp⟩) hS ?_
                    simp only [Act.put, List.setIfInBounds_toArray, List.set_cons_zero, List.set_cons_succ, List.getElem_toArray, List.getElem_cons_zero, List.getElem_cons_succ]
                    refine wpAnyG_take (i := 12) (v := .agg (aC false false (.slice B1 j1 c2))) rfl (by kernel_rfl) (by cases l1 <;> cases l2 <;> cases l3 <;> cases l4 <;> kernel_rfl) (by cases l1 <;> cases l2 <;> cases l3 <;> cases l4 <;> kernel_rfl) (by decide) (fun _ _ _ h => h) (Or.inl ⟨by rfl, fun w _ => by go_simp⟩) hS ?_
                    simp only [Act.put, List.setIfInBounds_toArray, List.set_cons_zero, List.set_cons_succ, List.getElem_toArray, List.getElem_cons_zero, List.getElem_cons_succ]
                    refine ih _ _ ⟨v1, v2, v3, v4, .tuple #[.agg (cC ((x + j) % 4294967296) ((x + j) % 4294967296) (.slice A k1 c1)), .agg (mC 0), .agg (fC 3 0), .agg (aC false false (.slice B1 j1 c2))], .tuple #[.agg (cC ((x + j) % 4294967296) ((x + j) % 4294967296) (.slice A k1 c1)), .agg (mC 0), .agg (fC 3 0), .agg (aC false false (.slice B1 j1 c2))], .agg (cC ((x + j) % 4294967296) ((x + j) % 4294967296) (.slice A k1 c1)), .agg (mC 0), .agg (fC 3 0), .agg (aC false false (.slice B1 j1 c2)), ?_, hM.call hw hb⟩
                    simp only [chain, Act.put, List.setIfInBounds_toArray, List.set_cons_zero, List.set_cons_succ, Nat.reduceAdd, Nat.reduceSub]
                  · intro l7 l2 l3 l4 a w hJ K hK
                    go_simp
                    exact hK.out _ _ (hJ.al1 hc)
                  · intro l7 l1 l3 l4 a w hJ K hK
                    go_simp
                    exact hK.out _ _ (hJ.al2 hc)
                  · intro l7 l1 l2 l4 a w hJ K hK
                    go_simp
                    exact hK.out _ _ (hJ.al3 hc)
                  · intro l7 l1 l2 l3 a w hJ K hK
                    go_simp
                    exact hK.out _ _ (hJ.al4 hc)
                  · intro a w ⟨v1, v2, v3, v4, u0, u1, u2, u3, u4, u5, ha, hM⟩
                    obtain ⟨A, a1, c1, B1, j1, c2, b1, b2, b3, b4, s, ⟨rfl, rfl, rfl, rfl⟩, ⟨rfl, rfl, rfl, rfl⟩, h5⟩ := hM.w5 hlo
                    subst ha
                    simp only [chain, Act.put, List.setIfInBounds_toArray, List.set_cons_zero, List.set_cons_succ, Nat.reduceAdd, Nat.reduceSub]
                    refine wpAnyG_stepD (i := 17) (by kernel_rfl) rfl (by rfl) (by kernel_rfl) fun K hK => ?_
                    have yc := fun k => (cell_pg h5.t1 k).1
                    have zc := fun k => (cell_pg h5.t1 k).2
                    try simp only [cC, mC, fC, aC]
                    go_simp
                    refine G_outD hK (fun w' => W5 p b0 (cC ((x + j) % 4294967296) ((x + j) % 4294967296) (.slice AA aa dd)) (mC 0) (.slice (some ⟨b0, 0, none⟩) j cap) j n x w0 B [] (.slice A a1 c1) b1 b2 b3 b4 s (cC ((x + j) % 4294967296) ((x + j) % 4294967296) (.slice A a1 c1)) #[.int .i64 0, .int .i64 0, .int .i64 0, .int .i64 0, .int .i64 0, .int .i64 0, .int .i64 0, .int .u32 0, .int .u32 0, .slice none 0 0, .slice none 0 0] #[.int .i64 0, .int .i64 0, .int .i64 0, .int .i64 0, .int .i64 0, .int .i64 0, .bool false, .bool false, .int .i64 0, .bool false] #[.bool false, .bool false, .bool false, .int .i64 0, .int .i64 0, .int .u64 0, .slice none 0 0] w') (W5.all1 h5 _ _ _ _ _ _ _ _ _ _ _ ) fun w50 h5 => ?_
                    clear hK K yc zc
                    refine wpAnyG_stepD (i := 18) (by kernel_rfl) rfl (by rfl) (by kernel_rfl) fun K hK => ?_
                    have yc := fun k => (cell_pg h5.t2 k).1
                    have zc := fun k => (cell_pg h5.t2 k).2
                    try simp only [cC, mC, fC, aC]
                    go_simp
                    refine G_outD hK (fun w' => W5 p b0 (cC ((x + j) % 4294967296) ((x + j) % 4294967296) (.slice AA aa dd)) (mC 0) (.slice (some ⟨b0, 0, none⟩) j cap) j n x w0 B [] (.slice A a1 c1) b1 b2 b3 b4 s (cC ((x + j) % 4294967296) ((x + j) % 4294967296) (.slice A a1 c1)) (mC 0) #[.int .i64 0, .int .i64 0, .int .i64 0, .int .i64 0, .int .i64 0, .int .i64 0, .bool false, .bool false, .int .i64 0, .bool false] #[.bool false, .bool false, .bool false, .int .i64 0, .int .i64 0, .int .u64 0, .slice none 0 0] w') (W5.all2 h5 _ _ _ _ _ _ _ _ _ _ _ ) fun w51 h5 => ?_
                    clear hK K yc zc
                    refine wpAnyG_stepD (i := 19) (by kernel_rfl) rfl (by rfl) (by kernel_rfl) fun K hK => ?_
                    have yc := fun k => (cell_pg h5.t3 k).1
                    have zc := fun k => (cell_pg h5.t3 k).2
                    try simp only [cC, mC, fC, aC]
                    go_simp
                    refine G_outD hK (fun w' => W5 p b0 (cC ((x + j) % 4294967296) ((x + j) % 4294967296) (.slice AA aa dd)) (mC 0) (.slice (some ⟨b0, 0, none⟩) j cap) j n x w0 B [] (.slice A a1 c1) b1 b2 b3 b4 s (cC ((x + j) % 4294967296) ((x + j) % 4294967296) (.slice A a1 c1)) (mC 0) (fC 3 0) #[.bool false, .bool false, .bool false, .int .i64 0, .int .i64 0, .int .u64 0, .slice none 0 0] w') (W5.all3 h5 _ _ _ _ _ _ _ _ _ _ ) fun w52 h5 => ?_
                    clear hK K yc zc
                    refine wpAnyG_stepD (i := 20) (by kernel_rfl) rfl (by rfl) (by kernel_rfl) fun K hK => ?_
                    have yc := fun k => (cell_pg h5.t4 k).1
                    have zc := fun k => (cell_pg h5.t4 k).2
                    try simp only [cC, mC, fC, aC]
                    go_simp
                    refine G_outD hK (fun w' => W5 p b0 (cC ((x + j) % 4294967296) ((x + j) % 4294967296) (.slice AA aa dd)) (mC 0) (.slice (some ⟨b0, 0, none⟩) j cap) j n x w0 B [] (.slice A a1 c1) b1 b2 b3 b4 s (cC ((x + j) % 4294967296) ((x + j) % 4294967296) (.slice A a1 c1)) (mC 0) (fC 3 0) (aC false false (.slice B1 j1 c2)) w') (W5.all4 h5 _ _ _ _ _ _ _ ) fun w53 h5 => ?_
                    clear hK K yc zc
                    refine wpAnyG_done (by kernel_rfl) ?_ _
                    have ya := fun k => (cell_pg h5.t4 k).1
                    have yb := fun k => (cell_pg h5.t3 k).1
                    simp only [aC, fC] at ya yb
                    go_wp2
                    exact ⟨⟨i + 1, ⟨by omega, by omega⟩, by simp, h5.f⟩, by simp [intOf]; omega⟩
                · go_ret
                  exact ⟨rfl, (hb0.trans (h3.b.mono (hp ▸ hb0.size)))⟩
end Go.Proofs.YtmmliaobjendoaaDoor
