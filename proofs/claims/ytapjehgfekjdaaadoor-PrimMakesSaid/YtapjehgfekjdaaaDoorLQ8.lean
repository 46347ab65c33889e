/- What is alive: three steps of three objects, by hand. No condition. -/
import Derived.Test.YtapjehgfekjdaaaDoorLQ4
import Derived.Test.YtapjehgfekjdaaaDoorLQ5
import Derived.Test.YtapjehgfekjdaaaDoorLQ6
import Derived.Test.YtapjehgfekjdaaaDoorLQ7
namespace Go.Proofs.YtapjehgfekjdaaaDoor
open SY
open Go.RowKit
set_option linter.unusedVariables false
set_option linter.unusedSimpArgs false
set_option maxRecDepth 100000
theorem zeroF (w : World) : (zeroValue 26).run Tryd.prog w = .ok (.agg (frC 0 0 0)) w := by kernel_rfl
theorem zeroO (w : World) : (zeroValue 53).run Tryd.prog w = .ok (.agg (obC 0 0 0 0)) w := by kernel_rfl
theorem zeroA (w : World) : (zeroValue 38).run Tryd.prog w = .ok (.agg (acC false)) w := by kernel_rfl
set_option maxHeartbeats 8000000 in
theorem alive_calls (w : World) : Calls Tryd.prog 6 #[] w fun e w' => e = .returned (.bool true) ∧ Below w.heap.size w w' := by
  have zF := zeroF
  have zA := zeroA
  go_enter Tryd.func6, Tryd.ntmps6
  go_upto_region 3 with fail
  obtain ⟨N, hN⟩ : ∃ N, w.heap.size = N := ⟨_, rfl⟩
  refine wp_world (MM N false false 0 0 w) (mm_new hN) fun w1 m1 => ?_
  simp only [hN]
  have m1 := m1.below (Below.refl _ _).drew
  obtain ⟨AW, hAW⟩ : ∃ A : World → Prop, A = (fun w : World => w.heap[N + 1]? = some (.cells whC 34 (0, 0))) := ⟨_, rfl⟩
  refine wp_region_S [(4, AW)] mixed.mixed ?_
  have hS : ∀ l, SL [(4, AW)] l w1.drew := fun l => SL.cons (hAW ▸ m1.hW) SL.nil
  refine wpAnyS_take (i := 0) (v := .slice (some ⟨N, 0, none⟩) 3 3) rfl (by kernel_rfl) (by kernel_rfl) (by kernel_rfl) (by rfl) (fun _ _ _ h => h) (Or.inl ⟨by rfl, fun w _ => by go_simp⟩) (hS _) ?_
  simp only [Act.put, List.setIfInBounds_toArray, List.set_cons_zero, List.set_cons_succ, List.getElem_toArray, List.getElem_cons_zero, List.getElem_cons_succ]
  refine wpAnyS_take (i := 1) (v := .agg #[.int .i64 36, .int .i64 1, .int .i64 0, .int .i64 0]) rfl (by kernel_rfl) (by kernel_rfl) (by kernel_rfl) (by rfl) (fun _ _ _ h => h) (Or.inl ⟨by rfl, fun w _ => by go_simp⟩) (hS _) ?_
  simp only [Act.put, List.setIfInBounds_toArray, List.set_cons_zero, List.set_cons_succ, List.getElem_toArray, List.getElem_cons_zero, List.getElem_cons_succ]
  refine wpAnyS_load 4 AW (List.mem_cons_self ..) (i := 3) (v := .agg #[.int .i64 3, .int .u64 2, .int .i64 5, .int .i64 9]) rfl (by kernel_rfl) (by kernel_rfl) (by kernel_rfl) (by rfl) rfl (by kernel_rfl) (by kernel_rfl) (fun _ _ _ h => h) (Or.inl ⟨by rfl, fun w hSw => by rw [hAW] at hSw; have k1 := fun k => row_cell hSw k; simp only [whC] at k1; go_simp⟩) (hS _) ?_
  simp only [Act.put, List.setIfInBounds_toArray, List.set_cons_zero, List.set_cons_succ, List.getElem_toArray, List.getElem_cons_zero, List.getElem_cons_succ]
  refine wpAnyS_gen 13 rfl fun l0 a0 hl ha => ?_
  refine mid true (n := 4) (N := N) (d2 := 29) (d4 := 31) (d10 := 4) (d11 := 5) (F := .agg #[.int .i64 36, .int .i64 0, .int .i64 0, .int .i64 0, .int .i64 (-1), .int .i64 0, .bool false, .bool false, .int .i64 0, .bool false]) (R := fun C cap => .tuple #[.slice (some ⟨C, 0, none⟩) 3 cap, .agg #[.int .i64 36, .int .i64 1, .int .i64 0, .int .i64 0, .int .i64 (-1), .int .i64 0, .bool false, .bool false, .int .i64 0, .bool false], .agg #[.bool false, .bool false, .bool false, .int .i64 0, .int .i64 0, .int .u64 0, .slice none 0 0], .int .i64 0]) (c := l3a) (w0 := w) (AW := AW) (l5 := (((((((l0).setIfInBounds 2 true).setIfInBounds 4 true).setIfInBounds 5 true).setIfInBounds 6 true).setIfInBounds 7 true).setIfInBounds 8 true).setIfInBounds 9 true) (a5 := fun C cap => ((((((a0.put (some 29) (.agg #[.int .i64 36, .int .i64 0, .int .i64 0, .int .i64 0, .int .i64 (-1), .int .i64 0, .bool false, .bool false, .int .i64 0, .bool false])).put (some 31) (.tuple #[.slice (some ⟨C, 0, none⟩) 3 cap, .agg #[.int .i64 36, .int .i64 1, .int .i64 0, .int .i64 0, .int .i64 (-1), .int .i64 0, .bool false, .bool false, .int .i64 0, .bool false], .agg #[.bool false, .bool false, .bool false, .int .i64 0, .int .i64 0, .int .u64 0, .slice none 0 0], .int .i64 0])).put (some 26) (.tuple #[.slice (some ⟨C, 0, none⟩) 3 cap, .agg #[.int .i64 36, .int .i64 1, .int .i64 0, .int .i64 0, .int .i64 (-1), .int .i64 0, .bool false, .bool false, .int .i64 0, .bool false], .agg #[.bool false, .bool false, .bool false, .int .i64 0, .int .i64 0, .int .u64 0, .slice none 0 0], .int .i64 0])).put (some 32) (.slice (some ⟨C, 0, none⟩) 3 cap)).put (some 33) (.agg #[.int .i64 36, .int .i64 1, .int .i64 0, .int .i64 0, .int .i64 (-1), .int .i64 0, .bool false, .bool false, .int .i64 0, .bool false])).put (some 34) (.agg #[.bool false, .bool false, .bool false, .int .i64 0, .int .i64 0, .int .u64 0, .slice none 0 0])).put (some 35) (.int .i64 0)) rfl (fun w h => hAW ▸ h) rfl rfl rfl rfl rfl rfl rfl rfl (by decide) (by decide) (by decide) (by decide) (by decide) ?r0 ?r5 ?H2 ?H10 ?H11 ?H4 ?HT ?fin m1
  case r0 => subst hl; intro l2 l10 l11; cases l2 <;> cases l10 <;> cases l11 <;> kernel_rfl
  case r5 => subst hl; intro l10 l11 h; cases l10 <;> cases l11 <;> first | exact Bool.noConfusion h | kernel_rfl
  case H2 =>
    intro a w K h
    go_simp
    refine (begin_calls 36 _).mono ?_
    rintro e w' ⟨rfl, hb⟩
    exact h w' hb
  case H10 =>
    intro a w K h
    go_simp
    exact h
  case H11 =>
    intro a w K h
    go_simp
    exact h
  case H4 =>
    intro l10 l11 p10 p11 w K hh k
    subst ha
    cases l10 <;> cases l11 <;> simp only [st, pt, cond_true, cond_false, Act.put, List.setIfInBounds_toArray, List.set_cons_zero, List.set_cons_succ] at k ⊢ <;> go_simp
    all_goals
      refine (step_await w N hh).mono ?_
      rintro e w' ⟨C, cap, rest, rfl, h1, h2, h3⟩
      exact k C cap rest w' (fun _ => ⟨h1, h2⟩) h3
  case HT =>
    intro l10 l11 p10 p11 C cap w' m _ hS h
    subst hl
    subst ha
    cases l10 <;> cases l11
    all_goals
      refine wpAnyS_eq rfl rfl ?_
      simp only [st, pt, cond_true, cond_false, Act.put, List.setIfInBounds_toArray, List.set_cons_zero, List.set_cons_succ]
      refine wpAnyS_take (i := 5) (v := .tuple #[.slice (some ⟨C, 0, none⟩) 3 cap, .agg #[.int .i64 36, .int .i64 1, .int .i64 0, .int .i64 0, .int .i64 (-1), .int .i64 0, .bool false, .bool false, .int .i64 0, .bool false], .agg #[.bool false, .bool false, .bool false, .int .i64 0, .int .i64 0, .int .u64 0, .slice none 0 0], .int .i64 0]) rfl (by kernel_rfl) (by kernel_rfl) (by kernel_rfl) (by rfl) (fun _ _ _ h => h) (Or.inl ⟨by rfl, fun w _ => by go_simp⟩) (hS _) ?_
      simp only [Act.put, List.setIfInBounds_toArray, List.set_cons_zero, List.set_cons_succ, List.getElem_toArray, List.getElem_cons_zero, List.getElem_cons_succ]
      refine wpAnyS_take (i := 6) (v := .slice (some ⟨C, 0, none⟩) 3 cap) rfl (by kernel_rfl) (by kernel_rfl) (by kernel_rfl) (by rfl) (fun _ _ _ h => h) (Or.inl ⟨by rfl, fun w _ => by go_simp⟩) (hS _) ?_
      simp only [Act.put, List.setIfInBounds_toArray, List.set_cons_zero, List.set_cons_succ, List.getElem_toArray, List.getElem_cons_zero, List.getElem_cons_succ]
      refine wpAnyS_take (i := 7) (v := .agg #[.int .i64 36, .int .i64 1, .int .i64 0, .int .i64 0, .int .i64 (-1), .int .i64 0, .bool false, .bool false, .int .i64 0, .bool false]) rfl (by kernel_rfl) (by kernel_rfl) (by kernel_rfl) (by rfl) (fun _ _ _ h => h) (Or.inl ⟨by rfl, fun w _ => by go_simp⟩) (hS _) ?_
      simp only [Act.put, List.setIfInBounds_toArray, List.set_cons_zero, List.set_cons_succ, List.getElem_toArray, List.getElem_cons_zero, List.getElem_cons_succ]
      refine wpAnyS_take (i := 8) (v := .agg #[.bool false, .bool false, .bool false, .int .i64 0, .int .i64 0, .int .u64 0, .slice none 0 0]) rfl (by kernel_rfl) (by kernel_rfl) (by kernel_rfl) (by rfl) (fun _ _ _ h => h) (Or.inl ⟨by rfl, fun w _ => by go_simp⟩) (hS _) ?_
      simp only [Act.put, List.setIfInBounds_toArray, List.set_cons_zero, List.set_cons_succ, List.getElem_toArray, List.getElem_cons_zero, List.getElem_cons_succ]
      refine wpAnyS_take (i := 9) (v := .int .i64 0) rfl (by kernel_rfl) (by kernel_rfl) (by kernel_rfl) (by rfl) (fun _ _ _ h => h) (Or.inl ⟨by rfl, fun w _ => by go_simp⟩) (hS _) ?_
      simp only [Act.put, List.setIfInBounds_toArray, List.set_cons_zero, List.set_cons_succ, List.getElem_toArray, List.getElem_cons_zero, List.getElem_cons_succ]
      exact wpAnyS_eq (by kernel_rfl) (by kernel_rfl) h
  intro B10 B11 C cap rest w2 t2
  have z0 := t2.zz
  clear t2 hS
  subst hl
  subst ha
  refine wpAnyS_eq rfl rfl ?_
  simp only [st, pt, cond_true, cond_false, Act.put, List.setIfInBounds_toArray, List.set_cons_zero, List.set_cons_succ]
  have hS : ∀ l, SL [(4, AW)] l w2 := fun l => SL.cons (hAW ▸ z0.hW) SL.nil
  refine wpAnyS_take (i := 12) (v := .slice (some ⟨C, 0, none⟩) 3 cap) rfl (by kernel_rfl) (by kernel_rfl) (by kernel_rfl) (by rfl) (fun _ _ _ h => h) (Or.inl ⟨by rfl, fun w _ => by go_simp⟩) (hS _) ?_
  simp only [Act.put, List.setIfInBounds_toArray, List.set_cons_zero, List.set_cons_succ, List.getElem_toArray, List.getElem_cons_zero, List.getElem_cons_succ]
  refine wpAnyS_step (i := 13) (by kernel_rfl) rfl (by rfl) fun K hK => ?_
  refine ZZ.store_f z0 (.tmp 4) (.tmp 33) [.int .i64 36, .int .i64 1, .int .i64 0, .int .i64 0, .int .i64 (-1), .int .i64 0, .bool false, .bool false, .int .i64 0, .bool false] [.int .i64 36, .int .i64 1, .int .i64 0, .int .i64 0, .int .i64 (-1), .int .i64 0, .bool false, .bool false, .int .i64 0, .bool false] (by kernel_rfl) (by simp [frC]) rfl rfl (by kernel_rfl) (by kernel_rfl) (by kernel_rfl) fun w3 z3 => ?_
  refine hK.out _ _ (SL.cons (hAW ▸ z3.hW) SL.nil) ?_
  clear hK K
  refine wpAnyS_step (i := 14) (by kernel_rfl) rfl (by rfl) fun K hK => ?_
  refine ZZ.store_a z3 (.tmp 5) (.tmp 34) [.bool false, .bool false, .bool false, .int .i64 0, .int .i64 0, .int .u64 0, .slice none 0 0] [.bool false, .bool false, .bool false, .int .i64 0, .int .i64 0, .int .u64 0, .slice none 0 0] (by kernel_rfl) (by simp [acC]) rfl rfl (by kernel_rfl) (by kernel_rfl) (by kernel_rfl) fun w4 z4 => ?_
  refine hK.out _ _ (SL.cons (hAW ▸ z4.hW) SL.nil) ?_
  clear hK K
  refine wpAnyS_step (i := 15) (by kernel_rfl) rfl (by rfl) fun K hK => ?_
  go_simp
  refine hK.out _ _ (SL.cons (hAW ▸ z4.hW) SL.nil) ?_
  clear hK K
  refine wpAnyS_done (by kernel_rfl) ?_ _

  go_upto_region 4 with fail
  have m4 := z4.mm
  clear hS hAW AW
  have m4 := m4.below (Below.refl _ _).drew
  obtain ⟨AW, hAW⟩ : ∃ A : World → Prop, A = (fun w : World => w.heap[N + 1]? = some (.cells whC 34 (0, 0))) := ⟨_, rfl⟩
  refine wp_region_S [(4, AW)] mixed.mixed ?_
  have hS : ∀ l, SL [(4, AW)] l w4.drew := fun l => SL.cons (hAW ▸ m4.hW) SL.nil
  refine wpAnyS_take (i := 0) (v := .slice (some ⟨N, 0, none⟩) 3 3) rfl (by kernel_rfl) (by kernel_rfl) (by kernel_rfl) (by rfl) (fun _ _ _ h => h) (Or.inl ⟨by rfl, fun w _ => by go_simp⟩) (hS _) ?_
  simp only [Act.put, List.setIfInBounds_toArray, List.set_cons_zero, List.set_cons_succ, List.getElem_toArray, List.getElem_cons_zero, List.getElem_cons_succ]
  refine wpAnyS_take (i := 1) (v := .agg #[.int .i64 39, .int .i64 2, .int .i64 1, .int .i64 0]) rfl (by kernel_rfl) (by kernel_rfl) (by kernel_rfl) (by rfl) (fun _ _ _ h => h) (Or.inl ⟨by rfl, fun w _ => by go_simp⟩) (hS _) ?_
  simp only [Act.put, List.setIfInBounds_toArray, List.set_cons_zero, List.set_cons_succ, List.getElem_toArray, List.getElem_cons_zero, List.getElem_cons_succ]
  refine wpAnyS_load 4 AW (List.mem_cons_self ..) (i := 3) (v := .agg #[.int .i64 3, .int .u64 2, .int .i64 5, .int .i64 9]) rfl (by kernel_rfl) (by kernel_rfl) (by kernel_rfl) (by rfl) rfl (by kernel_rfl) (by kernel_rfl) (fun _ _ _ h => h) (Or.inl ⟨by rfl, fun w hSw => by rw [hAW] at hSw; have k1 := fun k => row_cell hSw k; simp only [whC] at k1; go_simp⟩) (hS _) ?_
  simp only [Act.put, List.setIfInBounds_toArray, List.set_cons_zero, List.set_cons_succ, List.getElem_toArray, List.getElem_cons_zero, List.getElem_cons_succ]
  refine wpAnyS_gen 13 rfl fun l0 a0 hl ha => ?_
  refine mid true (n := 4) (N := N) (d2 := 39) (d4 := 41) (d10 := 8) (d11 := 9) (F := .agg #[.int .i64 39, .int .i64 0, .int .i64 0, .int .i64 0, .int .i64 (-1), .int .i64 0, .bool false, .bool false, .int .i64 0, .bool false]) (R := fun C cap => .tuple #[.slice (some ⟨C, 0, none⟩) 3 cap, .agg #[.int .i64 0, .int .i64 0, .int .i64 0, .int .i64 0, .int .i64 (0), .int .i64 0, .bool false, .bool false, .int .i64 0, .bool false], .agg #[.bool true, .bool false, .bool false, .int .i64 0, .int .i64 0, .int .u64 0, .slice none 0 0], .int .i64 0]) (c := l3b) (w0 := w4) (AW := AW) (l5 := (((((((l0).setIfInBounds 2 true).setIfInBounds 4 true).setIfInBounds 5 true).setIfInBounds 6 true).setIfInBounds 7 true).setIfInBounds 8 true).setIfInBounds 9 true) (a5 := fun C cap => ((((((a0.put (some 39) (.agg #[.int .i64 39, .int .i64 0, .int .i64 0, .int .i64 0, .int .i64 (-1), .int .i64 0, .bool false, .bool false, .int .i64 0, .bool false])).put (some 41) (.tuple #[.slice (some ⟨C, 0, none⟩) 3 cap, .agg #[.int .i64 0, .int .i64 0, .int .i64 0, .int .i64 0, .int .i64 (0), .int .i64 0, .bool false, .bool false, .int .i64 0, .bool false], .agg #[.bool true, .bool false, .bool false, .int .i64 0, .int .i64 0, .int .u64 0, .slice none 0 0], .int .i64 0])).put (some 36) (.tuple #[.slice (some ⟨C, 0, none⟩) 3 cap, .agg #[.int .i64 0, .int .i64 0, .int .i64 0, .int .i64 0, .int .i64 (0), .int .i64 0, .bool false, .bool false, .int .i64 0, .bool false], .agg #[.bool true, .bool false, .bool false, .int .i64 0, .int .i64 0, .int .u64 0, .slice none 0 0], .int .i64 0])).put (some 42) (.slice (some ⟨C, 0, none⟩) 3 cap)).put (some 43) (.agg #[.int .i64 0, .int .i64 0, .int .i64 0, .int .i64 0, .int .i64 (0), .int .i64 0, .bool false, .bool false, .int .i64 0, .bool false])).put (some 44) (.agg #[.bool true, .bool false, .bool false, .int .i64 0, .int .i64 0, .int .u64 0, .slice none 0 0])).put (some 45) (.int .i64 0)) rfl (fun w h => hAW ▸ h) rfl rfl rfl rfl rfl rfl rfl rfl (by decide) (by decide) (by decide) (by decide) (by decide) ?r0b ?r5b ?H2b ?H10b ?H11b ?H4b ?HTb ?finb m4
  case r0b => subst hl; intro l2 l10 l11; cases l2 <;> cases l10 <;> cases l11 <;> kernel_rfl
  case r5b => subst hl; intro l10 l11 h; cases l10 <;> cases l11 <;> first | exact Bool.noConfusion h | kernel_rfl
  case H2b =>
    intro a w K h
    go_simp
    refine (begin_calls 39 _).mono ?_
    rintro e w' ⟨rfl, hb⟩
    exact h w' hb
  case H10b =>
    intro a w K h
    go_simp
    exact h
  case H11b =>
    intro a w K h
    go_simp
    exact h
  case H4b =>
    intro l10 l11 p10 p11 w K hh k
    subst ha
    cases l10 <;> cases l11 <;> simp only [st, pt, cond_true, cond_false, Act.put, List.setIfInBounds_toArray, List.set_cons_zero, List.set_cons_succ] at k ⊢ <;> go_simp
    all_goals
      refine (step_take w N hh).mono ?_
      rintro e w' ⟨C, cap, rest, rfl, h1, h2, h3⟩
      exact k C cap rest w' (fun _ => ⟨h1, h2⟩) h3
  case HTb =>
    intro l10 l11 p10 p11 C cap w' m _ hS h
    subst hl
    subst ha
    cases l10 <;> cases l11
    all_goals
      refine wpAnyS_eq rfl rfl ?_
      simp only [st, pt, cond_true, cond_false, Act.put, List.setIfInBounds_toArray, List.set_cons_zero, List.set_cons_succ]
      refine wpAnyS_take (i := 5) (v := .tuple #[.slice (some ⟨C, 0, none⟩) 3 cap, .agg #[.int .i64 0, .int .i64 0, .int .i64 0, .int .i64 0, .int .i64 (0), .int .i64 0, .bool false, .bool false, .int .i64 0, .bool false], .agg #[.bool true, .bool false, .bool false, .int .i64 0, .int .i64 0, .int .u64 0, .slice none 0 0], .int .i64 0]) rfl (by kernel_rfl) (by kernel_rfl) (by kernel_rfl) (by rfl) (fun _ _ _ h => h) (Or.inl ⟨by rfl, fun w _ => by go_simp⟩) (hS _) ?_
      simp only [Act.put, List.setIfInBounds_toArray, List.set_cons_zero, List.set_cons_succ, List.getElem_toArray, List.getElem_cons_zero, List.getElem_cons_succ]
      refine wpAnyS_take (i := 6) (v := .slice (some ⟨C, 0, none⟩) 3 cap) rfl (by kernel_rfl) (by kernel_rfl) (by kernel_rfl) (by rfl) (fun _ _ _ h => h) (Or.inl ⟨by rfl, fun w _ => by go_simp⟩) (hS _) ?_
      simp only [Act.put, List.setIfInBounds_toArray, List.set_cons_zero, List.set_cons_succ, List.getElem_toArray, List.getElem_cons_zero, List.getElem_cons_succ]
      refine wpAnyS_take (i := 7) (v := .agg #[.int .i64 0, .int .i64 0, .int .i64 0, .int .i64 0, .int .i64 (0), .int .i64 0, .bool false, .bool false, .int .i64 0, .bool false]) rfl (by kernel_rfl) (by kernel_rfl) (by kernel_rfl) (by rfl) (fun _ _ _ h => h) (Or.inl ⟨by rfl, fun w _ => by go_simp⟩) (hS _) ?_
      simp only [Act.put, List.setIfInBounds_toArray, List.set_cons_zero, List.set_cons_succ, List.getElem_toArray, List.getElem_cons_zero, List.getElem_cons_succ]
      refine wpAnyS_take (i := 8) (v := .agg #[.bool true, .bool false, .bool false, .int .i64 0, .int .i64 0, .int .u64 0, .slice none 0 0]) rfl (by kernel_rfl) (by kernel_rfl) (by kernel_rfl) (by rfl) (fun _ _ _ h => h) (Or.inl ⟨by rfl, fun w _ => by go_simp⟩) (hS _) ?_
      simp only [Act.put, List.setIfInBounds_toArray, List.set_cons_zero, List.set_cons_succ, List.getElem_toArray, List.getElem_cons_zero, List.getElem_cons_succ]
      refine wpAnyS_take (i := 9) (v := .int .i64 0) rfl (by kernel_rfl) (by kernel_rfl) (by kernel_rfl) (by rfl) (fun _ _ _ h => h) (Or.inl ⟨by rfl, fun w _ => by go_simp⟩) (hS _) ?_
      simp only [Act.put, List.setIfInBounds_toArray, List.set_cons_zero, List.set_cons_succ, List.getElem_toArray, List.getElem_cons_zero, List.getElem_cons_succ]
      exact wpAnyS_eq (by kernel_rfl) (by kernel_rfl) h
  intro B10b B11b Cb capb restb w2b t2b
  have zb0 := t2b.zz
  clear t2b hS
  subst hl
  subst ha
  refine wpAnyS_eq rfl rfl ?_
  simp only [st, pt, cond_true, cond_false, Act.put, List.setIfInBounds_toArray, List.set_cons_zero, List.set_cons_succ]
  have hS : ∀ l, SL [(4, AW)] l w2b := fun l => SL.cons (hAW ▸ zb0.hW) SL.nil
  refine wpAnyS_take (i := 12) (v := .slice (some ⟨Cb, 0, none⟩) 3 capb) rfl (by kernel_rfl) (by kernel_rfl) (by kernel_rfl) (by rfl) (fun _ _ _ h => h) (Or.inl ⟨by rfl, fun w _ => by go_simp⟩) (hS _) ?_
  simp only [Act.put, List.setIfInBounds_toArray, List.set_cons_zero, List.set_cons_succ, List.getElem_toArray, List.getElem_cons_zero, List.getElem_cons_succ]
  refine wpAnyS_step (i := 13) (by kernel_rfl) rfl (by rfl) fun K hK => ?_
  refine ZZ.store_f zb0 (.tmp 8) (.tmp 43) [.int .i64 0, .int .i64 0, .int .i64 0, .int .i64 0, .int .i64 (0), .int .i64 0, .bool false, .bool false, .int .i64 0, .bool false] [.int .i64 0, .int .i64 0, .int .i64 0, .int .i64 0, .int .i64 (0), .int .i64 0, .bool false, .bool false, .int .i64 0, .bool false] (by kernel_rfl) (by simp [frC]) rfl rfl (by kernel_rfl) (by kernel_rfl) (by kernel_rfl) fun w3b z3b => ?_
  refine hK.out _ _ (SL.cons (hAW ▸ z3b.hW) SL.nil) ?_
  clear hK K
  refine wpAnyS_step (i := 14) (by kernel_rfl) rfl (by rfl) fun K hK => ?_
  refine ZZ.store_a z3b (.tmp 9) (.tmp 44) [.bool true, .bool false, .bool false, .int .i64 0, .int .i64 0, .int .u64 0, .slice none 0 0] [.bool true, .bool false, .bool false, .int .i64 0, .int .i64 0, .int .u64 0, .slice none 0 0] (by kernel_rfl) (by simp [acC]) rfl rfl (by kernel_rfl) (by kernel_rfl) (by kernel_rfl) fun w4b z4b => ?_
  refine hK.out _ _ (SL.cons (hAW ▸ z4b.hW) SL.nil) ?_
  clear hK K
  refine wpAnyS_step (i := 15) (by kernel_rfl) rfl (by rfl) fun K hK => ?_
  go_simp
  refine hK.out _ _ (SL.cons (hAW ▸ z4b.hW) SL.nil) ?_
  clear hK K
  refine wpAnyS_done (by kernel_rfl) ?_ _

  go_upto_region 5 with fail
  have m4b := z4b.mm
  clear hS hAW AW
  have m4b := m4b.below (Below.refl _ _).drew
  obtain ⟨AW, hAW⟩ : ∃ A : World → Prop, A = (fun w : World => w.heap[N + 1]? = some (.cells whC 34 (0, 0))) := ⟨_, rfl⟩
  refine wp_region_S [(4, AW)] mixed.mixed ?_
  have hS : ∀ l, SL [(4, AW)] l w4b.drew := fun l => SL.cons (hAW ▸ m4b.hW) SL.nil
  refine wpAnyS_take (i := 0) (v := .slice (some ⟨N, 0, none⟩) 3 3) rfl (by kernel_rfl) (by kernel_rfl) (by kernel_rfl) (by rfl) (fun _ _ _ h => h) (Or.inl ⟨by rfl, fun w _ => by go_simp⟩) (hS _) ?_
  simp only [Act.put, List.setIfInBounds_toArray, List.set_cons_zero, List.set_cons_succ, List.getElem_toArray, List.getElem_cons_zero, List.getElem_cons_succ]
  refine wpAnyS_take (i := 1) (v := .agg #[.int .i64 27, .int .i64 1, .int .i64 0, .int .i64 0]) rfl (by kernel_rfl) (by kernel_rfl) (by kernel_rfl) (by rfl) (fun _ _ _ h => h) (Or.inl ⟨by rfl, fun w _ => by go_simp⟩) (hS _) ?_
  simp only [Act.put, List.setIfInBounds_toArray, List.set_cons_zero, List.set_cons_succ, List.getElem_toArray, List.getElem_cons_zero, List.getElem_cons_succ]
  refine wpAnyS_load 4 AW (List.mem_cons_self ..) (i := 3) (v := .agg #[.int .i64 3, .int .u64 2, .int .i64 5, .int .i64 9]) rfl (by kernel_rfl) (by kernel_rfl) (by kernel_rfl) (by rfl) rfl (by kernel_rfl) (by kernel_rfl) (fun _ _ _ h => h) (Or.inl ⟨by rfl, fun w hSw => by rw [hAW] at hSw; have k1 := fun k => row_cell hSw k; simp only [whC] at k1; go_simp⟩) (hS _) ?_
  simp only [Act.put, List.setIfInBounds_toArray, List.set_cons_zero, List.set_cons_succ, List.getElem_toArray, List.getElem_cons_zero, List.getElem_cons_succ]
  refine wpAnyS_gen 13 rfl fun l0 a0 hl ha => ?_
  refine mid false (n := 4) (N := N) (d2 := 49) (d4 := 51) (d10 := 12) (d11 := 13) (F := .agg #[.int .i64 27, .int .i64 0, .int .i64 0, .int .i64 0, .int .i64 (-1), .int .i64 0, .bool false, .bool false, .int .i64 0, .bool false]) (R := fun C cap => .tuple #[.slice (some ⟨N, 0, none⟩) 3 3, .agg #[.int .i64 27, .int .i64 0, .int .i64 0, .int .i64 0, .int .i64 (-1), .int .i64 0, .bool false, .bool false, .int .i64 0, .bool false], .agg #[.bool false, .bool false, .bool false, .int .i64 0, .int .i64 0, .int .u64 0, .slice none 0 0], .int .i64 1]) (c := l3) (w0 := w4b) (AW := AW) (l5 := (((((((l0).setIfInBounds 2 true).setIfInBounds 4 true).setIfInBounds 5 true).setIfInBounds 6 true).setIfInBounds 7 true).setIfInBounds 8 true).setIfInBounds 9 true) (a5 := fun C cap => ((((((a0.put (some 49) (.agg #[.int .i64 27, .int .i64 0, .int .i64 0, .int .i64 0, .int .i64 (-1), .int .i64 0, .bool false, .bool false, .int .i64 0, .bool false])).put (some 51) (.tuple #[.slice (some ⟨N, 0, none⟩) 3 3, .agg #[.int .i64 27, .int .i64 0, .int .i64 0, .int .i64 0, .int .i64 (-1), .int .i64 0, .bool false, .bool false, .int .i64 0, .bool false], .agg #[.bool false, .bool false, .bool false, .int .i64 0, .int .i64 0, .int .u64 0, .slice none 0 0], .int .i64 1])).put (some 46) (.tuple #[.slice (some ⟨N, 0, none⟩) 3 3, .agg #[.int .i64 27, .int .i64 0, .int .i64 0, .int .i64 0, .int .i64 (-1), .int .i64 0, .bool false, .bool false, .int .i64 0, .bool false], .agg #[.bool false, .bool false, .bool false, .int .i64 0, .int .i64 0, .int .u64 0, .slice none 0 0], .int .i64 1])).put (some 52) (.slice (some ⟨N, 0, none⟩) 3 3)).put (some 53) (.agg #[.int .i64 27, .int .i64 0, .int .i64 0, .int .i64 0, .int .i64 (-1), .int .i64 0, .bool false, .bool false, .int .i64 0, .bool false])).put (some 54) (.agg #[.bool false, .bool false, .bool false, .int .i64 0, .int .i64 0, .int .u64 0, .slice none 0 0])).put (some 55) (.int .i64 1)) rfl (fun w h => hAW ▸ h) rfl rfl rfl rfl rfl rfl rfl rfl (by decide) (by decide) (by decide) (by decide) (by decide) ?r0c ?r5c ?H2c ?H10c ?H11c ?H4c ?HTc ?finc m4b
  case r0c => subst hl; intro l2 l10 l11; cases l2 <;> cases l10 <;> cases l11 <;> kernel_rfl
  case r5c => subst hl; intro l10 l11 h; cases l10 <;> cases l11 <;> first | exact Bool.noConfusion h | kernel_rfl
  case H2c =>
    intro a w K h
    go_simp
    refine (begin_calls 27 _).mono ?_
    rintro e w' ⟨rfl, hb⟩
    exact h w' hb
  case H10c =>
    intro a w K h
    go_simp
    exact h
  case H11c =>
    intro a w K h
    go_simp
    exact h
  case H4c =>
    intro l10 l11 p10 p11 w K hh k
    subst ha
    cases l10 <;> cases l11 <;> simp only [st, pt, cond_true, cond_false, Act.put, List.setIfInBounds_toArray, List.set_cons_zero, List.set_cons_succ] at k ⊢ <;> go_simp
    all_goals
      refine (step_no w N hh).mono ?_
      rintro e w' ⟨rfl, h3⟩
      exact k 0 0 [] w' (fun e => Bool.noConfusion e) h3
  case HTc =>
    intro l10 l11 p10 p11 C cap w' m _ hS h
    subst hl
    subst ha
    cases l10 <;> cases l11
    all_goals
      refine wpAnyS_eq rfl rfl ?_
      simp only [st, pt, cond_true, cond_false, Act.put, List.setIfInBounds_toArray, List.set_cons_zero, List.set_cons_succ]
      refine wpAnyS_take (i := 5) (v := .tuple #[.slice (some ⟨N, 0, none⟩) 3 3, .agg #[.int .i64 27, .int .i64 0, .int .i64 0, .int .i64 0, .int .i64 (-1), .int .i64 0, .bool false, .bool false, .int .i64 0, .bool false], .agg #[.bool false, .bool false, .bool false, .int .i64 0, .int .i64 0, .int .u64 0, .slice none 0 0], .int .i64 1]) rfl (by kernel_rfl) (by kernel_rfl) (by kernel_rfl) (by rfl) (fun _ _ _ h => h) (Or.inl ⟨by rfl, fun w _ => by go_simp⟩) (hS _) ?_
      simp only [Act.put, List.setIfInBounds_toArray, List.set_cons_zero, List.set_cons_succ, List.getElem_toArray, List.getElem_cons_zero, List.getElem_cons_succ]
      refine wpAnyS_take (i := 6) (v := .slice (some ⟨N, 0, none⟩) 3 3) rfl (by kernel_rfl) (by kernel_rfl) (by kernel_rfl) (by rfl) (fun _ _ _ h => h) (Or.inl ⟨by rfl, fun w _ => by go_simp⟩) (hS _) ?_
      simp only [Act.put, List.setIfInBounds_toArray, List.set_cons_zero, List.set_cons_succ, List.getElem_toArray, List.getElem_cons_zero, List.getElem_cons_succ]
      refine wpAnyS_take (i := 7) (v := .agg #[.int .i64 27, .int .i64 0, .int .i64 0, .int .i64 0, .int .i64 (-1), .int .i64 0, .bool false, .bool false, .int .i64 0, .bool false]) rfl (by kernel_rfl) (by kernel_rfl) (by kernel_rfl) (by rfl) (fun _ _ _ h => h) (Or.inl ⟨by rfl, fun w _ => by go_simp⟩) (hS _) ?_
      simp only [Act.put, List.setIfInBounds_toArray, List.set_cons_zero, List.set_cons_succ, List.getElem_toArray, List.getElem_cons_zero, List.getElem_cons_succ]
      refine wpAnyS_take (i := 8) (v := .agg #[.bool false, .bool false, .bool false, .int .i64 0, .int .i64 0, .int .u64 0, .slice none 0 0]) rfl (by kernel_rfl) (by kernel_rfl) (by kernel_rfl) (by rfl) (fun _ _ _ h => h) (Or.inl ⟨by rfl, fun w _ => by go_simp⟩) (hS _) ?_
      simp only [Act.put, List.setIfInBounds_toArray, List.set_cons_zero, List.set_cons_succ, List.getElem_toArray, List.getElem_cons_zero, List.getElem_cons_succ]
      refine wpAnyS_take (i := 9) (v := .int .i64 1) rfl (by kernel_rfl) (by kernel_rfl) (by kernel_rfl) (by rfl) (fun _ _ _ h => h) (Or.inl ⟨by rfl, fun w _ => by go_simp⟩) (hS _) ?_
      simp only [Act.put, List.setIfInBounds_toArray, List.set_cons_zero, List.set_cons_succ, List.getElem_toArray, List.getElem_cons_zero, List.getElem_cons_succ]
      exact wpAnyS_eq (by kernel_rfl) (by kernel_rfl) h
  intro B10c B11c Cc capc restc w2c t2c
  have zc0 := t2c.zz
  clear t2c hS
  subst hl
  subst ha
  refine wpAnyS_eq rfl rfl ?_
  simp only [st, pt, cond_true, cond_false, Act.put, List.setIfInBounds_toArray, List.set_cons_zero, List.set_cons_succ]
  have hS : ∀ l, SL [(4, AW)] l w2c := fun l => SL.cons (hAW ▸ zc0.hW) SL.nil
  refine wpAnyS_take (i := 12) (v := .slice (some ⟨N, 0, none⟩) 3 3) rfl (by kernel_rfl) (by kernel_rfl) (by kernel_rfl) (by rfl) (fun _ _ _ h => h) (Or.inl ⟨by rfl, fun w _ => by go_simp⟩) (hS _) ?_
  simp only [Act.put, List.setIfInBounds_toArray, List.set_cons_zero, List.set_cons_succ, List.getElem_toArray, List.getElem_cons_zero, List.getElem_cons_succ]
  refine wpAnyS_step (i := 13) (by kernel_rfl) rfl (by rfl) fun K hK => ?_
  refine ZZ.store_f zc0 (.tmp 12) (.tmp 53) [.int .i64 27, .int .i64 0, .int .i64 0, .int .i64 0, .int .i64 (-1), .int .i64 0, .bool false, .bool false, .int .i64 0, .bool false] [.int .i64 27, .int .i64 0, .int .i64 0, .int .i64 0, .int .i64 (-1), .int .i64 0, .bool false, .bool false, .int .i64 0, .bool false] (by kernel_rfl) (by simp [frC]) rfl rfl (by kernel_rfl) (by kernel_rfl) (by kernel_rfl) fun w3c z3c => ?_
  refine hK.out _ _ (SL.cons (hAW ▸ z3c.hW) SL.nil) ?_
  clear hK K
  refine wpAnyS_step (i := 14) (by kernel_rfl) rfl (by rfl) fun K hK => ?_
  refine ZZ.store_a z3c (.tmp 13) (.tmp 54) [.bool false, .bool false, .bool false, .int .i64 0, .int .i64 0, .int .u64 0, .slice none 0 0] [.bool false, .bool false, .bool false, .int .i64 0, .int .i64 0, .int .u64 0, .slice none 0 0] (by kernel_rfl) (by simp [acC]) rfl rfl (by kernel_rfl) (by kernel_rfl) (by kernel_rfl) fun w4c z4c => ?_
  refine hK.out _ _ (SL.cons (hAW ▸ z4c.hW) SL.nil) ?_
  clear hK K
  refine wpAnyS_step (i := 15) (by kernel_rfl) rfl (by rfl) fun K hK => ?_
  go_simp
  refine hK.out _ _ (SL.cons (hAW ▸ z4c.hW) SL.nil) ?_
  clear hK K
  refine wpAnyS_done (by kernel_rfl) ?_ _

  go_upto_region 6 with fail
  clear hS hAW AW
  have zO := zeroO
  go_upto_region 7 with (first | (go_at_call 13; refine (make1_calls _).mono ?_; rintro e w5 ⟨rfl, bb5⟩; simp only [obC]) | (refine wpL_store (t := 53) (x := .tmp 15) (y := .tmp 58) (n := 11) (b := w5.heap.size) (off := 0) (v := .agg (obC 6 7 0 0)) (cs := (obC 0 0 0 0).toList) rfl rfl rfl rfl rfl (by kernel_rfl) rfl (heap_alloc_new _ _) (by simp [obC]) (all_one rfl) ?_; intro w6 c6 b6) | go_in)
  go_upto_region 8 with (first | (go_at_call 13; refine (make2_calls _).mono ?_; rintro e w7 ⟨rfl, bb7⟩; simp only [obC]) | (refine wpL_store (t := 53) (x := .tmp 17) (y := .tmp 62) (n := 11) (b := w7.heap.size) (off := 0) (v := .agg (obC 0 0 0 0)) (cs := (obC 0 0 0 0).toList) rfl rfl rfl rfl rfl (by kernel_rfl) rfl (heap_alloc_new _ _) (by simp [obC]) (all_one rfl) ?_; intro w8 c8 b8) | go_in)
  have k6 : Below w4c.heap.size w4c w6 := b6 _ _ (bb5.alloc bb5.size _) bb5.size
  have k7 : Below w4c.heap.size w4c w7 := k6.trans (bb7.mono k6.size)
  have k8 : Below w4c.heap.size w4c w8 := b8 _ _ (k7.alloc k7.size _) k7.size
  have m8 : Below w6.heap.size w6 w8 := b8 _ _ (bb7.alloc bb7.size _) bb7.size
  have ko := (m8.block _ (lt_of_heap c6)).trans c6
  have kb : Below w4b.heap.size w4b w8 := z4c.b.trans (k8.mono z4c.b.size)
  have ka : Below w4.heap.size w4 w8 := z4b.b.trans (kb.mono z4b.b.size)
  have kw : Below w.heap.size w w8 := z4.b.trans (ka.mono z4.b.size)
  have e1 : w8.cell? ⟨C, 18, none⟩ = some (.int .u32 1) := row_cell ((ka.block _ (lt_of_heap (z4.hC rfl))).trans (z4.hC rfl)) 18
  have e2 : w8.cell? ⟨B10, 1, none⟩ = some (.int .i64 1) := row_cell ((ka.block _ (lt_of_heap z4.hf)).trans z4.hf) 1
  have e3 : w8.cell? ⟨B11, 0, none⟩ = some (.bool false) := row_cell ((ka.block _ (lt_of_heap z4.ha)).trans z4.ha) 0
  have e4 : w8.cell? ⟨Cb, 24, none⟩ = some (.int .i64 2) := row_cell ((kb.block _ (lt_of_heap (z4b.hC rfl))).trans (z4b.hC rfl)) 24
  have e5 : w8.cell? ⟨B11b, 0, none⟩ = some (.bool true) := row_cell ((kb.block _ (lt_of_heap z4b.ha)).trans z4b.ha) 0
  have e6 : w8.cell? ⟨w5.heap.size, 1, none⟩ = some (.int .i64 7) := row_cell ko 1
  have e7 : w8.cell? ⟨w5.heap.size, 0, none⟩ = some (.int .i64 6) := row_cell ko 0
  clear z4 z4b z4c ko m8 ka kb k8 k7 k6 c6 b6 c8 b8 bb5 bb7 m1 m4 m4b zF zA zO
  have q38 : KeepKd 38 = 5 := rfl
  have q41 : KeepKd 41 = 0 := rfl
  go_wp2_with (first | (go_at_call 16; refine (kind_calls _ _ rfl _).mono ?_; rintro e wk ⟨rfl, bk⟩; have kw := kw.trans (bk.mono kw.size)) | (go_at_call 18; refine (home_calls _ _ _ _ _ rfl _).mono ?_; rintro e wk ⟨rfl, bk⟩; have kw := kw.trans (bk.mono kw.size)) | go_in)
  go_ret
  exact ⟨rfl, kw⟩
end Go.Proofs.YtapjehgfekjdaaaDoor
