/- A step of three objects, by hand: taking. No condition. -/
import Derived.Test.YtapjehgfekjdaaaDoorLQ3
namespace Go.Proofs.YtapjehgfekjdaaaDoor
open SY
open Go.RowKit
set_option linter.unusedVariables false
set_option linter.unusedSimpArgs false
set_option maxRecDepth 100000

theorem hasC (w : World) (b : Nat) (h : w.cell? ⟨b, 22, none⟩ = some (.int .i64 6)) : Calls Tryd.prog 23 #[.slice (some ⟨b, 0, none⟩) 3 3, .int .i64 2, .int .i64 6] w fun e w' => e = .returned (.bool true) ∧ Below w.heap.size w w' := has_calls w b 3 3 2 6 6 (by decide) h
set_option maxHeartbeats 8000000 in
theorem one_take (w0 w : World) (N S C cap : Nat) (rest : List Value) (rf ra : Array Value) (p : PS N S C (inC 39 2 1 0) rf ra ([.int .i64 3, .int .u64 2, .int .i64 5, .int .i64 9, .slice (some ⟨C, 0, none⟩) 3 cap, .int .i64 39, .int .i64 0, .int .i64 0, .int .i64 0, .int .i64 (-1), .int .i64 0, .bool false, .bool false, .int .i64 0, .bool false, .bool false, .bool false, .bool false, .int .i64 0, .int .i64 0, .int .u64 0, .slice none 0 0] : List Value).toArray (l3 ++ rest).toArray w0 w) :
    Calls Tryd.prog 26 #[.pointer (some ⟨S, 0, none⟩), .int .i64 39, .int .i64 2] w fun e w' => e = .returned (.tuple #[]) ∧ PS N S C (inC 39 2 1 0) rf ra ([.int .i64 3, .int .u64 2, .int .i64 5, .int .i64 9, .slice (some ⟨C, 0, none⟩) 3 cap, .int .i64 0, .int .i64 0, .int .i64 0, .int .i64 0, .int .i64 (0), .int .i64 0, .bool false, .bool false, .int .i64 0, .bool false, .bool true, .bool false, .bool false, .int .i64 0, .int .i64 0, .int .u64 0, .slice none 0 0] : List Value).toArray (l3b ++ rest).toArray w0 w' := by
  have ys := fun k => row_cell p.hs k
  go_enter Tryd.func26, Tryd.ntmps26
  go_wp2
  have p := p.below (Below.refl _ _).drew
  obtain ⟨AT, hAT⟩ : ∃ A : World → Prop, A = (fun w : World => w.heap[S]? = some (.cells ([.int .i64 3, .int .u64 2, .int .i64 5, .int .i64 9, .slice (some ⟨C, 0, none⟩) 3 cap, .int .i64 39, .int .i64 0, .int .i64 0, .int .i64 0, .int .i64 (-1), .int .i64 0, .bool false, .bool false, .int .i64 0, .bool false, .bool false, .bool false, .bool false, .int .i64 0, .int .i64 0, .int .u64 0, .slice none 0 0] : List Value).toArray 66 (0, 0)) ∧ w.heap[C]? = some (.cells (l3 ++ rest).toArray 53 (0, 0))) := ⟨_, rfl⟩
  refine wp_region_S [(22, AT)] mixed.mixed ?_
  have hS : ∀ l, SL [(22, AT)] l w.drew := fun l => SL.cons (hAT ▸ ⟨p.hs, p.hc⟩) SL.nil
  refine wpAnyS_take (i := 0) (v := .pointer (some ⟨C, 22, none⟩)) rfl (by kernel_rfl) (by kernel_rfl) (by kernel_rfl) (by rfl) (fun _ _ _ h => h) (Or.inl ⟨by rfl, fun w _ => by go_simp⟩) (hS _) ?_
  simp only [Act.put, List.setIfInBounds_toArray, List.set_cons_zero, List.set_cons_succ, List.getElem_toArray, List.getElem_cons_zero, List.getElem_cons_succ]
  refine wpAnyS_take (i := 1) (v := .pointer (some ⟨S, 0, none⟩)) rfl (by kernel_rfl) (by kernel_rfl) (by kernel_rfl) (by rfl) (fun _ _ _ h => h) (Or.inl ⟨by rfl, fun w _ => by go_simp⟩) (hS _) ?_
  simp only [Act.put, List.setIfInBounds_toArray, List.set_cons_zero, List.set_cons_succ, List.getElem_toArray, List.getElem_cons_zero, List.getElem_cons_succ]
  refine wpAnyS_take (i := 2) (v := .pointer (some ⟨S, 0, none⟩)) rfl (by kernel_rfl) (by kernel_rfl) (by kernel_rfl) (by rfl) (fun _ _ _ h => h) (Or.inl ⟨by rfl, fun w _ => by go_simp⟩) (hS _) ?_
  simp only [Act.put, List.setIfInBounds_toArray, List.set_cons_zero, List.set_cons_succ, List.getElem_toArray, List.getElem_cons_zero, List.getElem_cons_succ]
  refine wpAnyS_take (i := 3) (v := .pointer (some ⟨C, 22, none⟩)) rfl (by kernel_rfl) (by kernel_rfl) (by kernel_rfl) (by rfl) (fun _ _ _ h => h) (Or.inl ⟨by rfl, fun w _ => by go_simp⟩) (hS _) ?_
  simp only [Act.put, List.setIfInBounds_toArray, List.set_cons_zero, List.set_cons_succ, List.getElem_toArray, List.getElem_cons_zero, List.getElem_cons_succ]
  refine wpAnyS_take (i := 4) (v := .pointer (some ⟨C, 22, none⟩)) rfl (by kernel_rfl) (by kernel_rfl) (by kernel_rfl) (by rfl) (fun _ _ _ h => h) (Or.inl ⟨by rfl, fun w _ => by go_simp⟩) (hS _) ?_
  simp only [Act.put, List.setIfInBounds_toArray, List.set_cons_zero, List.set_cons_succ, List.getElem_toArray, List.getElem_cons_zero, List.getElem_cons_succ]
  refine wpAnyS_load 22 AT (List.mem_cons_self ..) (i := 5) (v := .agg #[.int .i64 6, .int .i64 4, .int .i64 0, .int .i64 0, .int .i64 0, .int .i64 0, .int .i64 0, .int .u32 0, .int .u32 0, .slice none 0 0, .slice none 0 0]) rfl (by kernel_rfl) (by kernel_rfl) (by kernel_rfl) (by rfl) rfl (by kernel_rfl) (by kernel_rfl) (fun _ _ _ h => h) (Or.inl ⟨by rfl, fun w hSw => by rw [hAT] at hSw; have z := obj22 hSw.2; have z0 := z.1; have z1 := z.2.1; have z2 := z.2.2.1; have z3 := z.2.2.2.1; have z4 := z.2.2.2.2.1; have z5 := z.2.2.2.2.2.1; have z6 := z.2.2.2.2.2.2.1; have z7 := z.2.2.2.2.2.2.2.1; have z8 := z.2.2.2.2.2.2.2.2.1; have z9 := z.2.2.2.2.2.2.2.2.2.1; have z10 := z.2.2.2.2.2.2.2.2.2.2; clear z; go_simp⟩) (hS _) ?_
  simp only [Act.put, List.setIfInBounds_toArray, List.set_cons_zero, List.set_cons_succ, List.getElem_toArray, List.getElem_cons_zero, List.getElem_cons_succ]
  refine wpAnyS_take (i := 6) (v := .pointer (some ⟨S, 0, none⟩)) rfl (by kernel_rfl) (by kernel_rfl) (by kernel_rfl) (by rfl) (fun _ _ _ h => h) (Or.inl ⟨by rfl, fun w _ => by go_simp⟩) (hS _) ?_
  simp only [Act.put, List.setIfInBounds_toArray, List.set_cons_zero, List.set_cons_succ, List.getElem_toArray, List.getElem_cons_zero, List.getElem_cons_succ]
  refine wpAnyS_take (i := 7) (v := .pointer (some ⟨S, 0, none⟩)) rfl (by kernel_rfl) (by kernel_rfl) (by kernel_rfl) (by rfl) (fun _ _ _ h => h) (Or.inl ⟨by rfl, fun w _ => by go_simp⟩) (hS _) ?_
  simp only [Act.put, List.setIfInBounds_toArray, List.set_cons_zero, List.set_cons_succ, List.getElem_toArray, List.getElem_cons_zero, List.getElem_cons_succ]
  refine wpAnyS_take (i := 8) (v := .pointer (some ⟨S, 5, none⟩)) rfl (by kernel_rfl) (by kernel_rfl) (by kernel_rfl) (by rfl) (fun _ _ _ h => h) (Or.inl ⟨by rfl, fun w _ => by go_simp⟩) (hS _) ?_
  simp only [Act.put, List.setIfInBounds_toArray, List.set_cons_zero, List.set_cons_succ, List.getElem_toArray, List.getElem_cons_zero, List.getElem_cons_succ]
  refine wpAnyS_load 22 AT (List.mem_cons_self ..) (i := 9) (v := .agg #[.int .i64 39, .int .i64 0, .int .i64 0, .int .i64 0, .int .i64 (-1), .int .i64 0, .bool false, .bool false, .int .i64 0, .bool false]) rfl (by kernel_rfl) (by kernel_rfl) (by kernel_rfl) (by rfl) rfl (by kernel_rfl) (by kernel_rfl) (fun _ _ _ h => h) (Or.inl ⟨by rfl, fun w hSw => by rw [hAT] at hSw; have k1 := fun k => row_cell hSw.1 k; go_simp⟩) (hS _) ?_
  simp only [Act.put, List.setIfInBounds_toArray, List.set_cons_zero, List.set_cons_succ, List.getElem_toArray, List.getElem_cons_zero, List.getElem_cons_succ]
  refine wpAnyS_take (i := 10) (v := .pointer (some ⟨S, 0, none⟩)) rfl (by kernel_rfl) (by kernel_rfl) (by kernel_rfl) (by rfl) (fun _ _ _ h => h) (Or.inl ⟨by rfl, fun w _ => by go_simp⟩) (hS _) ?_
  simp only [Act.put, List.setIfInBounds_toArray, List.set_cons_zero, List.set_cons_succ, List.getElem_toArray, List.getElem_cons_zero, List.getElem_cons_succ]
  refine wpAnyS_take (i := 11) (v := .pointer (some ⟨S, 0, none⟩)) rfl (by kernel_rfl) (by kernel_rfl) (by kernel_rfl) (by rfl) (fun _ _ _ h => h) (Or.inl ⟨by rfl, fun w _ => by go_simp⟩) (hS _) ?_
  simp only [Act.put, List.setIfInBounds_toArray, List.set_cons_zero, List.set_cons_succ, List.getElem_toArray, List.getElem_cons_zero, List.getElem_cons_succ]
  refine wpAnyS_take (i := 12) (v := .pointer (some ⟨S, 0, none⟩)) rfl (by kernel_rfl) (by kernel_rfl) (by kernel_rfl) (by rfl) (fun _ _ _ h => h) (Or.inl ⟨by rfl, fun w _ => by go_simp⟩) (hS _) ?_
  simp only [Act.put, List.setIfInBounds_toArray, List.set_cons_zero, List.set_cons_succ, List.getElem_toArray, List.getElem_cons_zero, List.getElem_cons_succ]
  refine wpAnyS_take (i := 13) (v := .pointer (some ⟨S, 0, none⟩)) rfl (by kernel_rfl) (by kernel_rfl) (by kernel_rfl) (by rfl) (fun _ _ _ h => h) (Or.inl ⟨by rfl, fun w _ => by go_simp⟩) (hS _) ?_
  simp only [Act.put, List.setIfInBounds_toArray, List.set_cons_zero, List.set_cons_succ, List.getElem_toArray, List.getElem_cons_zero, List.getElem_cons_succ]
  refine wpAnyS_load 22 AT (List.mem_cons_self ..) (i := 14) (v := .int .i64 3) rfl (by kernel_rfl) (by kernel_rfl) (by kernel_rfl) (by rfl) rfl (by kernel_rfl) (by kernel_rfl) (fun _ _ _ h => h) (Or.inl ⟨by rfl, fun w hSw => by rw [hAT] at hSw; have k1 := fun k => row_cell hSw.1 k; go_simp⟩) (hS _) ?_
  simp only [Act.put, List.setIfInBounds_toArray, List.set_cons_zero, List.set_cons_succ, List.getElem_toArray, List.getElem_cons_zero, List.getElem_cons_succ]
  refine wpAnyS_take (i := 15) (v := .int .i64 2) rfl (by kernel_rfl) (by kernel_rfl) (by kernel_rfl) (by rfl) (fun _ _ _ h => h) (Or.inl ⟨by rfl, fun w _ => by go_simp⟩) (hS _) ?_
  simp only [Act.put, List.setIfInBounds_toArray, List.set_cons_zero, List.set_cons_succ, List.getElem_toArray, List.getElem_cons_zero, List.getElem_cons_succ]
  refine wpAnyS_step (i := 16) (by kernel_rfl) rfl (by rfl) fun K hK => ?_
  go_simp
  refine (take_calls _).mono ?_
  rintro e w7 ⟨rfl, bb7⟩
  have p7 := p.below bb7
  clear hS
  have hS : ∀ l, SL [(22, AT)] l w7 := fun l => SL.cons (hAT ▸ ⟨p7.hs, p7.hc⟩) SL.nil
  refine hK.out _ _ (hS _) ?_
  clear hK K
  simp only [obC, frC, acC]
  refine wpAnyS_take (i := 17) (v := .tuple #[.agg #[.int .i64 6, .int .i64 4, .int .i64 2, .int .i64 0, .int .i64 0, .int .i64 0, .int .i64 0, .int .u32 0, .int .u32 0, .slice none 0 0, .slice none 0 0], .agg #[.int .i64 0, .int .i64 0, .int .i64 0, .int .i64 0, .int .i64 (0), .int .i64 0, .bool false, .bool false, .int .i64 0, .bool false], .agg #[.bool true, .bool false, .bool false, .int .i64 0, .int .i64 0, .int .u64 0, .slice none 0 0]]) rfl (by kernel_rfl) (by kernel_rfl) (by kernel_rfl) (by rfl) (fun _ _ _ h => h) (Or.inl ⟨by rfl, fun w _ => by go_simp⟩) (hS _) ?_
  simp only [Act.put, List.setIfInBounds_toArray, List.set_cons_zero, List.set_cons_succ, List.getElem_toArray, List.getElem_cons_zero, List.getElem_cons_succ]
  refine wpAnyS_take (i := 18) (v := .agg #[.int .i64 6, .int .i64 4, .int .i64 2, .int .i64 0, .int .i64 0, .int .i64 0, .int .i64 0, .int .u32 0, .int .u32 0, .slice none 0 0, .slice none 0 0]) rfl (by kernel_rfl) (by kernel_rfl) (by kernel_rfl) (by rfl) (fun _ _ _ h => h) (Or.inl ⟨by rfl, fun w _ => by go_simp⟩) (hS _) ?_
  simp only [Act.put, List.setIfInBounds_toArray, List.set_cons_zero, List.set_cons_succ, List.getElem_toArray, List.getElem_cons_zero, List.getElem_cons_succ]
  refine wpAnyS_take (i := 19) (v := .agg #[.int .i64 0, .int .i64 0, .int .i64 0, .int .i64 0, .int .i64 (0), .int .i64 0, .bool false, .bool false, .int .i64 0, .bool false]) rfl (by kernel_rfl) (by kernel_rfl) (by kernel_rfl) (by rfl) (fun _ _ _ h => h) (Or.inl ⟨by rfl, fun w _ => by go_simp⟩) (hS _) ?_
  simp only [Act.put, List.setIfInBounds_toArray, List.set_cons_zero, List.set_cons_succ, List.getElem_toArray, List.getElem_cons_zero, List.getElem_cons_succ]
  refine wpAnyS_take (i := 20) (v := .agg #[.bool true, .bool false, .bool false, .int .i64 0, .int .i64 0, .int .u64 0, .slice none 0 0]) rfl (by kernel_rfl) (by kernel_rfl) (by kernel_rfl) (by rfl) (fun _ _ _ h => h) (Or.inl ⟨by rfl, fun w _ => by go_simp⟩) (hS _) ?_
  simp only [Act.put, List.setIfInBounds_toArray, List.set_cons_zero, List.set_cons_succ, List.getElem_toArray, List.getElem_cons_zero, List.getElem_cons_succ]
  refine wpAnyS_take (i := 21) (v := .pointer (some ⟨C, 22, none⟩)) rfl (by kernel_rfl) (by kernel_rfl) (by kernel_rfl) (by rfl) (fun _ _ _ h => h) (Or.inl ⟨by rfl, fun w _ => by go_simp⟩) (hS _) ?_
  simp only [Act.put, List.setIfInBounds_toArray, List.set_cons_zero, List.set_cons_succ, List.getElem_toArray, List.getElem_cons_zero, List.getElem_cons_succ]
  refine wpAnyS_step (i := 22) (by kernel_rfl) rfl (by rfl) fun K hK => ?_
  refine PS.store_c (off := 22) p7 (.tmp 304) (.tmp 301) [.int .i64 6, .int .i64 4, .int .i64 2, .int .i64 0, .int .i64 0, .int .i64 0, .int .i64 0, .int .u32 0, .int .u32 0, .slice none 0 0, .slice none 0 0] (l3b ++ rest) (by kernel_rfl) (by simp [l3]) rfl rfl (by kernel_rfl) (by kernel_rfl) (by kernel_rfl) fun w8 p8 => ?_
  refine hK.out _ _ (SL.past (by kernel_rfl) SL.nil) ?_
  clear hK K
  refine wpAnyS_take (i := 23) (v := .pointer (some ⟨S, 0, none⟩)) rfl (by kernel_rfl) (by kernel_rfl) (by kernel_rfl) (by rfl) (fun _ _ _ h => h) (Or.inl ⟨by rfl, fun w _ => by go_simp⟩) (SL.past (by kernel_rfl) SL.nil) ?_
  simp only [Act.put, List.setIfInBounds_toArray, List.set_cons_zero, List.set_cons_succ, List.getElem_toArray, List.getElem_cons_zero, List.getElem_cons_succ]
  refine wpAnyS_take (i := 24) (v := .pointer (some ⟨S, 5, none⟩)) rfl (by kernel_rfl) (by kernel_rfl) (by kernel_rfl) (by rfl) (fun _ _ _ h => h) (Or.inl ⟨by rfl, fun w _ => by go_simp⟩) (SL.past (by kernel_rfl) SL.nil) ?_
  simp only [Act.put, List.setIfInBounds_toArray, List.set_cons_zero, List.set_cons_succ, List.getElem_toArray, List.getElem_cons_zero, List.getElem_cons_succ]
  refine wpAnyS_step (i := 25) (by kernel_rfl) rfl (by rfl) fun K hK => ?_
  refine PS.store_s (off := 5) (n := 10) p8 26 (.tmp 306) (.tmp 302) [.int .i64 0, .int .i64 0, .int .i64 0, .int .i64 0, .int .i64 (0), .int .i64 0, .bool false, .bool false, .int .i64 0, .bool false] ([.int .i64 3, .int .u64 2, .int .i64 5, .int .i64 9, .slice (some ⟨C, 0, none⟩) 3 cap, .int .i64 0, .int .i64 0, .int .i64 0, .int .i64 0, .int .i64 (0), .int .i64 0, .bool false, .bool false, .int .i64 0, .bool false, .bool false, .bool false, .bool false, .int .i64 0, .int .i64 0, .int .u64 0, .slice none 0 0]) (by kernel_rfl) (by simp) rfl rfl (by kernel_rfl) (by kernel_rfl) (by kernel_rfl) (by kernel_rfl) fun w9 p9 => ?_
  refine hK.out _ _ (SL.past (by kernel_rfl) SL.nil) ?_
  clear hK K
  refine wpAnyS_take (i := 26) (v := .pointer (some ⟨S, 0, none⟩)) rfl (by kernel_rfl) (by kernel_rfl) (by kernel_rfl) (by rfl) (fun _ _ _ h => h) (Or.inl ⟨by rfl, fun w _ => by go_simp⟩) (SL.past (by kernel_rfl) SL.nil) ?_
  simp only [Act.put, List.setIfInBounds_toArray, List.set_cons_zero, List.set_cons_succ, List.getElem_toArray, List.getElem_cons_zero, List.getElem_cons_succ]
  refine wpAnyS_take (i := 27) (v := .pointer (some ⟨S, 15, none⟩)) rfl (by kernel_rfl) (by kernel_rfl) (by kernel_rfl) (by rfl) (fun _ _ _ h => h) (Or.inl ⟨by rfl, fun w _ => by go_simp⟩) (SL.past (by kernel_rfl) SL.nil) ?_
  simp only [Act.put, List.setIfInBounds_toArray, List.set_cons_zero, List.set_cons_succ, List.getElem_toArray, List.getElem_cons_zero, List.getElem_cons_succ]
  refine wpAnyS_step (i := 28) (by kernel_rfl) rfl (by rfl) fun K hK => ?_
  refine PS.store_s (off := 15) (n := 7) p9 38 (.tmp 308) (.tmp 303) [.bool true, .bool false, .bool false, .int .i64 0, .int .i64 0, .int .u64 0, .slice none 0 0] ([.int .i64 3, .int .u64 2, .int .i64 5, .int .i64 9, .slice (some ⟨C, 0, none⟩) 3 cap, .int .i64 0, .int .i64 0, .int .i64 0, .int .i64 0, .int .i64 (0), .int .i64 0, .bool false, .bool false, .int .i64 0, .bool false, .bool true, .bool false, .bool false, .int .i64 0, .int .i64 0, .int .u64 0, .slice none 0 0]) (by kernel_rfl) (by simp) rfl rfl (by kernel_rfl) (by kernel_rfl) (by kernel_rfl) (by kernel_rfl) fun w10 p10 => ?_
  refine hK.out _ _ (SL.past (by kernel_rfl) SL.nil) ?_
  clear hK K
  refine wpAnyS_done (by kernel_rfl) ?_ _
  go_wp2

  refine bodyPost_end (v := .tuple #[]) (by simp [results, Tryd.results26, go_sem]) rfl ?_
  exact ⟨rfl, p10⟩
set_option maxHeartbeats 8000000 in
theorem step_take (w : World) (b : Nat) (h : w.heap[b]? = some (.cells l3.toArray 53 (0, 0))) :
    Calls Tryd.prog 9 #[.slice (some ⟨b, 0, none⟩) 3 3, .agg (inC 39 2 1 0), .agg (frC 39 0 (-1)), .agg whC] w (StepPost w l3b (frC 0 0 0) (acC true)) := by
  have hlt := lt_of_heap h
  go_enter Tryd.func9, Tryd.ntmps9
  go_upto_region 1 with fail
  obtain ⟨N, hN⟩ : ∃ N, w.heap.size = N := ⟨_, rfl⟩
  rw [hN] at hlt
  refine wp_world (R0 N _ _ _ _ _ w) (r0_new hN) fun w1 r1 => ?_
  simp only [hN]
  have yx := fun k => row_cell r1.hx k
  simp only [inC] at yx
  go_upto_region 2 with (go_at_call 16; refine (kind_calls 39 6 rfl _).mono ?_; rintro e w2 ⟨rfl, bb1⟩)
  have r2 := r1.below bb1
  have hc2 : w2.heap[b]? = some (.cells l3.toArray 53 (0, 0)) := (r2.b.block b hlt).trans h
  have yx := fun k => row_cell r2.hx k
  have c22 : w2.cell? ⟨b, 22, none⟩ = some (.int .i64 6) := row_cell hc2 22
  simp only [inC] at yx
  go_upto_region 4 with (go_at_call 23; refine (hasC _ b c22).mono ?_; rintro e w4 ⟨rfl, bb3⟩; have r4 := r2.below bb3; have yx4 := fun k => row_cell r4.hx k; simp only [inC] at yx4)
  have hc4 : w4.heap[b]? = some (.cells l3.toArray 53 (0, 0)) := (r4.b.block b hlt).trans h
  clear r1 r2 hc2 yx yx4 c22
  obtain ⟨cap, rest, hcap, hcl⟩ := clone_some w4.drew l3 ⟨b, 0, none⟩ 3 3 (by decide) (by decide) rfl (lt_of_heap hc4) (row_rd (w := w4.drew) hc4)
  refine wp_region_S [(5, (fun w : World => w.heap[N + 1 + 1]? = some (.cells whC 34 (0, 0)) ∧ w.heap[N + 1]? = some (.cells (frC 39 0 (-1)) 26 (0, 0))))] mixed.mixed ?_
  have hS : ∀ l, SL [(5, (fun w : World => w.heap[N + 1 + 1]? = some (.cells whC 34 (0, 0)) ∧ w.heap[N + 1]? = some (.cells (frC 39 0 (-1)) 26 (0, 0))))] l w4.drew := fun l => SL.cons ⟨r4.h2, r4.h1⟩ SL.nil
  refine wpAnyS_load 5 (fun w : World => w.heap[N + 1 + 1]? = some (.cells whC 34 (0, 0)) ∧ w.heap[N + 1]? = some (.cells (frC 39 0 (-1)) 26 (0, 0))) (List.mem_cons_self ..) (i := 0) (v := .agg #[.int .i64 3, .int .u64 2, .int .i64 5, .int .i64 9]) rfl (by kernel_rfl) (by kernel_rfl) (by kernel_rfl) (by rfl) rfl (by kernel_rfl) (by kernel_rfl) (fun _ _ _ h => h) (Or.inl ⟨by rfl, fun w hSw => by dsimp only at hSw; have k1 := fun k => row_cell hSw.1 k; have k2 := fun k => row_cell hSw.2 k; simp only [whC, frC] at k1 k2; go_simp⟩) (hS _) ?_
  simp only [Act.put, List.setIfInBounds_toArray, List.set_cons_zero, List.set_cons_succ, List.getElem_toArray, List.getElem_cons_zero, List.getElem_cons_succ]
  refine wpAnyS_take (i := 1) (v := .slice (some ⟨b, 0, none⟩) 3 3) rfl (by kernel_rfl) (by kernel_rfl) (by kernel_rfl) (by rfl) (fun _ _ _ h => h) (Or.inl ⟨by rfl, fun w _ => by go_simp⟩) (hS _) ?_
  simp only [Act.put, List.setIfInBounds_toArray, List.set_cons_zero, List.set_cons_succ, List.getElem_toArray, List.getElem_cons_zero, List.getElem_cons_succ]
  refine wpAnyS_load 5 (fun w : World => w.heap[N + 1 + 1]? = some (.cells whC 34 (0, 0)) ∧ w.heap[N + 1]? = some (.cells (frC 39 0 (-1)) 26 (0, 0))) (List.mem_cons_self ..) (i := 3) (v := .agg #[.int .i64 39, .int .i64 0, .int .i64 0, .int .i64 0, .int .i64 (-1), .int .i64 0, .bool false, .bool false, .int .i64 0, .bool false]) rfl (by kernel_rfl) (by kernel_rfl) (by kernel_rfl) (by rfl) rfl (by kernel_rfl) (by kernel_rfl) (fun _ _ _ h => h) (Or.inl ⟨by rfl, fun w hSw => by dsimp only at hSw; have k1 := fun k => row_cell hSw.1 k; have k2 := fun k => row_cell hSw.2 k; simp only [whC, frC] at k1 k2; go_simp⟩) (hS _) ?_
  simp only [Act.put, List.setIfInBounds_toArray, List.set_cons_zero, List.set_cons_succ, List.getElem_toArray, List.getElem_cons_zero, List.getElem_cons_succ]
  refine wpAnyS_take (i := 4) (v := .agg #[.bool false, .bool false, .bool false, .int .i64 0, .int .i64 0, .int .u64 0, .slice none 0 0]) rfl (by kernel_rfl) (by kernel_rfl) (by kernel_rfl) (by rfl) (fun _ _ _ h => h) (Or.inl ⟨by rfl, fun w _ => by go_simp⟩) (hS _) ?_
  simp only [Act.put, List.setIfInBounds_toArray, List.set_cons_zero, List.set_cons_succ, List.getElem_toArray, List.getElem_cons_zero, List.getElem_cons_succ]
  refine wpAnyS_step (i := 2) (by kernel_rfl) rfl (by rfl) fun K hK => ?_
  go_simp
  refine hcl.mono ?_
  rintro e w5 ⟨rfl, d1, -, d3⟩
  have r5 := R0.below (w := w4.drew) ⟨r4.b.drew, r4.hx, r4.h1, r4.h2, r4.hf, r4.ha⟩ d3
  refine hK.out _ _ (SL.cons ⟨r5.h2, r5.h1⟩ SL.nil) ?_
  clear hS
  have hS : ∀ l, SL [(5, (fun w : World => w.heap[N + 1 + 1]? = some (.cells whC 34 (0, 0)) ∧ w.heap[N + 1]? = some (.cells (frC 39 0 (-1)) 26 (0, 0))))] l w5 := fun l => SL.cons ⟨r5.h2, r5.h1⟩ SL.nil
  obtain ⟨C, hC⟩ : ∃ C, w4.drew.heap.size + 1 = C := ⟨_, rfl⟩
  rw [hC] at d1
  simp only [hC]
  refine wpAnyS_step (i := 5) (by kernel_rfl) rfl (by rfl) fun K hK => ?_
  go_simp
  refine hK.out _ _ (SL.past (by kernel_rfl) SL.nil) ?_
  clear hS
  refine wpAnyS_step (i := 6) (by kernel_rfl) rfl (by rfl) fun K hK => ?_
  go_simp
  refine hK.out _ _ (SL.past (by kernel_rfl) SL.nil) ?_
  obtain ⟨S, hS0⟩ : ∃ S, w5.heap.size = S := ⟨_, rfl⟩
  have p6 := ps_new (s := ([.int .i64 3, .int .u64 2, .int .i64 5, .int .i64 9, .slice (some ⟨C, 0, none⟩) 3 cap, .int .i64 39, .int .i64 0, .int .i64 0, .int .i64 0, .int .i64 (-1), .int .i64 0, .bool false, .bool false, .int .i64 0, .bool false, .bool false, .bool false, .bool false, .int .i64 0, .int .i64 0, .int .u64 0, .slice none 0 0] : List Value).toArray) (c := (l3 ++ rest.toList).toArray) r5 (by rw [d1]; simp) (by rw [← hC]; have := r4.lt; show _ < w4.heap.size + 1; omega)
  rw [hS0] at p6

  simp only [hS0]
  refine wpAnyS_world _ p6 fun w6 p6 => ?_
  refine wpAnyS_take (i := 7) (v := .pointer (some ⟨S, 0, none⟩)) rfl (by kernel_rfl) (by kernel_rfl) (by kernel_rfl) (by rfl) (fun _ _ _ h => h) (Or.inl ⟨by rfl, fun w _ => by go_simp⟩) (SL.past (by kernel_rfl) SL.nil) ?_
  simp only [Act.put, List.setIfInBounds_toArray, List.set_cons_zero, List.set_cons_succ, List.getElem_toArray, List.getElem_cons_zero, List.getElem_cons_succ]
  refine wpAnyS_done (by kernel_rfl) ?_ _
  have yx := fun k => row_cell p6.hx k
  simp only [inC] at yx

  go_upto_region 8 with (go_at_call 26; refine (one_take _ _ _ _ _ _ _ _ _ p6).mono ?_; rintro e w11 ⟨rfl, p11⟩)
  have p11 := p11.below (Below.refl _ _).drew
  obtain ⟨AS, hAS⟩ : ∃ A : World → Prop, A = (fun w : World => w.heap[S]? = some (.cells ([.int .i64 3, .int .u64 2, .int .i64 5, .int .i64 9, .slice (some ⟨C, 0, none⟩) 3 cap, .int .i64 0, .int .i64 0, .int .i64 0, .int .i64 0, .int .i64 (0), .int .i64 0, .bool false, .bool false, .int .i64 0, .bool false, .bool true, .bool false, .bool false, .int .i64 0, .int .i64 0, .int .u64 0, .slice none 0 0] : List Value).toArray 66 (0, 0))) := ⟨_, rfl⟩
  refine wp_region_S [(12, AS), (13, AS), (14, AS)] mixed.mixed ?_
  have hS : ∀ l, SL [(12, AS), (13, AS), (14, AS)] l w11.drew := fun l => SL.cons (hAS ▸ p11.hs) (SL.cons (hAS ▸ p11.hs) (SL.cons (hAS ▸ p11.hs) SL.nil))
  refine wpAnyS_take (i := 0) (v := .pointer (some ⟨S, 0, none⟩)) rfl (by kernel_rfl) (by kernel_rfl) (by kernel_rfl) (by rfl) (fun _ _ _ h => h) (Or.inl ⟨by rfl, fun w _ => by go_simp⟩) (hS _) ?_
  simp only [Act.put, List.setIfInBounds_toArray, List.set_cons_zero, List.set_cons_succ, List.getElem_toArray, List.getElem_cons_zero, List.getElem_cons_succ]
  refine wpAnyS_take (i := 1) (v := .pointer (some ⟨S, 0, none⟩)) rfl (by kernel_rfl) (by kernel_rfl) (by kernel_rfl) (by rfl) (fun _ _ _ h => h) (Or.inl ⟨by rfl, fun w _ => by go_simp⟩) (hS _) ?_
  simp only [Act.put, List.setIfInBounds_toArray, List.set_cons_zero, List.set_cons_succ, List.getElem_toArray, List.getElem_cons_zero, List.getElem_cons_succ]
  refine wpAnyS_take (i := 2) (v := .pointer (some ⟨S, 4, none⟩)) rfl (by kernel_rfl) (by kernel_rfl) (by kernel_rfl) (by rfl) (fun _ _ _ h => h) (Or.inl ⟨by rfl, fun w _ => by go_simp⟩) (hS _) ?_
  simp only [Act.put, List.setIfInBounds_toArray, List.set_cons_zero, List.set_cons_succ, List.getElem_toArray, List.getElem_cons_zero, List.getElem_cons_succ]
  refine wpAnyS_load 12 AS (List.mem_cons_self ..) (i := 3) (v := .slice (some ⟨C, 0, none⟩) 3 cap) rfl (by kernel_rfl) (by kernel_rfl) (by kernel_rfl) (by rfl) rfl (by kernel_rfl) (by kernel_rfl) (fun _ _ _ h => h) (Or.inl ⟨by rfl, fun w hSw => by rw [hAS] at hSw; have k1 := fun k => row_cell hSw k; go_simp⟩) (hS _) ?_
  simp only [Act.put, List.setIfInBounds_toArray, List.set_cons_zero, List.set_cons_succ, List.getElem_toArray, List.getElem_cons_zero, List.getElem_cons_succ]
  refine wpAnyS_take (i := 4) (v := .pointer (some ⟨S, 0, none⟩)) rfl (by kernel_rfl) (by kernel_rfl) (by kernel_rfl) (by rfl) (fun _ _ _ h => h) (Or.inl ⟨by rfl, fun w _ => by go_simp⟩) (hS _) ?_
  simp only [Act.put, List.setIfInBounds_toArray, List.set_cons_zero, List.set_cons_succ, List.getElem_toArray, List.getElem_cons_zero, List.getElem_cons_succ]
  refine wpAnyS_take (i := 5) (v := .pointer (some ⟨S, 0, none⟩)) rfl (by kernel_rfl) (by kernel_rfl) (by kernel_rfl) (by rfl) (fun _ _ _ h => h) (Or.inl ⟨by rfl, fun w _ => by go_simp⟩) (hS _) ?_
  simp only [Act.put, List.setIfInBounds_toArray, List.set_cons_zero, List.set_cons_succ, List.getElem_toArray, List.getElem_cons_zero, List.getElem_cons_succ]
  refine wpAnyS_take (i := 6) (v := .pointer (some ⟨S, 5, none⟩)) rfl (by kernel_rfl) (by kernel_rfl) (by kernel_rfl) (by rfl) (fun _ _ _ h => h) (Or.inl ⟨by rfl, fun w _ => by go_simp⟩) (hS _) ?_
  simp only [Act.put, List.setIfInBounds_toArray, List.set_cons_zero, List.set_cons_succ, List.getElem_toArray, List.getElem_cons_zero, List.getElem_cons_succ]
  refine wpAnyS_load 13 AS (List.mem_cons_of_mem _ (List.mem_cons_self ..)) (i := 7) (v := .agg #[.int .i64 0, .int .i64 0, .int .i64 0, .int .i64 0, .int .i64 (0), .int .i64 0, .bool false, .bool false, .int .i64 0, .bool false]) rfl (by kernel_rfl) (by kernel_rfl) (by kernel_rfl) (by rfl) rfl (by kernel_rfl) (by kernel_rfl) (fun _ _ _ h => h) (Or.inl ⟨by rfl, fun w hSw => by rw [hAS] at hSw; have k1 := fun k => row_cell hSw k; go_simp⟩) (hS _) ?_
  simp only [Act.put, List.setIfInBounds_toArray, List.set_cons_zero, List.set_cons_succ, List.getElem_toArray, List.getElem_cons_zero, List.getElem_cons_succ]
  refine wpAnyS_take (i := 8) (v := .pointer (some ⟨S, 0, none⟩)) rfl (by kernel_rfl) (by kernel_rfl) (by kernel_rfl) (by rfl) (fun _ _ _ h => h) (Or.inl ⟨by rfl, fun w _ => by go_simp⟩) (hS _) ?_
  simp only [Act.put, List.setIfInBounds_toArray, List.set_cons_zero, List.set_cons_succ, List.getElem_toArray, List.getElem_cons_zero, List.getElem_cons_succ]
  refine wpAnyS_take (i := 9) (v := .pointer (some ⟨S, 0, none⟩)) rfl (by kernel_rfl) (by kernel_rfl) (by kernel_rfl) (by rfl) (fun _ _ _ h => h) (Or.inl ⟨by rfl, fun w _ => by go_simp⟩) (hS _) ?_
  simp only [Act.put, List.setIfInBounds_toArray, List.set_cons_zero, List.set_cons_succ, List.getElem_toArray, List.getElem_cons_zero, List.getElem_cons_succ]
  refine wpAnyS_take (i := 10) (v := .pointer (some ⟨S, 15, none⟩)) rfl (by kernel_rfl) (by kernel_rfl) (by kernel_rfl) (by rfl) (fun _ _ _ h => h) (Or.inl ⟨by rfl, fun w _ => by go_simp⟩) (hS _) ?_
  simp only [Act.put, List.setIfInBounds_toArray, List.set_cons_zero, List.set_cons_succ, List.getElem_toArray, List.getElem_cons_zero, List.getElem_cons_succ]
  refine wpAnyS_load 14 AS (List.mem_cons_of_mem _ (List.mem_cons_of_mem _ (List.mem_cons_self ..))) (i := 11) (v := .agg #[.bool true, .bool false, .bool false, .int .i64 0, .int .i64 0, .int .u64 0, .slice none 0 0]) rfl (by kernel_rfl) (by kernel_rfl) (by kernel_rfl) (by rfl) rfl (by kernel_rfl) (by kernel_rfl) (fun _ _ _ h => h) (Or.inl ⟨by rfl, fun w hSw => by rw [hAS] at hSw; have k1 := fun k => row_cell hSw k; go_simp⟩) (hS _) ?_
  simp only [Act.put, List.setIfInBounds_toArray, List.set_cons_zero, List.set_cons_succ, List.getElem_toArray, List.getElem_cons_zero, List.getElem_cons_succ]
  refine wpAnyS_step (i := 12) (by kernel_rfl) rfl (by rfl) fun K hK => ?_
  go_simp
  refine hK.out _ _ (hS _) ?_
  clear hK K
  refine wpAnyS_step (i := 13) (by kernel_rfl) rfl (by rfl) fun K hK => ?_
  refine PS.store_f p11 (.tmp 9) (.tmp 126) [.int .i64 0, .int .i64 0, .int .i64 0, .int .i64 0, .int .i64 (0), .int .i64 0, .bool false, .bool false, .int .i64 0, .bool false] [.int .i64 0, .int .i64 0, .int .i64 0, .int .i64 0, .int .i64 (0), .int .i64 0, .bool false, .bool false, .int .i64 0, .bool false] (by kernel_rfl) (by simp) rfl rfl (by kernel_rfl) (by kernel_rfl) (by kernel_rfl) fun w12 p12 => ?_
  refine hK.out _ _ (SL.cons (hAS ▸ p12.hs) (SL.cons (hAS ▸ p12.hs) (SL.cons (hAS ▸ p12.hs) SL.nil))) ?_
  clear hK K
  refine wpAnyS_step (i := 14) (by kernel_rfl) rfl (by rfl) fun K hK => ?_
  refine PS.store_a p12 (.tmp 10) (.tmp 130) [.bool true, .bool false, .bool false, .int .i64 0, .int .i64 0, .int .u64 0, .slice none 0 0] [.bool true, .bool false, .bool false, .int .i64 0, .int .i64 0, .int .u64 0, .slice none 0 0] (by kernel_rfl) (by simp) rfl rfl (by kernel_rfl) (by kernel_rfl) (by kernel_rfl) fun w13 p13 => ?_
  refine hK.out _ _ (SL.cons (hAS ▸ p13.hs) (SL.cons (hAS ▸ p13.hs) (SL.cons (hAS ▸ p13.hs) SL.nil))) ?_
  clear hK K
  refine wpAnyS_step (i := 15) (by kernel_rfl) rfl (by rfl) fun K hK => ?_
  go_simp
  refine hK.out _ _ (SL.cons (hAS ▸ p13.hs) (SL.cons (hAS ▸ p13.hs) (SL.cons (hAS ▸ p13.hs) SL.nil))) ?_
  clear hK K
  refine wpAnyS_done (by kernel_rfl) ?_ _
  have yf := fun k => row_cell p13.hf k
  have ya := fun k => row_cell p13.ha k
  go_wp2

  refine bodyPost_ret (v := .tuple #[.slice (some ⟨C, 0, none⟩) 3 cap, .agg (frC 0 0 0), .agg (acC true), .int .i64 0]) (by simp [results, Tryd.results9, go_sem, yf, ya, frC, acC]) rfl ?_
  refine ⟨C, cap, rest.toList, rfl, ?_, p13.hc, ?_⟩
  · rw [hN]; have := p13.l1; omega
  · rw [hN]; exact p13.b
end Go.Proofs.YtapjehgfekjdaaaDoor
