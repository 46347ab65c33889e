/- A step of three objects, by hand: refused. No condition. -/
import Derived.Test.YtapjehgfekjdaaaDoorLQ3
namespace Go.Proofs.YtapjehgfekjdaaaDoor
open SY
open Go.RowKit
set_option linter.unusedVariables false
set_option linter.unusedSimpArgs false
set_option maxRecDepth 100000

theorem hasD (w : World) (b : Nat) (h : w.cell? ⟨b, 11, none⟩ = some (.int .i64 5)) : Calls Tryd.prog 23 #[.slice (some ⟨b, 0, none⟩) 3 3, .int .i64 1, .int .i64 1] w fun e w' => e = .returned (.bool false) ∧ Below w.heap.size w w' := has_calls w b 3 3 1 1 5 (by decide) h
section
variable {N : Nat} {x f wh rf ra : Array Value} {w0 w : World}
theorem R0.set_f (h : R0 N x f wh rf ra w0 w) (s' : Array Value) : R0 N x f wh s' ra w0 (w.setRow (N + 1 + 1 + 1) s') := by
  have k : ∀ {q : Nat} {o : Obj}, q ≠ N + 1 + 1 + 1 → w.heap[q]? = some o → (w.setRow (N + 1 + 1 + 1) s').heap[q]? = some o := fun hq e => (setRow_other _ _ _ _ hq).trans e
  exact ⟨setRow_below h.b (by omega), k (by omega) h.hx, k (by omega) h.h1, k (by omega) h.h2, setRow_heap _ _ _ _ _ _ h.hf, k (by omega) h.ha⟩
theorem R0.set_a (h : R0 N x f wh rf ra w0 w) (s' : Array Value) : R0 N x f wh rf s' w0 (w.setRow (N + 1 + 1 + 1 + 1) s') := by
  have k : ∀ {q : Nat} {o : Obj}, q ≠ N + 1 + 1 + 1 + 1 → w.heap[q]? = some o → (w.setRow (N + 1 + 1 + 1 + 1) s').heap[q]? = some o := fun hq e => (setRow_other _ _ _ _ hq).trans e
  exact ⟨setRow_below h.b (by omega), k (by omega) h.hx, k (by omega) h.h1, k (by omega) h.h2, k (by omega) h.hf, setRow_heap _ _ _ _ _ _ h.ha⟩
end
theorem R0.store_f {N : Nat} {x f wh ra : Array Value} {fs : List Value} {w0 w : World} {o : Oper} {a : Act} {K : Act → World → Prop} {Q : Exit → Act → World → Prop} (p : R0 N x f wh fs.toArray ra w0 w) (u v : Operand) (vs fs' : List Value) (he : splice fs 0 vs = fs') (hle : 0 + 10 ≤ fs.length) (hn : vs.length = 10) (h1 : vs.all Value.oneCell' = true)
    (hop : o.op = .store 26 u v) (hu : a.eval u = .pointer (some ⟨N + 1 + 1 + 1, 0, none⟩)) (hv : a.eval v = .agg vs.toArray) (h : ∀ w', R0 N x f wh fs'.toArray ra w0 w' → K (a.put o.dst undef) w') : o.wp Tryd.prog a w K Q := by
  subst he
  exact wp_storeS hop hu hv (n := 10) (by kernel_rfl) hn p.hf hle (all_one h1) (h _ (p.set_f _))
theorem R0.store_a {N : Nat} {x f wh rf : Array Value} {fs : List Value} {w0 w : World} {o : Oper} {a : Act} {K : Act → World → Prop} {Q : Exit → Act → World → Prop} (p : R0 N x f wh rf fs.toArray w0 w) (u v : Operand) (vs fs' : List Value) (he : splice fs 0 vs = fs') (hle : 0 + 7 ≤ fs.length) (hn : vs.length = 7) (h1 : vs.all Value.oneCell' = true)
    (hop : o.op = .store 38 u v) (hu : a.eval u = .pointer (some ⟨N + 1 + 1 + 1 + 1, 0, none⟩)) (hv : a.eval v = .agg vs.toArray) (h : ∀ w', R0 N x f wh rf fs'.toArray w0 w' → K (a.put o.dst undef) w') : o.wp Tryd.prog a w K Q := by
  subst he
  exact wp_storeS hop hu hv (n := 7) (by kernel_rfl) hn p.ha hle (all_one h1) (h _ (p.set_a _))
set_option maxHeartbeats 8000000 in
theorem step_no (w : World) (b : Nat) (h : w.heap[b]? = some (.cells l3.toArray 53 (0, 0))) :
    Calls Tryd.prog 9 #[.slice (some ⟨b, 0, none⟩) 3 3, .agg (inC 27 1 0 0), .agg (frC 27 0 (-1)), .agg whC] w fun e w' => e = .returned (.tuple #[.slice (some ⟨b, 0, none⟩) 3 3, .agg (frC 27 0 (-1)), .agg (acC false), .int .i64 1]) ∧ Below w.heap.size w w' := by
  have hlt := lt_of_heap h
  go_enter Tryd.func9, Tryd.ntmps9
  go_upto_region 1 with fail
  obtain ⟨N, hN⟩ : ∃ N, w.heap.size = N := ⟨_, rfl⟩
  rw [hN] at hlt
  refine wp_world (R0 N _ _ _ _ _ w) (r0_new hN) fun w1 r1 => ?_
  simp only [hN]
  have yx := fun k => row_cell r1.hx k
  simp only [inC] at yx
  go_upto_region 2 with (go_at_call 16; refine (kind_calls 27 1 rfl _).mono ?_; rintro e w2 ⟨rfl, bb1⟩)
  have r2 := r1.below bb1
  have hc2 : w2.heap[b]? = some (.cells l3.toArray 53 (0, 0)) := (r2.b.block b hlt).trans h
  have yx := fun k => row_cell r2.hx k
  have c11 : w2.cell? ⟨b, 11, none⟩ = some (.int .i64 5) := row_cell hc2 11
  simp only [inC] at yx
  go_upto_region 3 with (go_at_call 23; refine (hasD _ b c11).mono ?_; rintro e w4 ⟨rfl, bb3⟩; have r4 := r2.below bb3; have yx4 := fun k => row_cell r4.hx k; simp only [inC] at yx4)
  have hc4 : w4.heap[b]? = some (.cells l3.toArray 53 (0, 0)) := (r4.b.block b hlt).trans h
  clear r1 r2 hc2 yx yx4 c11
  have r4 : R0 N (inC 27 1 0 0) (frC 27 0 (-1)) whC ([.int .i64 0, .int .i64 0, .int .i64 0, .int .i64 0, .int .i64 (0), .int .i64 0, .bool false, .bool false, .int .i64 0, .bool false] : List Value).toArray ([.bool false, .bool false, .bool false, .int .i64 0, .int .i64 0, .int .u64 0, .slice none 0 0] : List Value).toArray w w4.drew := r4.below (Below.refl _ _).drew
  obtain ⟨AF, hAF⟩ : ∃ A : World → Prop, A = (fun w : World => w.heap[N + 1]? = some (.cells (frC 27 0 (-1)) 26 (0, 0))) := ⟨_, rfl⟩
  refine wp_region_S [(4, AF)] mixed.mixed ?_
  have hS : ∀ l, SL [(4, AF)] l w4.drew := fun l => SL.cons (hAF ▸ r4.h1) SL.nil
  refine wpAnyS_take (i := 0) (v := .slice (some ⟨b, 0, none⟩) 3 3) rfl (by kernel_rfl) (by kernel_rfl) (by kernel_rfl) (by rfl) (fun _ _ _ h => h) (Or.inl ⟨by rfl, fun w _ => by go_simp⟩) (hS _) ?_
  simp only [Act.put, List.setIfInBounds_toArray, List.set_cons_zero, List.set_cons_succ, List.getElem_toArray, List.getElem_cons_zero, List.getElem_cons_succ]
  refine wpAnyS_load 4 AF (List.mem_cons_self ..) (i := 1) (v := .agg #[.int .i64 27, .int .i64 0, .int .i64 0, .int .i64 0, .int .i64 (-1), .int .i64 0, .bool false, .bool false, .int .i64 0, .bool false]) rfl (by kernel_rfl) (by kernel_rfl) (by kernel_rfl) (by rfl) rfl (by kernel_rfl) (by kernel_rfl) (fun _ _ _ h => h) (Or.inl ⟨by rfl, fun w hSw => by rw [hAF] at hSw; have k1 := fun k => row_cell hSw k; simp only [frC] at k1; go_simp⟩) (hS _) ?_
  simp only [Act.put, List.setIfInBounds_toArray, List.set_cons_zero, List.set_cons_succ, List.getElem_toArray, List.getElem_cons_zero, List.getElem_cons_succ]
  refine wpAnyS_take (i := 2) (v := .agg #[.bool false, .bool false, .bool false, .int .i64 0, .int .i64 0, .int .u64 0, .slice none 0 0]) rfl (by kernel_rfl) (by kernel_rfl) (by kernel_rfl) (by rfl) (fun _ _ _ h => h) (Or.inl ⟨by rfl, fun w _ => by go_simp⟩) (hS _) ?_
  simp only [Act.put, List.setIfInBounds_toArray, List.set_cons_zero, List.set_cons_succ, List.getElem_toArray, List.getElem_cons_zero, List.getElem_cons_succ]
  refine wpAnyS_take (i := 3) (v := .slice (some ⟨b, 0, none⟩) 3 3) rfl (by kernel_rfl) (by kernel_rfl) (by kernel_rfl) (by rfl) (fun _ _ _ h => h) (Or.inl ⟨by rfl, fun w _ => by go_simp⟩) (hS _) ?_
  simp only [Act.put, List.setIfInBounds_toArray, List.set_cons_zero, List.set_cons_succ, List.getElem_toArray, List.getElem_cons_zero, List.getElem_cons_succ]
  refine wpAnyS_step (i := 4) (by kernel_rfl) rfl (by rfl) fun K hK => ?_
  refine R0.store_f r4 (.tmp 9) (.tmp 40) [.int .i64 27, .int .i64 0, .int .i64 0, .int .i64 0, .int .i64 (-1), .int .i64 0, .bool false, .bool false, .int .i64 0, .bool false] [.int .i64 27, .int .i64 0, .int .i64 0, .int .i64 0, .int .i64 (-1), .int .i64 0, .bool false, .bool false, .int .i64 0, .bool false] (by kernel_rfl) (by simp) rfl rfl (by kernel_rfl) (by kernel_rfl) (by kernel_rfl) fun w5 r5 => ?_
  refine hK.out _ _ (SL.past (by kernel_rfl) SL.nil) ?_
  clear hK K
  refine wpAnyS_step (i := 5) (by kernel_rfl) rfl (by rfl) fun K hK => ?_
  refine R0.store_a r5 (.tmp 10) (.tmp 41) [.bool false, .bool false, .bool false, .int .i64 0, .int .i64 0, .int .u64 0, .slice none 0 0] [.bool false, .bool false, .bool false, .int .i64 0, .int .i64 0, .int .u64 0, .slice none 0 0] (by kernel_rfl) (by simp) rfl rfl (by kernel_rfl) (by kernel_rfl) (by kernel_rfl) fun w6 r6 => ?_
  refine hK.out _ _ (SL.past (by kernel_rfl) SL.nil) ?_
  clear hK K
  refine wpAnyS_step (i := 6) (by kernel_rfl) rfl (by rfl) fun K hK => ?_
  go_simp
  refine hK.out _ _ (SL.past (by kernel_rfl) SL.nil) ?_
  clear hK K
  refine wpAnyS_done (by kernel_rfl) ?_ _
  have yf := fun k => row_cell r6.hf k
  have ya := fun k => row_cell r6.ha k
  go_wp2

  refine bodyPost_ret (v := .tuple #[.slice (some ⟨b, 0, none⟩) 3 3, .agg (frC 27 0 (-1)), .agg (acC false), .int .i64 1]) (by simp [results, Tryd.results9, go_sem, yf, ya, frC, acC]) rfl ?_
  refine ⟨rfl, ?_⟩
  rw [hN]; exact r6.b
end Go.Proofs.YtapjehgfekjdaaaDoor
