/- WeightSteps: the call answers true. -/
import Derived.Test.YtpkafgpffkhbnaaRWs
import Derived.Test.YtpkafgpffkhbnaaLOp
namespace Go.Proofs.Ytpkafgpffkhbnaa
open SY
open Go.RowKit
set_option linter.unusedSimpArgs false
set_option linter.unusedVariables false

theorem alive_ok : GOK Try.prog 5 hAlive := by
  refine gok mixed tab_ok (hkL_cons give_ok (hkL_cons ints_ok hkL_nil)) fun vs s r hg hs => ?_
  unfold hAlive at hg
  split at hg <;> try (cases hg; done)
  simp only [Option.some.injEq, Prod.mk.injEq] at hg
  obtain ⟨rfl, rfl⟩ := hg
  refine ⟨noL, 10, ?_⟩
  show callT Try.prog _ tab noL 10 _ [] tru
  rw [alive_res 0]
  simp [KeepFew]

theorem few_gl (x : O) (n : Int) (h : KeepFew 2 x.ls) : KeepFew 2 (KeepGl x n) := by
  have key : ∀ (k : Nat) (w0 w1 : Int) (l : List Int), l.length ≤ k → l.length % 2 = 0 → (gv w0 w1 l).2.2.length ≤ l.length ∧ (gv w0 w1 l).2.2.length % 2 = 0 := by
    intro k
    induction k with
    | zero =>
      intro w0 w1 l hl _
      obtain rfl : l = [] := List.length_eq_zero_iff.1 (by omega)
      simp [gv_nil]
    | succ k ih =>
      intro w0 w1 l hl he
      rcases Nat.eq_zero_or_pos l.length with h0 | h0
      · obtain rfl : l = [] := List.length_eq_zero_iff.1 h0
        simp [gv_nil]
      · obtain ⟨t, m, r, rfl⟩ := even_split he h0
        rw [gv_cons]
        split
        · have := ih w0 (IntKind.i64.wrap (w1 + m)) r (by simp at hl; omega) (by simp at he; omega)
          simp; omega
        · exact ⟨Nat.le_refl _, he⟩
  unfold KeepGl
  obtain ⟨h1, h2⟩ := h
  split
  · have := key _ x.w0 (IntKind.i64.wrap (x.w1 - n)) x.ls (Nat.le_refl _) h2
    exact ⟨by omega, this.2⟩
  · exact ⟨h1, h2⟩
theorem few_gk (x : O) (n : Int) (h : KeepFew 2 x.ls) : KeepFew 1 (KeepGk x n) := by
  unfold KeepGk
  split
  · have := gv_len x.w0 _ (IntKind.i64.wrap (x.w1 - n)) x.ls (Nat.le_refl _)
    exact ⟨by have := h.1; omega, Nat.mod_one _⟩
  · exact ⟨by simp, by simp⟩
theorem few_tl (m t n : Int) (l : List Int) (h : l.length ≤ 1000 ∧ l.length % 2 = 0) : KeepFew 2 (KeepTl m l t n) := by
  unfold KeepTl
  split
  · exact ⟨by simp; omega, by simp; omega⟩
  · exact ⟨by omega, h.2⟩

theorem steps_walk (W : World) (v0 v1 : Value) (o : O) (f : Fr) (a b : Int) (h0 : DS g0 W (objS o) v0) (h1 : DS g0 W (frS f) v1) (e1 : o.ns.length % 2 = 0) (e2 : o.ls.length % 2 = 0) :
    Calls Try.prog 3 #[v0, v1, .agg #[.int .i64 a, .int .i64 b]] W fun e w' => e = .returned (.bool true) ∧ Below W.heap.size W w' := by
  refine law (vals := [v0, v1, .agg #[.int .i64 a, .int .i64 b]]) (lh := noL) (m := 10) (args := [objS o, frS f, .t (.agg [cInt a, cInt b])]) mixed tab_ok
    (hkL_cons alive_ok <| hkL_cons give_ok <| hkL_cons rgive_ok <| hkL_cons take_ok <| hkL_cons rtake_ok <| hkL_cons copy_ok <| hkL_cons obj_ok <| hkL_cons act_ok hkL_nil) ?_ ⟨h0, h1, ⟨_, rfl, rfl, rfl, trivial⟩, trivial⟩
  rw [steps_res]
  refine ⟨trivial, br_in (fun _ => rfl) fun g1 => br_in (fun _ => rfl) fun g2 => ?_⟩
  simp only [decide_eq_false_iff_not] at g1 g2
  have k1 : KeepFew 2 o.ns := ⟨by omega, e1⟩
  have k2 : KeepFew 2 o.ls := ⟨by omega, e2⟩
  have k3 := fun m t n => few_tl m t n o.ls ⟨by omega, e2⟩
  have k4 := fun n => few_gl o n k2
  have k5 := fun n => few_gk o n k2
  have k0 : KeepFew 1 [] := ⟨by simp, by simp⟩
  simp [br_iff, k0, k1, k2, k3, k4, k5]
end Go.Proofs.Ytpkafgpffkhbnaa
