/- OnceSteps: the call answers true. -/
import Derived.Test.YtegdbpbafdpkfaaROLaw
namespace Go.Proofs.Ytegdbpbafdpkfaa
open SX
open Go.RowKit
set_option linter.unusedSimpArgs false
set_option linter.unusedVariables false

theorem done {f : FuncId} {hk : Hooks} {lh : Nat → Option Hint} {n : Nat} {vs : List Value} {W : World} (hh : HookOK Try.prog W hk) (h : callL Try.prog W hk lh n f vs (fun v => v = .bool true)) :
    Calls Try.prog f vs.toArray W fun e w' => e = .returned (.bool true) ∧ Below W.heap.size W w' :=
  (callL_ok mixed hh h W (Below.refl _ _)).mono fun e w' ⟨v, h1, h2, h3⟩ => ⟨by rw [h1, h2], h3⟩

theorem steps_walk (W : World) (x : X) (w : W6) (f : F) (a b : Int) (hw : WB w) (hx : x.nn ≤ 20 → x.ll ≤ 20 → XOK W x) :
    Calls Try.prog 3 #[objV x w, frV f, .agg #[.int .i64 a, .int .i64 b]] W fun e w' => e = .returned (.bool true) ∧ Below W.heap.size W w' := by
  refine done (lh := noL) (n := 1000) (vs := [objV x w, frV f, .agg #[.int .i64 a, .int .i64 b]]) (hooks_ok W) ?_
  rw [steps_res]
  have hr := hw.r0
  unfold R64 at hr
  by_cases h1 : (x.nn : Int) > 20
  · simp [br_iff, h1]
  · by_cases h2 : (x.ll : Int) > 20
    · simp [br_iff, h1, h2]
    · have hX := hx (by omega) (by omega)
      generalize once _ _ a b = r
      generalize ende _ _ = q
      obtain ⟨r1, r2, r3⟩ := r
      obtain ⟨q1, q2, q3⟩ := q
      simp [br_iff, h1, h2, KeepW0, R64, hr]
      exact ⟨⟨x, ⟨rfl, r1, by simp⟩, hX⟩, ⟨r3, by simp⟩, ⟨x, ⟨rfl, q1, by simp⟩, hX⟩, q3, by simp⟩
end Go.Proofs.Ytegdbpbafdpkfaa
