/- What group's and its reference's steps come to: one and the same plain function each. -/
import Derived.Test.YtjibdkdmioacgaaRGrp
namespace Go.Proofs.Ytjibdkdmioacgaa
open SX
open Go.RowKit

theorem count_ok (W : World) : GOK Try.prog W 8 (hOFI count) := by
  refine gok_OFI mixed (hkL_nil _ W) (n := 1000) fun x w f b => ?_
  rw [count_res]
  by_cases h0 : f.st = 0
  · by_cases h1 : b < -1073741824
    · simp [br_iff, count, h0, h1, ret3, objV, frV, actV, F0, A0]
    · by_cases h2 : b > 1073741824
      · simp [br_iff, count, h0, h1, h2, ret3, objV, frV, actV, F0, A0]
      · by_cases h3 : IntKind.wrap .i64 (w.w0 + b) ≥ 0 <;> by_cases h4 : IntKind.wrap .i64 (w.w0 + b) ≤ 1073741824 <;> by_cases h5 : IntKind.wrap .i64 (w.w0 + b) > 0 <;> by_cases h6 : w.w1 = 0 <;> simp [br_iff, count, h0, h1, h2, h3, h4, h5, h6, ret3, objV, frV, actV, F0, A0]
  · by_cases h1 : f.st = 1
    · by_cases h2 : IntKind.wrap .i64 (f.le - 1) > 0 <;> simp [br_iff, count, h1, h2, ret3, objV, frV, actV, F0, A0]
    · simp [br_iff, count, h0, h1, ret3, objV, frV, actV, A0]

theorem rcount_ok (W : World) : GOK Try.prog W 9 (hOFI count) := by
  refine gok_OFI mixed (hkL_nil _ W) (n := 1000) fun x w f b => ?_
  rw [rcount_res]
  by_cases h0 : f.st = 0
  · by_cases h1 : b < -1073741824
    · simp [br_iff, count, h0, h1, ret3, objV, frV, actV, F0, A0]
    · by_cases h2 : b > 1073741824
      · simp [br_iff, count, h0, h1, h2, ret3, objV, frV, actV, F0, A0]
      · by_cases h3 : IntKind.wrap .i64 (w.w0 + b) < 0 <;> by_cases h4 : IntKind.wrap .i64 (w.w0 + b) > 1073741824 <;> by_cases h5 : IntKind.wrap .i64 (w.w0 + b) > 0 <;> by_cases h6 : w.w1 = 0 <;> simp [br_iff, count, h0, h1, h2, h3, h4, h5, h6, ret3, objV, frV, actV, F0, A0] <;> omega
  · by_cases h1 : f.st = 1
    · by_cases h2 : IntKind.wrap .i64 (f.le - 1) > 0 <;> simp [br_iff, count, h1, h2, ret3, objV, frV, actV, F0, A0] <;> omega
    · simp [br_iff, count, h0, h1, ret3, objV, frV, actV, A0]

theorem wait_ok (W : World) : GOK Try.prog W 10 (hOF wait) := by
  refine gok_OF mixed (hkL_nil _ W) (n := 1000) fun x w f => ?_
  rw [wait_res]
  by_cases h0 : f.st = 0 <;> by_cases h1 : w.w0 = 0 <;> by_cases h2 : f.st = 1 <;> simp [br_iff, wait, h0, h1, h2, ret3, objV, frV, actV, F0, A0]

theorem rwait_ok (W : World) : GOK Try.prog W 11 (hOF wait) := by
  refine gok_OF mixed (hkL_nil _ W) (n := 1000) fun x w f => ?_
  rw [rwait_res]
  by_cases h0 : f.st = 0 <;> by_cases h1 : w.w0 = 0 <;> by_cases h2 : f.st = 1 <;> simp [br_iff, wait, h0, h1, h2, ret3, objV, frV, actV, F0, A0]

/-- alive: true. -/
def hTrue : Hk
  | [] => some (True, .bool true)
  | _ => none
theorem alive_ok (W : World) : GOK Try.prog W 6 hTrue := by
  refine gok mixed (hkL_nil _ W) fun vs s v hg _ => ?_
  unfold hTrue at hg
  split at hg <;> try (cases hg; done)
  simp only [Option.some.injEq, Prod.mk.injEq] at hg
  refine ⟨noL, 1000, ?_⟩
  rw [alive_res, hg.2]
  repeat' (first | exact rfl | refine ⟨?_, ?_⟩)

def hooks (W : World) : Hooks := hkL [(6, hTrue), (8, hOFI count), (9, hOFI count), (10, hOF wait), (11, hOF wait), (12, hObj W), (13, hAct)]
theorem hooks_ok (W : World) : HookOK Try.prog W (hooks W) :=
  hkL_cons (alive_ok W) (hkL_cons (count_ok W) (hkL_cons (rcount_ok W) (hkL_cons (wait_ok W) (hkL_cons (rwait_ok W) (hkL_cons (obj_ok W) (hkL_cons (act_ok W) (hkL_nil _ W)))))))
end Go.Proofs.Ytjibdkdmioacgaa
