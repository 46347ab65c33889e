/- What torporref15.Obj and Act answer of an object, and of an act without tasks to wake, held against itself: true. -/
import Derived.Test.YtegdbpbafdpkfaaRObj
namespace Go.Proofs.Ytegdbpbafdpkfaa
open SX
open Go.RowKit

theorem mixed : ProgOK Try.prog := ⟨by kernel_rfl, by kernel_rfl⟩

theorem same_ok (W : World) : GOK Try.prog W 23 (hSame W) := by
  refine gok mixed (hkL_nil _ W) fun vs s v hg hs => ?_
  unfold hSame at hg
  split at hg <;> try (cases hg; done)
  simp only [Option.some.injEq, Prod.mk.injEq] at hg
  obtain ⟨rfl, rfl⟩ := hg
  obtain ⟨rfl, x, rfl, hr⟩ := hs
  refine ⟨lh0 (hintSame x), 1000, ?_⟩
  rw [same_res]
  simp only [bne_self_eq_false, br_false, beq_self_eq_true, Bool.and_self, Bool.not_true]
  refine ⟨⟨0, Nat.zero_le _, by simp⟩, fun i hi => ?_⟩
  by_cases h : i < x.nn
  · obtain ⟨h1, h2, h3⟩ := hr.at_ i h
    have hf := hr.few
    rw [decide_eq_true (by omega : (i : Int) < (x.nn : Int)), br_true]
    have e2 : IsI W IntKind.u32 (((atO x.na).add ((i : Int).toNat * 2)).add 0) := h2
    have e3 : IsI W IntKind.i64 (((atO x.na).add ((i : Int).toNat * 2)).add 1) := by rw [add_add _ _ _ (hr.spot (by omega))]; exact h3
    refine ⟨⟨h1, by omega, by omega⟩, ⟨e2, e3⟩, ⟨h1, by omega, by omega⟩, ⟨e2, e3⟩, i + 1, h, by omega, ?_⟩
    simp [wrap_succ h hf]
  · rw [decide_eq_false (by omega), br_false]
    trivial

theorem obj_ok (W : World) : GOK Try.prog W 11 (hObj W) := by
  refine gok mixed (hkL_cons (same_ok W) (hkL_nil _ W)) fun vs s v hg hs => ?_
  unfold hObj at hg
  split at hg <;> try (cases hg; done)
  simp only [Option.some.injEq, Prod.mk.injEq] at hg
  obtain ⟨rfl, rfl⟩ := hg
  obtain ⟨rfl, x, w, rfl, hx⟩ := hs
  refine ⟨lh0 (hintObj x w), 1000, ?_⟩
  rw [obj_res]
  simp only [bne_self_eq_false, br_false, beq_self_eq_true, Bool.and_self, Bool.not_true]
  have hr := hx.l
  refine ⟨⟨trivial, x, rfl, hx.n⟩, ⟨0, Nat.zero_le _, by simp⟩, fun i hi => ?_⟩
  by_cases h : i < x.ll
  · obtain ⟨h1, h2, h3⟩ := hr.at_ i h
    have hf := hr.few
    rw [decide_eq_true (by omega : (i : Int) < (x.ll : Int)), br_true]
    have e2 : IsI W IntKind.i64 (((atO x.la).add ((i : Int).toNat * 2)).add 0) := h2
    have e3 : IsI W IntKind.i64 (((atO x.la).add ((i : Int).toNat * 2)).add 1) := by rw [add_add _ _ _ (hr.spot (by omega))]; exact h3
    refine ⟨⟨h1, by omega, by omega⟩, ⟨e2, e3⟩, ⟨h1, by omega, by omega⟩, ⟨e2, e3⟩, i + 1, h, by omega, ?_⟩
    simp [wrap_succ h hf]
  · rw [decide_eq_false (by omega), br_false]
    trivial

theorem act_ok (W : World) : GOK Try.prog W 12 hAct := by
  refine gok mixed (hkL_nil _ W) fun vs s v hg hs => ?_
  unfold hAct at hg
  split at hg <;> try (cases hg; done)
  simp only [Option.some.injEq, Prod.mk.injEq] at hg
  obtain ⟨rfl, rfl⟩ := hg
  obtain ⟨rfl, a, rfl⟩ := hs
  refine ⟨noL, 1000, ?_⟩
  rw [act_res]
  simp [br_true]
end Go.Proofs.Ytegdbpbafdpkfaa
