/- Kinds, and objects made: the code's and the document's. No condition. -/
import Derived.Test.YtapjehgfekjdaaaDoorRQ2
import Derived.Test.YtapjehgfekjdaaaDoorLQ1
namespace Go.Proofs.YtapjehgfekjdaaaDoor
open SY
open Go.RowKit
set_option linter.unusedVariables false
set_option linter.unusedSimpArgs false
set_option maxRecDepth 100000
set_option maxHeartbeats 4000000 in
theorem kind_ok : GOK Tryd.prog 16 (hKd KeepKd) := by
  refine gokW mixed tab_ok hkL_nil fun vs s r hg hs => ?_
  unfold hKd at hg
  split at hg <;> try (cases hg; done)
  rename_i a
  simp only [Option.some.injEq, Prod.mk.injEq] at hg
  obtain ⟨rfl, rfl⟩ := hg
  refine ⟨noL, 10, [iS (cI a)], ⟨hs, trivial⟩, ?_⟩
  generalize cI a = op at *
  rw [skind_res]
  unfold KeepKd
  repeat' (refine br_in (fun c => ?_) fun c => ?_)
  all_goals simp only [decide_eq_true_eq, decide_eq_false_iff_not] at *
  all_goals (repeat' split) <;> first | rfl | (exfalso; omega)
set_option maxHeartbeats 4000000 in
theorem rkind_ok : GOK Tryd.prog 17 (hKd KeepKd) := by
  refine gokW mixed tab_ok hkL_nil fun vs s r hg hs => ?_
  unfold hKd at hg
  split at hg <;> try (cases hg; done)
  rename_i a
  simp only [Option.some.injEq, Prod.mk.injEq] at hg
  obtain ⟨rfl, rfl⟩ := hg
  refine ⟨noL, 10, [iS (cI a)], ⟨hs, trivial⟩, ?_⟩
  generalize cI a = op at *
  rw [srkind_res]
  unfold KeepKd
  repeat' (refine br_in (fun c => ?_) fun c => ?_)
  all_goals simp only [decide_eq_true_eq, decide_eq_false_iff_not] at *
  all_goals (repeat' split) <;> first | rfl | (exfalso; omega)
theorem wrapK {x : Int} (h : KeepI x) : IntKind.i64.wrap x = x := by unfold KeepI at h; rw [IntKind.wrap_i64]; omega
theorem mg_t {k s : Int} (h : 1 ≤ k ∧ k ≤ 6 ∧ (k = 6 → 1 ≤ s ∧ s ≤ 1073741824) ∧ (k ≠ 6 → s = 0)) : KeepMg k s = true := by
  unfold KeepMg
  by_cases e : k = 6
  · simp [e, h.2.2.1 e]
  · simp [e, h.1, h.2.1, h.2.2.2 e]
theorem mg_f {k s : Int} (h : k < 1 ∨ 6 < k ∨ (k = 6 ∧ (s < 1 ∨ 1073741824 < s)) ∨ (k ≠ 6 ∧ s ≠ 0)) : KeepMg k s = false := by
  cases e : KeepMg k s with
  | false => rfl
  | true =>
    exfalso
    unfold KeepMg at e
    simp only [Bool.and_eq_true, decide_eq_true_eq] at e
    obtain ⟨e1, e2, e3⟩ := e
    split at e3 <;> simp only [Bool.and_eq_true, decide_eq_true_eq] at e3 <;> omega
theorem make_ok : GOK Tryd.prog 13 (hMk KeepMk KeepMs KeepMe) := by
  refine gokW mixed tab_ok hkL_nil fun vs s r hg hs => ?_
  unfold hMk at hg
  split at hg <;> try (cases hg; done)
  rename_i a b
  simp only [Option.some.injEq, Prod.mk.injEq] at hg
  obtain ⟨rfl, rfl⟩ := hg
  refine ⟨noL, 10, [iS (cI a), iS (cI b)], ⟨hs.1, hs.2.1, trivial⟩, ?_⟩
  have hw := wrapK hs.2.2
  generalize cI a = k at *
  generalize cI b = s at *
  clear hs
  rw [smake_res]
  unfold KeepMk KeepMs KeepMe
  repeat' (refine br_in (fun c => ?_) fun c => ?_)
  all_goals simp only [decide_eq_true_eq, decide_eq_false_iff_not] at *
  all_goals first
    | (exfalso; omega)
    | (rw [mg_f (by omega)]; simp)
    | (rw [mg_t (by omega)]; simp [hw]; try omega)
theorem rmake_ok : GOK Tryd.prog 14 (hMk KeepMk KeepMs KeepMe) := by
  refine gokW mixed tab_ok hkL_nil fun vs s r hg hs => ?_
  unfold hMk at hg
  split at hg <;> try (cases hg; done)
  rename_i a b
  simp only [Option.some.injEq, Prod.mk.injEq] at hg
  obtain ⟨rfl, rfl⟩ := hg
  refine ⟨noL, 10, [iS (cI a), iS (cI b)], ⟨hs.1, hs.2.1, trivial⟩, ?_⟩
  have hw := wrapK hs.2.2
  generalize cI a = k at *
  generalize cI b = s at *
  clear hs
  rw [srmake_res]
  unfold KeepMk KeepMs KeepMe
  repeat' (refine br_in (fun c => ?_) fun c => ?_)
  all_goals simp only [decide_eq_true_eq, decide_eq_false_iff_not, Bool.not_eq_true', Bool.not_eq_false'] at *
  all_goals first
    | (exfalso; omega)
    | (rw [mg_f (by omega)]; simp)
    | (rw [mg_t (by omega)]; simp [hw]; try omega)
theorem makes_law (k s op a b c : Int) (h : KeepI s) : callT Tryd.prog (hkL [(6, hAlive), (16, hKd KeepKd), (17, hKd KeepKd), (13, hMk KeepMk KeepMs KeepMe), (14, hMk KeepMk KeepMs KeepMe)]) tab noL 10 4 [iS k, iS s, .t (inT op a b c)] tru := by
  rw [qlaw_res]
  by_cases e : op = 36 <;> simp [br_tt, br_ff, h, e]
end Go.Proofs.YtapjehgfekjdaaaDoor
