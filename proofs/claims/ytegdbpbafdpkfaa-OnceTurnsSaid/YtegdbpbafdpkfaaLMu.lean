/- What mutex's steps answer. No condition. -/
import Derived.Test.YtegdbpbafdpkfaaRMu
namespace Go.Proofs.Ytegdbpbafdpkfaa
open SY
open Go.RowKit
set_option linter.unusedSimpArgs false
set_option linter.unusedVariables false

theorem locked_ok : GOK Try.prog 21 hLocked := by
  refine gokW mixed tab_ok hkL_nil fun vs s r hg hs => ?_
  unfold hLocked at hg
  split at hg <;> try (cases hg; done)
  rename_i a
  simp only [Option.some.injEq, Prod.mk.injEq] at hg
  obtain ⟨rfl, rfl⟩ := hg
  refine ⟨noL, 10, [objS (objOf a)], ⟨hs, trivial⟩, ?_⟩
  rw [locked_res, b1, a1n]
theorem want_ok : GOK Try.prog 28 hWant := by
  refine gokW mixed tab_ok hkL_nil fun vs s r hg hs => ?_
  unfold hWant at hg
  split at hg <;> try (cases hg; done)
  rename_i a
  simp only [Option.some.injEq, Prod.mk.injEq] at hg
  obtain ⟨rfl, rfl⟩ := hg
  refine ⟨noL, 10, [frS (frOf a)], ⟨hs, trivial⟩, ?_⟩
  rw [want_res]
  generalize frOf a = f
  obtain ⟨op, st, ph, od, si, le, aw, sv, ne, fr⟩ := f
  simp only [b1, b4, b5, o1, o4, cl2, l4]
  simp only [l1, lo3_add8]
  rcases lo3_cases od with h | h | h | h | h | h | h | h <;> have hm := lo3_mod h <;> cases sv <;> cases aw <;> simp [h, br, KeepSt, stD, IntKind.wrap_i64] <;> omega
theorem hkB_ok : HookOK Try.prog hkB := hkL_cons locked_ok <| hkL_cons want_ok hkL_nil

theorem sr3 (x : Int) : sShr .i64 x 3 = x / 8 := by rw [sShr_eq]; rfl
theorem lock_ok : GOK Try.prog 15 hLock := by
  refine gokW mixed tab_ok hkB_ok fun vs s r hg hs => ?_
  unfold hLock at hg
  split at hg <;> try (cases hg; done)
  rename_i a b c d
  simp only [Option.some.injEq, Prod.mk.injEq] at hg
  obtain ⟨rfl, rfl⟩ := hg
  obtain ⟨h1, h2, h3, h4⟩ := hs
  refine ⟨noL, 10, [objS (objOf a), frS (frOf b), iS (cI c 0), iS (cI d 0)], ⟨h1, h2, h3, h4, trivial⟩, ?_⟩
  generalize objOf a = o
  generalize frOf b = f
  generalize cI c 0 = a
  generalize cI d 0 = b
  rw [lock_res]
  simp only [b4, b5, a5, a4n, wr7, wr11, sr3]
  by_cases h0 : f.ph = 0
  · by_cases h1 : o.w0 = 0 <;> simp [br_iff, KeepLk, h0, h1, F0]
  · by_cases h1 : f.ph = 1
    · simp [br_iff, KeepLk, h1]
    · by_cases h2 : f.ph = 2
      · by_cases h3 : o.w0 = f.od
        · cases h4 : KeepBit f.od 0 <;> cases h5 : KeepBit f.od 2 <;> by_cases h6 : f.si ≥ 0 <;> simp [br_iff, KeepLk, h2, h3, h4, h5, h6, F0] <;> omega
        · simp [br_iff, KeepLk, h2, h3]
      · by_cases h3 : f.ph = 3
        · cases h4 : KeepBit o.w0 2 <;> cases h5 : f.sv <;> simp [br_iff, KeepLk, h3, h4, h5]
        · by_cases h4 : f.ph = 4
          · cases h5 : f.sv <;> by_cases h6 : f.od / 8 = 1 <;> simp [br_iff, KeepLk, h4, h5, h6, F0]
          · simp [br_iff, KeepLk, h0, h1, h2, h3, h4]

theorem unlock_ok : GOK Try.prog 17 hUnlock := by
  refine gokW mixed tab_ok hkB_ok fun vs s r hg hs => ?_
  unfold hUnlock at hg
  split at hg <;> try (cases hg; done)
  rename_i a b
  simp only [Option.some.injEq, Prod.mk.injEq] at hg
  obtain ⟨rfl, rfl⟩ := hg
  obtain ⟨h1, h2, hr⟩ := hs
  refine ⟨noL, 10, [objS (objOf a), frS (frOf b)], ⟨h1, h2, trivial⟩, ?_⟩
  generalize objOf a = o at *
  generalize frOf b = f
  have e1 : IntKind.wrap .i64 (o.w0 - 1) = 0 ↔ o.w0 = 1 := by unfold KeepI at hr; simp only [IntKind.wrap_i64]; omega
  rw [unlock_res]
  simp only [b4, b7, a7, a4n, o2, sr3]
  by_cases h0 : f.ph = 0
  · cases h1 : KeepBit o.w0 0
    · simp [br_iff, KeepUn, h0, h1, F0]
    · rw [m4 _ h1]
      by_cases h2 : o.w0 = 1
      · have e2 := e1.2 h2
        cases h3 : KeepBit o.w0 2 <;> simp [br_iff, KeepUn, h0, h1, h2, h3, F0] <;> simp [h2] at h1 h3 e2 <;> simp [e2, h1, h3]
      · have e2 : ¬ IntKind.wrap .i64 (o.w0 - 1) = 0 := fun h => h2 (e1.1 h)
        cases h3 : KeepBit o.w0 2 <;> simp [br_iff, KeepUn, h0, h1, h2, h3, e2, F0]
  · by_cases h1 : f.ph = 1
    · by_cases h2 : f.od / 8 = 0
      · simp [br_iff, KeepUn, h1, h2, F0]
      · cases h3 : KeepBit f.od 0 <;> cases h4 : KeepBit f.od 1 <;> cases h5 : KeepBit f.od 2 <;> by_cases h6 : o.w0 = f.od <;> simp [br_iff, KeepUn, h1, h2, h3, h4, h5, h6, F0]
        have e : lo3 f.od = 0 := by rcases lo3_cases f.od with h | h | h | h | h | h | h | h <;> simp [KeepBit, h] at h3 h4 h5 ⊢
        have e' : lo3 (IntKind.wrap .i64 (f.od - 8)) = 0 := by have := lo3_mod e; unfold lo3; simp only [IntKind.wrap_i64]; omega
        rw [e']
        simp
    · by_cases h2 : f.ph = 2
      · simp [br_iff, KeepUn, h2, F0]
      · by_cases h3 : f.ph = 3
        · simp [br_iff, KeepUn, h3, F0]
        · simp [br_iff, KeepUn, h0, h1, h2, h3]
end Go.Proofs.Ytegdbpbafdpkfaa
