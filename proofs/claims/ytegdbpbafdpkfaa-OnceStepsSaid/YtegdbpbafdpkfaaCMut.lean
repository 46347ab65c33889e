/- What mutex's and its reference's steps come to: one and the same plain function each. -/
import Derived.Test.YtegdbpbafdpkfaaRMut
namespace Go.Proofs.Ytegdbpbafdpkfaa
open SX
open Go.RowKit
set_option linter.unusedSimpArgs false
set_option linter.unusedVariables false

def lock (w : W6) (f : F) (now pat : Int) : R3 :=
  if f.ph = 0 ∧ w.w0 = 0 then ({ w with w0 := 1 }, F0, { A0 with dn := true })
  else if f.ph = 0 ∨ (f.ph = 2 ∧ w.w0 ≠ f.ol) then (w, { f with ph := 1 }, A0)
  else if f.ph = 1 then (w, { f with ol := w.w0, ph := 2 }, A0)
  else if f.ph = 2 then
    if KeepBit f.ol 0 = false ∧ KeepBit f.ol 2 = false then ({ w with w0 := KeepSt f.ol f.sv f.aw }, F0, { A0 with dn := true })
    else ({ w with w0 := KeepSt f.ol f.sv f.aw }, { f with fr := decide (f.si ≥ 0), si := if f.si ≥ 0 then f.si else now, ne := 2, ph := 3 }, A0)
  else if f.ph = 3 then
    if KeepBit w.w0 2 = true then (w, { f with sv := f.sv || decide (IntKind.wrap .i64 (now - f.si) > pat), ol := w.w0, ph := 4 }, A0)
    else (w, { f with sv := f.sv || decide (IntKind.wrap .i64 (now - f.si) > pat), ol := w.w0, aw := true, ph := 2 }, A0)
  else if f.ph = 4 then
    if f.sv = false ∨ f.ol.fdiv 8 = 1 then ({ w with w0 := IntKind.wrap .i64 (w.w0 - 11) }, F0, { A0 with dn := true })
    else ({ w with w0 := IntKind.wrap .i64 (w.w0 - 7) }, F0, { A0 with dn := true })
  else (w, f, A0)
def unlock (w : W6) (f : F) : R3 :=
  if f.ph = 0 then
    if KeepBit w.w0 0 = false then (w, F0, { A0 with ft := 1 })
    else if w.w0 = 1 then ({ w with w0 := IntKind.wrap .i64 (w.w0 - 1) }, F0, { A0 with dn := true })
    else if KeepBit w.w0 2 = true then ({ w with w0 := IntKind.wrap .i64 (w.w0 - 1) }, { f with ol := IntKind.wrap .i64 (w.w0 - 1), ph := 2 }, A0)
    else ({ w with w0 := IntKind.wrap .i64 (w.w0 - 1) }, { f with ol := IntKind.wrap .i64 (w.w0 - 1), ph := 1 }, A0)
  else if f.ph = 1 then
    if f.ol.fdiv 8 = 0 ∨ KeepBit f.ol 0 = true ∨ KeepBit f.ol 1 = true ∨ KeepBit f.ol 2 = true then (w, F0, { A0 with dn := true })
    else if w.w0 ≠ f.ol then (w, { f with ol := w.w0 }, A0)
    else ({ w with w0 := IntKind.wrap .i64 (IntKind.wrap .i64 (w.w0 - 8) + 2) }, { f with ph := 3 }, A0)
  else if f.ph = 2 then (w, F0, { A0 with dn := true, gv := 2, hd := true })
  else if f.ph = 3 then (w, F0, { A0 with dn := true, gv := 2 })
  else (w, f, A0)

theorem wr11 (n : Int) : IntKind.wrap .i64 (IntKind.wrap .i64 (n - 7) - 4) = IntKind.wrap .i64 (n - 11) := by simp only [IntKind.wrap_i64]; omega
theorem wr7 (n : Int) : IntKind.wrap .i64 (n + -7) = IntKind.wrap .i64 (n - 7) := rfl
theorem a4 (x : Int) : ((lo3 x &&& 4 : Nat) : Int) = if KeepBit x 2 = true then 4 else 0 := by
  rcases lo3_cases x with h | h | h | h | h | h | h | h <;> simp [h, KeepBit]
theorem a5 (x : Int) : (((lo3 x &&& 5 : Nat) : Int) == 0) = (!KeepBit x 0 && !KeepBit x 2) := by
  rcases lo3_cases x with h | h | h | h | h | h | h | h <;> simp [h, KeepBit]
theorem a7 (x : Int) : (((lo3 x &&& 7 : Nat) : Int) != 0) = (KeepBit x 0 || (KeepBit x 1 || KeepBit x 2)) := by
  rcases lo3_cases x with h | h | h | h | h | h | h | h <;> simp [h, KeepBit]
theorem a4n (x : Int) : (((lo3 x &&& 4 : Nat) : Int) != 0) = KeepBit x 2 := by
  rcases lo3_cases x with h | h | h | h | h | h | h | h <;> simp [h, KeepBit]
theorem m4 (x : Int) (h : KeepBit x 0 = true) : KeepBit (IntKind.wrap .i64 (x - 1)) 2 = KeepBit x 2 := by
  have e : lo3 (IntKind.wrap .i64 (x - 1)) = lo3 x - 1 := by
    rcases lo3_cases x with h' | h' | h' | h' | h' | h' | h' | h' <;> have := lo3_mod h' <;> simp [KeepBit, h'] at h <;> rw [h'] <;> unfold lo3 <;> simp only [IntKind.wrap_i64] <;> omega
  unfold KeepBit
  rw [e]
  rcases lo3_cases x with h' | h' | h' | h' | h' | h' | h' | h' <;> simp [KeepBit, h'] at h <;> simp [h']

theorem lock_ok (W : World) : GOK Try.prog W 15 (hOFII lock) := by
  refine gok_OFII mixed (hooksB_ok W) (n := 1000) fun x w f a b => ?_
  rw [lock_res]
  simp only [b4, b5, a5, a4n, wr7, wr11]
  by_cases h0 : f.ph = 0
  · by_cases h1 : w.w0 = 0 <;> simp [br_iff, lock, h0, h1, ret3, objV, frV, actV, F0, A0]
  · by_cases h1 : f.ph = 1
    · simp [br_iff, lock, h1, ret3, objV, frV, actV, A0]
    · by_cases h2 : f.ph = 2
      · by_cases h3 : w.w0 = f.ol
        · cases h4 : KeepBit f.ol 0 <;> cases h5 : KeepBit f.ol 2 <;> by_cases h6 : f.si ≥ 0 <;> simp [br_iff, lock, h2, h3, h4, h5, h6, ret3, objV, frV, actV, F0, A0] <;> omega
        · simp [br_iff, lock, h2, h3, ret3, objV, frV, actV, A0]
      · by_cases h3 : f.ph = 3
        · cases h4 : KeepBit w.w0 2 <;> cases h5 : f.sv <;> simp [br_iff, lock, h3, h4, h5, ret3, objV, frV, actV, A0]
        · by_cases h4 : f.ph = 4
          · cases h5 : f.sv <;> by_cases h6 : f.ol.fdiv 8 = 1 <;> simp [br_iff, lock, h4, h5, h6, ret3, objV, frV, actV, F0, A0]
          · simp [br_iff, lock, h0, h1, h2, h3, h4, ret3, objV, frV, actV, A0]

theorem rlock_ok (W : World) : GOK Try.prog W 18 (hOFII lock) := by
  refine gok_OFII mixed (hooksB_ok W) (n := 1000) fun x w f a b => ?_
  rw [rlock_res]
  by_cases h0 : f.ph = 0
  · by_cases h1 : w.w0 = 0 <;> simp [br_iff, lock, h0, h1, ret3, objV, frV, actV, F0, A0]
  · by_cases h1 : f.ph = 1
    · simp [br_iff, lock, h1, ret3, objV, frV, actV, A0]
    · by_cases h2 : f.ph = 2
      · by_cases h3 : w.w0 = f.ol
        · cases h4 : KeepBit f.ol 0 <;> cases h5 : KeepBit f.ol 2 <;> by_cases h6 : f.si < 0 <;> simp [br_iff, lock, h2, h3, h4, h5, h6, ret3, objV, frV, actV, F0, A0] <;> omega
        · simp [br_iff, lock, h2, h3, ret3, objV, frV, actV, A0]
      · by_cases h3 : f.ph = 3
        · cases h4 : KeepBit w.w0 2 <;> cases h5 : f.sv <;> by_cases h6 : IntKind.wrap .i64 (a - f.si) > b <;> simp [br_iff, lock, h3, h4, h5, h6, ret3, objV, frV, actV, A0] <;> omega
        · by_cases h4 : f.ph = 4
          · cases h5 : f.sv <;> by_cases h6 : f.ol.fdiv 8 = 1 <;> simp [br_iff, lock, h4, h5, h6, ret3, objV, frV, actV, F0, A0]
          · simp [br_iff, lock, h0, h1, h2, h3, h4, ret3, objV, frV, actV, A0]

def KeepW0 (w : W6) (_ : F) : Prop := R64 w.w0
theorem unlock_ok (W : World) : GOK Try.prog W 17 (hOFs KeepW0 unlock) := by
  refine gok_OFs mixed (hooksB_ok W) (n := 1000) fun x w f hr => ?_
  have hr : R64 w.w0 := hr
  have e1 : IntKind.wrap .i64 (w.w0 - 1) = 0 ↔ w.w0 = 1 := by unfold R64 at hr; simp only [IntKind.wrap_i64]; omega
  rw [unlock_res]
  simp only [b4, b7, a7, a4n, o2]
  by_cases h0 : f.ph = 0
  · cases h1 : KeepBit w.w0 0
    · simp [br_iff, unlock, h0, h1, ret3, objV, frV, actV, F0, A0]
    · rw [m4 _ h1]
      by_cases h2 : w.w0 = 1
      · have e2 := e1.2 h2
        cases h3 : KeepBit w.w0 2 <;> simp [br_iff, unlock, h0, h1, h2, h3, ret3, objV, frV, actV, F0, A0] <;> simp [h2] at h1 h3 e2 <;> simp [e2, h1, h3]
      · have e2 : ¬ IntKind.wrap .i64 (w.w0 - 1) = 0 := fun h => h2 (e1.1 h)
        cases h3 : KeepBit w.w0 2 <;> simp [br_iff, unlock, h0, h1, h2, h3, e2, ret3, objV, frV, actV, F0, A0]
  · by_cases h1 : f.ph = 1
    · by_cases h2 : f.ol.fdiv 8 = 0
      · simp [br_iff, unlock, h1, h2, ret3, objV, frV, actV, F0, A0]
      · cases h3 : KeepBit f.ol 0 <;> cases h4 : KeepBit f.ol 1 <;> cases h5 : KeepBit f.ol 2 <;> by_cases h6 : w.w0 = f.ol <;> simp [br_iff, unlock, h1, h2, h3, h4, h5, h6, ret3, objV, frV, actV, F0, A0]
        have e : lo3 f.ol = 0 := by rcases lo3_cases f.ol with h | h | h | h | h | h | h | h <;> simp [KeepBit, h] at h3 h4 h5 ⊢
        have e' : lo3 (IntKind.wrap .i64 (f.ol - 8)) = 0 := by have := lo3_mod e; unfold lo3; simp only [IntKind.wrap_i64]; omega
        rw [e']
        simp
    · by_cases h2 : f.ph = 2
      · simp [br_iff, unlock, h2, ret3, objV, frV, actV, F0, A0]
      · by_cases h3 : f.ph = 3
        · simp [br_iff, unlock, h3, ret3, objV, frV, actV, F0, A0]
        · simp [br_iff, unlock, h0, h1, h2, h3, ret3, objV, frV, actV, A0]

theorem runlock_ok (W : World) : GOK Try.prog W 20 (hOFs KeepW0 unlock) := by
  refine gok_OFs mixed (hooksB_ok W) (n := 1000) fun x w f _ => ?_
  rw [runlock_res]
  by_cases h0 : f.ph = 0
  · cases h1 : KeepBit w.w0 0
    · simp [br_iff, unlock, h0, h1, ret3, objV, frV, actV, F0, A0]
    · by_cases h2 : w.w0 = 1 <;> cases h3 : KeepBit w.w0 2 <;> simp [br_iff, unlock, h0, h1, h2, h3, ret3, objV, frV, actV, F0, A0] <;> simp_all
  · by_cases h1 : f.ph = 1
    · by_cases h2 : f.ol.fdiv 8 = 0
      · simp [br_iff, unlock, h1, h2, ret3, objV, frV, actV, F0, A0]
      · cases h3 : KeepBit f.ol 0 <;> cases h4 : KeepBit f.ol 1 <;> cases h5 : KeepBit f.ol 2 <;> by_cases h6 : w.w0 = f.ol <;> simp [br_iff, unlock, h1, h2, h3, h4, h5, h6, ret3, objV, frV, actV, F0, A0]
    · by_cases h2 : f.ph = 2
      · simp [br_iff, unlock, h2, ret3, objV, frV, actV, F0, A0]
      · by_cases h3 : f.ph = 3
        · simp [br_iff, unlock, h3, ret3, objV, frV, actV, F0, A0]
        · simp [br_iff, unlock, h0, h1, h2, h3, ret3, objV, frV, actV, A0]

end Go.Proofs.Ytegdbpbafdpkfaa
