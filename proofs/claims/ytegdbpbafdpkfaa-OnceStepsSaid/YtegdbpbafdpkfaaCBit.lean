/- What Bit, state, wanted and Locked come to. No condition. -/
import Derived.Test.YtegdbpbafdpkfaaRBit
namespace Go.Proofs.Ytegdbpbafdpkfaa
open SX
open Go.RowKit

theorem bit_ok (W : World) : GOK Try.prog W 22 hBit := by
  refine gok mixed (hkL_nil _ W) fun vs s v hg _ => ⟨noL, 1000, ?_⟩
  unfold hBit at hg
  split at hg <;> cases hg
  · exact (bit0_res W _ _).mpr (by rw [bit_eq _ 0 1 rfl (by decide)])
  · exact (bit1_res W _ _).mpr (by rw [bit_eq _ 1 2 rfl (by decide)])
  · exact (bit2_res W _ _).mpr (by rw [bit_eq _ 2 4 rfl (by decide)])

theorem b1 (x : Int) : IntKind.wrap .i64 (((BitVec.ofInt 64 x &&& BitVec.ofInt 64 1).toNat : Nat) : Int) = ((lo3 x &&& 1 : Nat) : Int) := band_lit x 1 (by decide)
theorem b4 (x : Int) : IntKind.wrap .i64 (((BitVec.ofInt 64 x &&& BitVec.ofInt 64 4).toNat : Nat) : Int) = ((lo3 x &&& 4 : Nat) : Int) := band_lit x 4 (by decide)
theorem b5 (x : Int) : IntKind.wrap .i64 (((BitVec.ofInt 64 x &&& BitVec.ofInt 64 5).toNat : Nat) : Int) = ((lo3 x &&& 5 : Nat) : Int) := band_lit x 5 (by decide)
theorem b7 (x : Int) : IntKind.wrap .i64 (((BitVec.ofInt 64 x &&& BitVec.ofInt 64 7).toNat : Nat) : Int) = ((lo3 x &&& 7 : Nat) : Int) := band_lit x 7 (by decide)
theorem o1 (x : Int) : IntKind.wrap .i64 (((BitVec.ofInt 64 x ||| BitVec.ofInt 64 1).toNat : Nat) : Int) = IntKind.wrap .i64 (x - lo3 x + ((lo3 x ||| 1 : Nat) : Int)) := bor_eq x 1 (by decide)
theorem o2 (x : Int) : IntKind.wrap .i64 (((BitVec.ofInt 64 x ||| BitVec.ofInt 64 2).toNat : Nat) : Int) = IntKind.wrap .i64 (x - lo3 x + ((lo3 x ||| 2 : Nat) : Int)) := bor_eq x 2 (by decide)
theorem o4 (x : Int) : IntKind.wrap .i64 (((BitVec.ofInt 64 x ||| BitVec.ofInt 64 4).toNat : Nat) : Int) = IntKind.wrap .i64 (x - lo3 x + ((lo3 x ||| 4 : Nat) : Int)) := bor_eq x 4 (by decide)
theorem c2 (x : Int) : IntKind.wrap .i64 (((BitVec.ofInt 64 x &&& ~~~ BitVec.ofInt 64 2).toNat : Nat) : Int) = IntKind.wrap .i64 (x - lo3 x + ((lo3 x &&& 5 : Nat) : Int)) := bclr_eq x 2 (by decide)
theorem l1 (x : Int) : lo3 (IntKind.wrap .i64 (x - lo3 x + ((lo3 x ||| 1 : Nat) : Int))) = lo3 x ||| 1 := lo3_shift x _ (Nat.or_lt_two_pow (n := 3) (lo3_lt x) (by decide))
theorem l4 (x : Int) : lo3 (IntKind.wrap .i64 (x - lo3 x + ((lo3 x ||| 4 : Nat) : Int))) = lo3 x ||| 4 := lo3_shift x _ (Nat.or_lt_two_pow (n := 3) (lo3_lt x) (by decide))
theorem lo3_mod {x : Int} {r : Nat} (h : lo3 x = r) : x % 8 = r := by unfold lo3 at h; omega
theorem lo3_cases (x : Int) : lo3 x = 0 ∨ lo3 x = 1 ∨ lo3 x = 2 ∨ lo3 x = 3 ∨ lo3 x = 4 ∨ lo3 x = 5 ∨ lo3 x = 6 ∨ lo3 x = 7 := by have := lo3_lt x; omega

theorem and1 : ∀ r, r < 8 → (((r &&& 1 : Nat) : Int) != 0) = decide (r / 2 ^ 0 % 2 = 1) := by decide
theorem locked_ok (W : World) : GOK Try.prog W 21 hLocked := by
  refine gok mixed (hkL_nil _ W) fun vs s v hg _ => ⟨noL, 1000, ?_⟩
  unfold hLocked at hg
  split at hg <;> try (cases hg; done)
  split at hg <;> try (cases hg; done)
  rename_i ho
  cases hg
  rw [decO_eq ho, locked_res, b1, and1 _ (lo3_lt _)]
  rfl

theorem wanted_ok (W : World) : GOK Try.prog W 28 hSt := by
  refine gok mixed (hkL_nil _ W) fun vs s v hg _ => ⟨noL, 1000, ?_⟩
  unfold hSt at hg
  split at hg <;> try (cases hg; done)
  split at hg <;> try (cases hg; done)
  rename_i f ho
  cases hg
  rw [decF_eq ho, wanted_res]
  obtain ⟨op, st, ph, ol, si, le, aw, sv, ne, fr⟩ := f
  simp only [b1, b4, b5, o1, o4, c2, l4]
  simp only [l1, lo3_add8]
  rcases lo3_cases ol with h | h | h | h | h | h | h | h <;> have hm := lo3_mod h <;> cases sv <;> cases aw <;> simp [h, br, KeepSt, stD, IntKind.wrap_i64] <;> omega

theorem state_ok (W : World) : GOK Try.prog W 27 hSt := by
  refine gok mixed (hkL_cons (bit_ok W) (hkL_nil _ W)) fun vs s v hg _ => ⟨noL, 1000, ?_⟩
  unfold hSt at hg
  split at hg <;> try (cases hg; done)
  split at hg <;> try (cases hg; done)
  rename_i f ho
  cases hg
  rw [decF_eq ho, state_res]
  obtain ⟨op, st, ph, ol, si, le, aw, sv, ne, fr⟩ := f
  rcases lo3_cases ol with h | h | h | h | h | h | h | h <;> have hm := lo3_mod h <;> cases sv <;> cases aw <;> simp [h, br, KeepBit, KeepSt, stD, IntKind.wrap_i64] <;> omega

set_option linter.unusedVariables false
def hooksB (W : World) : Hooks := hkL [(22, hBit), (21, hLocked), (28, hSt), (27, hSt)]
theorem hooksB_ok (W : World) : HookOK Try.prog W (hooksB W) := hkL_cons (bit_ok W) (hkL_cons (locked_ok W) (hkL_cons (wanted_ok W) (hkL_cons (state_ok W) (hkL_nil _ W))))
end Go.Proofs.Ytegdbpbafdpkfaa
