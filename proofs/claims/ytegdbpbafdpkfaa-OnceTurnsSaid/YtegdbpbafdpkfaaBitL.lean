/- The lowest three bits of a whole number of 64 bits with a sign. No condition. -/
import Derived.Test.YtegdbpbafdpkfaaSyW
namespace Go.Proofs.Ytegdbpbafdpkfaa
open Go.RowKit
namespace SY

theorem nat_split (a : Nat) : a = (a / 8) <<< 3 ||| a % 8 := by
  rw [← Nat.shiftLeft_add_eq_or_of_lt (Nat.mod_lt a (by decide : (0 : Nat) < 8)), Nat.shiftLeft_eq]; omega
theorem nat_and (a m : Nat) (hm : m < 8) : a &&& m = a % 8 &&& m := by
  have h : m = 7 &&& m := by
    revert m; decide
  rw [h, ← Nat.and_assoc, (Nat.and_two_pow_sub_one_eq_mod a 3 : a &&& 7 = a % 8)]
  rw [← Nat.and_assoc, (Nat.and_two_pow_sub_one_eq_mod (a % 8) 3 : a % 8 &&& 7 = a % 8 % 8)]
  rw [Nat.mod_mod]
theorem nat_or (a m : Nat) (hm : m < 8) : a ||| m = a / 8 * 8 + (a % 8 ||| m) := by
  have h1 : (a % 8 ||| m) < 2 ^ 3 := Nat.or_lt_two_pow (Nat.mod_lt a (by decide : (0 : Nat) < 8)) hm
  have h2 := Nat.shiftLeft_add_eq_or_of_lt h1 (a / 8)
  rw [Nat.shiftLeft_eq] at h2
  rw [show a / 8 * 8 + (a % 8 ||| m) = a / 8 * 2 ^ 3 + (a % 8 ||| m) from rfl, h2]
  conv => lhs; rw [nat_split a]
  rw [Nat.shiftLeft_eq, Nat.or_assoc]
theorem nat_clear (a m : Nat) (ha : a < 2 ^ 64) (hm : m < 8) : a &&& (2 ^ 64 - 1 - m) = a / 8 * 8 + (a % 8 &&& (7 - m)) := by
  have h1 : (a % 8 &&& (7 - m)) < 2 ^ 3 := Nat.lt_of_le_of_lt Nat.and_le_left (Nat.mod_lt a (by decide : (0 : Nat) < 8))
  have h2 := Nat.shiftLeft_add_eq_or_of_lt h1 (a / 8)
  rw [Nat.shiftLeft_eq] at h2
  have h3 : 2 ^ 64 - 1 - m = (2 ^ 61 - 1) <<< 3 ||| (7 - m) := by
    rw [← Nat.shiftLeft_add_eq_or_of_lt (by omega : 7 - m < 2 ^ 3), Nat.shiftLeft_eq]; omega
  rw [show a / 8 * 8 + (a % 8 &&& (7 - m)) = a / 8 * 2 ^ 3 + (a % 8 &&& (7 - m)) from rfl, h2, h3, ← Nat.shiftLeft_eq]
  have h4 : a / 8 = a / 8 &&& (2 ^ 61 - 1) := by rw [Nat.and_two_pow_sub_one_eq_mod]; omega
  conv => rhs; rw [h4]
  conv => lhs; rw [nat_split a]
  apply Nat.eq_of_testBit_eq
  intro i
  simp only [Nat.testBit_and, Nat.testBit_or, Nat.testBit_shiftLeft]
  by_cases hi : i < 3
  · simp [Nat.not_le.mpr hi]
  · have hp : (2 : Nat) ^ 3 ≤ 2 ^ i := Nat.pow_le_pow_right (by decide) (by omega)
    have e1 : (a % 8).testBit i = false := Nat.testBit_lt_two_pow (by omega)
    have e2 : (7 - m).testBit i = false := Nat.testBit_lt_two_pow (by omega)
    simp [e1, e2, show 3 ≤ i by omega]

def lo3 (x : Int) : Nat := (x % 8).toNat
theorem lo3_lt (x : Int) : lo3 x < 8 := by unfold lo3; omega
theorem ofInt_mod (x : Int) : (BitVec.ofInt 64 x).toNat % 8 = lo3 x := by
  rw [BitVec.toNat_ofInt]; unfold lo3; omega
theorem ofInt_lit (m : Nat) (hm : m < 8) : (BitVec.ofInt 64 (m : Int)).toNat = m := by
  rw [BitVec.toNat_ofInt]; omega
theorem band_eq (x : Int) (m : Nat) (hm : m < 8) : (BitVec.ofInt 64 x &&& BitVec.ofInt 64 (m : Int)).toNat = lo3 x &&& m := by
  rw [BitVec.toNat_and, ofInt_lit m hm, nat_and _ m hm, ofInt_mod]
theorem bor_eq (x : Int) (m : Nat) (hm : m < 8) : IntKind.wrap .i64 (((BitVec.ofInt 64 x ||| BitVec.ofInt 64 (m : Int)).toNat : Nat) : Int) = IntKind.wrap .i64 (x - lo3 x + ((lo3 x ||| m : Nat) : Int)) := by
  rw [BitVec.toNat_or, ofInt_lit m hm, nat_or _ m hm, ofInt_mod]
  have h := ofInt_mod x
  rw [BitVec.toNat_ofInt] at h ⊢
  generalize lo3 x ||| m = r
  simp only [IntKind.wrap_i64]
  omega
theorem bclr_eq (x : Int) (m : Nat) (hm : m < 8) : IntKind.wrap .i64 (((BitVec.ofInt 64 x &&& ~~~ BitVec.ofInt 64 (m : Int)).toNat : Nat) : Int) = IntKind.wrap .i64 (x - lo3 x + ((lo3 x &&& (7 - m) : Nat) : Int)) := by
  rw [BitVec.toNat_and, BitVec.toNat_not, ofInt_lit m hm, nat_clear _ m (BitVec.isLt _) hm, ofInt_mod]
  have h := ofInt_mod x
  rw [BitVec.toNat_ofInt] at h ⊢
  generalize lo3 x &&& (7 - m) = r
  simp only [IntKind.wrap_i64]
  omega

def KeepBit (x : Int) (k : Nat) : Bool := decide (lo3 x / 2 ^ k % 2 = 1)
def stD (r : Nat) (sv aw : Bool) : Int :=
  (if r % 2 = 0 ∧ r / 4 = 0 then 1 else 0) + (if r % 2 = 1 ∨ r / 4 = 1 then 8 else 0) + (if sv = true ∧ r % 2 = 1 ∧ r / 4 = 0 then 4 else 0) - (if aw = true ∧ r / 2 % 2 = 1 then 2 else 0)
def KeepSt (o : Int) (sv aw : Bool) : Int := IntKind.wrap .i64 (o + stD (lo3 o) sv aw)
theorem bit_eq (x : Int) (k : Nat) (p : Int) (hp : p = 2 ^ k) (hk : k < 3) : ((x.fdiv p).tmod 2 != 0) = KeepBit x k := by
  have h1 : (x.fdiv p).tmod 2 = 0 ↔ (x / p) % 2 = 0 := by
    rw [Int.fdiv_eq_ediv_of_nonneg _ (by subst hp; exact Int.le_of_lt (Int.pow_pos (by decide))), ← Int.dvd_iff_tmod_eq_zero, Int.dvd_iff_emod_eq_zero]
  have h2 : (x / p) % 2 = 0 ↔ ¬ (lo3 x / 2 ^ k % 2 = 1) := by
    unfold lo3
    have : k = 0 ∨ k = 1 ∨ k = 2 := by omega
    rcases this with rfl | rfl | rfl <;> simp at hp <;> subst hp <;> omega
  unfold KeepBit
  by_cases h : lo3 x / 2 ^ k % 2 = 1
  · simp [h, show ¬ (x.fdiv p).tmod 2 = 0 from fun e => h2.1 (h1.1 e) h]
  · simp [h, h1.2 (h2.2 h)]

theorem wrap_small (n : Nat) (h : n < 8) : IntKind.wrap .i64 (n : Int) = n := by
  simp only [IntKind.wrap_i64]; omega

/-- One asks of one's lowest three bits, a literal each. -/
theorem band_lit (x : Int) (m : Nat) (hm : m < 8) : IntKind.wrap .i64 (((BitVec.ofInt 64 x &&& BitVec.ofInt 64 (m : Int)).toNat : Nat) : Int) = ((lo3 x &&& m : Nat) : Int) := by
  rw [band_eq x m hm, wrap_small _ (Nat.lt_of_le_of_lt Nat.and_le_left (lo3_lt x))]
theorem bAnd_lit (x : Int) (m : Nat) (hm : m < 8) : bAnd .i64 x (m : Int) = ((lo3 x &&& m : Nat) : Int) := band_lit x m hm
theorem bOr_lit (x : Int) (m : Nat) (hm : m < 8) : bOr .i64 x (m : Int) = IntKind.wrap .i64 (x - lo3 x + ((lo3 x ||| m : Nat) : Int)) := bor_eq x m hm
theorem bAnn_lit (x : Int) (m : Nat) (hm : m < 8) : bAnn .i64 x (m : Int) = IntKind.wrap .i64 (x - lo3 x + ((lo3 x &&& (7 - m) : Nat) : Int)) := bclr_eq x m hm
theorem lo3_shift (x : Int) (r : Nat) (hr : r < 8) : lo3 (IntKind.wrap .i64 (x - lo3 x + (r : Int))) = r := by
  unfold lo3; simp only [IntKind.wrap_i64]; omega
theorem lo3_add8 (x : Int) : lo3 (IntKind.wrap .i64 (x + 8)) = lo3 x := by
  unfold lo3; simp only [IntKind.wrap_i64]; omega
theorem b1 (x : Int) : bAnd .i64 x 1 = ((lo3 x &&& 1 : Nat) : Int) := bAnd_lit x 1 (by decide)
theorem b4 (x : Int) : bAnd .i64 x 4 = ((lo3 x &&& 4 : Nat) : Int) := bAnd_lit x 4 (by decide)
theorem b5 (x : Int) : bAnd .i64 x 5 = ((lo3 x &&& 5 : Nat) : Int) := bAnd_lit x 5 (by decide)
theorem b7 (x : Int) : bAnd .i64 x 7 = ((lo3 x &&& 7 : Nat) : Int) := bAnd_lit x 7 (by decide)
theorem o1 (x : Int) : bOr .i64 x 1 = IntKind.wrap .i64 (x - lo3 x + ((lo3 x ||| 1 : Nat) : Int)) := bOr_lit x 1 (by decide)
theorem o2 (x : Int) : bOr .i64 x 2 = IntKind.wrap .i64 (x - lo3 x + ((lo3 x ||| 2 : Nat) : Int)) := bOr_lit x 2 (by decide)
theorem o4 (x : Int) : bOr .i64 x 4 = IntKind.wrap .i64 (x - lo3 x + ((lo3 x ||| 4 : Nat) : Int)) := bOr_lit x 4 (by decide)
theorem cl2 (x : Int) : bAnn .i64 x 2 = IntKind.wrap .i64 (x - lo3 x + ((lo3 x &&& 5 : Nat) : Int)) := bAnn_lit x 2 (by decide)
theorem l1 (x : Int) : lo3 (IntKind.wrap .i64 (x - lo3 x + ((lo3 x ||| 1 : Nat) : Int))) = lo3 x ||| 1 := lo3_shift x _ (Nat.or_lt_two_pow (n := 3) (lo3_lt x) (by decide))
theorem l4 (x : Int) : lo3 (IntKind.wrap .i64 (x - lo3 x + ((lo3 x ||| 4 : Nat) : Int))) = lo3 x ||| 4 := lo3_shift x _ (Nat.or_lt_two_pow (n := 3) (lo3_lt x) (by decide))
theorem lo3_mod {x : Int} {r : Nat} (h : lo3 x = r) : x % 8 = r := by unfold lo3 at h; omega
theorem lo3_cases (x : Int) : lo3 x = 0 ∨ lo3 x = 1 ∨ lo3 x = 2 ∨ lo3 x = 3 ∨ lo3 x = 4 ∨ lo3 x = 5 ∨ lo3 x = 6 ∨ lo3 x = 7 := by have := lo3_lt x; omega
theorem and1 : ∀ r, r < 8 → (!decide (((r &&& 1 : Nat) : Int) = 0)) = decide (r / 2 ^ 0 % 2 = 1) := by decide
theorem a4 (x : Int) : ((lo3 x &&& 4 : Nat) : Int) = if KeepBit x 2 = true then 4 else 0 := by
  rcases lo3_cases x with h | h | h | h | h | h | h | h <;> simp [h, KeepBit]
theorem a1n (x : Int) : (!decide (((lo3 x &&& 1 : Nat) : Int) = 0)) = KeepBit x 0 := by
  rcases lo3_cases x with h | h | h | h | h | h | h | h <;> simp [h, KeepBit]
theorem a5 (x : Int) : decide (((lo3 x &&& 5 : Nat) : Int) = 0) = (!KeepBit x 0 && !KeepBit x 2) := by
  rcases lo3_cases x with h | h | h | h | h | h | h | h <;> simp [h, KeepBit]
theorem a7 (x : Int) : (!decide (((lo3 x &&& 7 : Nat) : Int) = 0)) = (KeepBit x 0 || (KeepBit x 1 || KeepBit x 2)) := by
  rcases lo3_cases x with h | h | h | h | h | h | h | h <;> simp [h, KeepBit]
theorem a4n (x : Int) : (!decide (((lo3 x &&& 4 : Nat) : Int) = 0)) = KeepBit x 2 := by
  rcases lo3_cases x with h | h | h | h | h | h | h | h <;> simp [h, KeepBit]
theorem m4 (x : Int) (h : KeepBit x 0 = true) : KeepBit (IntKind.wrap .i64 (x - 1)) 2 = KeepBit x 2 := by
  have e : lo3 (IntKind.wrap .i64 (x - 1)) = lo3 x - 1 := by
    rcases lo3_cases x with h' | h' | h' | h' | h' | h' | h' | h' <;> have := lo3_mod h' <;> simp [KeepBit, h'] at h <;> rw [h'] <;> unfold lo3 <;> simp only [IntKind.wrap_i64] <;> omega
  unfold KeepBit
  rw [e]
  rcases lo3_cases x with h' | h' | h' | h' | h' | h' | h' | h' <;> simp [KeepBit, h'] at h <;> simp [h']
theorem wr11 (n : Int) : IntKind.wrap .i64 (IntKind.wrap .i64 (n - 7) - 4) = IntKind.wrap .i64 (n - 11) := by simp only [IntKind.wrap_i64]; omega
theorem wr7 (n : Int) : IntKind.wrap .i64 (n + -7) = IntKind.wrap .i64 (n - 7) := rfl
end SY
end Go.Proofs.Ytegdbpbafdpkfaa
