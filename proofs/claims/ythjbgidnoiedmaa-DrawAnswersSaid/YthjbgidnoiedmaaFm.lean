/- Whole numbers and floats of 64 bits: the nearest one, and the way back. No condition. -/
import Derived.Test.YthjbgidnoiedmaaFl
namespace Go.Proofs.Ythjbgidnoiedmaa
open Go.RowKit
namespace SY
set_option linter.unusedVariables false
set_option exponentiation.threshold 2000

/-- To the nearest one, and between two to the even one: how many units. -/
def rnd (n d : Nat) : Nat := n / 2 ^ d + (decide (2 ^ d < 2 * (n % 2 ^ d)) || (2 ^ d == 2 * (n % 2 ^ d) && n / 2 ^ d % 2 == 1)).toNat
/-- The rung of a whole number. -/
def rgI (m : Nat) : Nat := if m = 0 then 0 else (m.log2 + 1022) * 4503599627370496 + rnd (m <<< (52 - m.log2)) (m.log2 - 52)

theorem log2_lt {m k : Nat} (h0 : 0 < m) (h : m < 2 ^ k) : m.log2 < k := (Nat.log2_lt (by omega)).2 h
theorem log2_pow {m : Nat} (h0 : 0 < m) : 2 ^ m.log2 ≤ m ∧ m < 2 ^ (m.log2 + 1) := ⟨Nat.log2_self_le (by omega), Nat.lt_log2_self⟩
theorem rnd_zero (n : Nat) : rnd n 0 = n := by
  unfold rnd
  simp [Nat.mod_one]
theorem rnd_le {n d : Nat} : n / 2 ^ d ≤ rnd n d ∧ rnd n d ≤ n / 2 ^ d + 1 := by
  unfold rnd
  have : ∀ b : Bool, b.toNat ≤ 1 := fun b => by cases b <;> decide
  have := this (decide (2 ^ d < 2 * (n % 2 ^ d)) || (2 ^ d == 2 * (n % 2 ^ d) && n / 2 ^ d % 2 == 1))
  omega
theorem rnd_mono {a b d : Nat} (h : a ≤ b) : rnd a d ≤ rnd b d := by
  have h1 : a / 2 ^ d ≤ b / 2 ^ d := Nat.div_le_div_right h
  rcases Nat.lt_or_eq_of_le h1 with h1 | h1
  · have := (rnd_le (n := a) (d := d)).2
    have := (rnd_le (n := b) (d := d)).1
    omega
  · unfold rnd
    have ha := Nat.div_add_mod a (2 ^ d)
    have hb := Nat.div_add_mod b (2 ^ d)
    rw [h1] at ha ⊢
    have hr : a % 2 ^ d ≤ b % 2 ^ d := by omega
    generalize a % 2 ^ d = x at *
    generalize b % 2 ^ d = y at *
    generalize 2 ^ d = g at *
    by_cases c1 : g < 2 * x
    · have c2 : g < 2 * y := by omega
      simp [c1, c2]
    · by_cases c2 : g = 2 * x
      · by_cases c3 : g < 2 * y
        · simp [c3]; cases ((g == 2 * x) && (b / g % 2 == 1)) <;> simp [c1]
        · have : g = 2 * y := by omega
          have e : x = y := by omega
          rw [e]; exact Nat.le_refl _
      · have c3 : (g == 2 * x) = false := by simpa using c2
        simp [c1, c3]
/-- It lies within its own binade, or begins the next one. -/
theorem kept_in {m : Nat} (h0 : 0 < m) : 4503599627370496 ≤ rnd (m <<< (52 - m.log2)) (m.log2 - 52) ∧ rnd (m <<< (52 - m.log2)) (m.log2 - 52) ≤ 9007199254740992 := by
  obtain ⟨h1, h2⟩ := log2_pow h0
  rw [Nat.shiftLeft_eq]
  rcases Nat.lt_or_ge 52 m.log2 with h | h
  · rw [show 52 - m.log2 = 0 by omega, Nat.pow_zero, Nat.mul_one]
    have hd : 2 ^ m.log2 = 2 ^ 52 * 2 ^ (m.log2 - 52) := by rw [← Nat.pow_add]; congr 1; omega
    have hd' : 2 ^ (m.log2 + 1) = 2 ^ 53 * 2 ^ (m.log2 - 52) := by rw [← Nat.pow_add]; congr 1; omega
    have hp := Nat.two_pow_pos (m.log2 - 52)
    have q1 : 2 ^ 52 ≤ m / 2 ^ (m.log2 - 52) := by rw [Nat.le_div_iff_mul_le hp]; omega
    have q2 : m / 2 ^ (m.log2 - 52) < 2 ^ 53 := by rw [Nat.div_lt_iff_lt_mul hp]; omega
    have := rnd_le (n := m) (d := m.log2 - 52)
    omega
  · rw [show m.log2 - 52 = 0 by omega, rnd_zero]
    have hd : 2 ^ 52 = 2 ^ m.log2 * 2 ^ (52 - m.log2) := by rw [← Nat.pow_add]; congr 1; omega
    have hd' : 2 ^ 53 = 2 ^ (m.log2 + 1) * 2 ^ (52 - m.log2) := by rw [← Nat.pow_add]; congr 1; omega
    have q1 := Nat.mul_le_mul_right (2 ^ (52 - m.log2)) h1
    have q2 := Nat.mul_lt_mul_of_pos_right h2 (Nat.two_pow_pos (52 - m.log2))
    omega
theorem rgI_mono {a b : Nat} (h : a ≤ b) : rgI a ≤ rgI b := by
  unfold rgI
  by_cases ha : a = 0
  · rw [if_pos ha]; exact Nat.zero_le _
  · have hb : b ≠ 0 := by omega
    rw [if_neg ha, if_neg hb]
    have ka := kept_in (show 0 < a by omega)
    have kb := kept_in (show 0 < b by omega)
    have hl : a.log2 ≤ b.log2 := by
      rcases Nat.lt_or_ge b.log2 a.log2 with h' | h'
      · have h1 := (log2_pow (show 0 < a by omega)).1
        have h2 := (log2_pow (show 0 < b by omega)).2
        have := Nat.pow_le_pow_right (show 0 < 2 by decide) (show b.log2 + 1 ≤ a.log2 by omega)
        omega
      · exact h'
    rcases Nat.lt_or_eq_of_le hl with hl | hl
    · have : (a.log2 + 1022) * 4503599627370496 + 4503599627370496 ≤ (b.log2 + 1022) * 4503599627370496 := by
        have : a.log2 + 1022 + 1 ≤ b.log2 + 1022 := by omega
        have := Nat.mul_le_mul_right 4503599627370496 this
        rw [Nat.add_mul, Nat.one_mul] at this
        exact this
      exact Nat.le_trans (Nat.add_le_add_left ka.2 _) (Nat.le_trans (by rw [show (9007199254740992 : Nat) = 4503599627370496 + 4503599627370496 from rfl, ← Nat.add_assoc]; exact Nat.add_le_add_right this _) (Nat.add_le_add_left kb.1 _))
    · rw [hl]
      apply Nat.add_le_add_left
      apply rnd_mono
      rw [Nat.shiftLeft_eq, Nat.shiftLeft_eq]
      exact Nat.mul_le_mul_right _ h
theorem rgI_le {m : Nat} (h : m ≤ 18446744073709551616) : rgI m ≤ 4895412794951729152 := by
  refine Nat.le_trans (rgI_mono h) ?_
  decide
/-- What the model gives. -/
theorem i2f_eq (n : Int) (h : n.natAbs ≤ 18446744073709551616) : KeepI2F n = if n < 0 then 9223372036854775808 + rgI n.natAbs else rgI n.natAbs := by
  unfold KeepI2F FloatKind.nearest FloatKind.encode
  show Ieee.double.nearest (decide (n < 0)) n.natAbs 0 = _
  have e1 : Ieee.double.signWeight = 9223372036854775808 := by decide
  have e2 : Ieee.double.binade = 4503599627370496 := by decide
  have e3 : Ieee.double.infRung = 9218868437227405312 := by decide
  have e4 : Ieee.double.leastPlace = -1074 := by decide
  have e5 : Ieee.double.fractionBits = 52 := rfl
  have hle := rgI_le h
  unfold Ieee.Format.nearest Ieee.Format.word
  simp only [e1, e2, e3, e4, e5]
  by_cases h0 : n.natAbs = 0
  · rw [if_pos h0, if_neg (by simp; omega), if_neg (by omega), h0]; rfl
  · rw [if_neg h0]
    have hm : max (0 + (n.natAbs.log2 : Int) - (52 : Nat)) (-1074) = (n.natAbs.log2 : Int) - 52 := by omega
    rw [hm]
    have q1 : (0 - ((n.natAbs.log2 : Int) - 52)).toNat = 52 - n.natAbs.log2 := by omega
    have q2 : ((n.natAbs.log2 : Int) - 52 - 0).toNat = n.natAbs.log2 - 52 := by omega
    have q3 : ((n.natAbs.log2 : Int) - 52 - -1074).toNat = n.natAbs.log2 + 1022 := by omega
    rw [q1, q2, q3]
    have hcut : Ieee.Toward.even.cut (decide (n < 0)) (n.natAbs <<< (52 - n.natAbs.log2)) (n.natAbs.log2 - 52) = rnd (n.natAbs <<< (52 - n.natAbs.log2)) (n.natAbs.log2 - 52) := by
      unfold Ieee.Toward.cut rnd
      have hmin : min (n.natAbs.log2 - 52) ((n.natAbs <<< (52 - n.natAbs.log2)).log2 + 2) = n.natAbs.log2 - 52 := by
        rcases Nat.lt_or_ge 52 n.natAbs.log2 with h | h
        · rw [show 52 - n.natAbs.log2 = 0 by omega, Nat.shiftLeft_zero]; omega
        · omega
      simp only [hmin, Nat.one_shiftLeft]
    rw [hcut]
    have hr : (n.natAbs.log2 + 1022) * 4503599627370496 + rnd (n.natAbs <<< (52 - n.natAbs.log2)) (n.natAbs.log2 - 52) = rgI n.natAbs := by unfold rgI; rw [if_neg h0]
    rw [hr, Nat.min_eq_left (by omega)]
    simp only [decide_eq_true_eq]
/-- Up to 2^53 nothing is lost. -/
theorem V_rgI {m : Nat} (h : m ≤ 9007199254740992) : V (rgI m) = m * 2 ^ 1074 := by
  unfold rgI
  by_cases h0 : m = 0
  · rw [if_pos h0, h0, Nat.zero_mul]; rfl
  · rw [if_neg h0]
    have hp : 0 < m := by omega
    obtain ⟨k1, k2⟩ := kept_in hp
    by_cases he : m = 9007199254740992
    · subst he
      rw [show (9007199254740992 : Nat).log2 = 53 from by decide]
      have : rnd (9007199254740992 <<< (52 - 53)) (53 - 52) = 4503599627370496 := by decide
      rw [this]
      unfold V
      rw [if_neg (by omega), show ((53 + 1022) * 4503599627370496 + 4503599627370496) % 4503599627370496 = 0 by decide, show ((53 + 1022) * 4503599627370496 + 4503599627370496) / 4503599627370496 - 1 = 1075 by decide]
    · have hl : m.log2 < 53 := log2_lt hp (by omega)
      rw [show m.log2 - 52 = 0 by omega, rnd_zero, Nat.shiftLeft_eq] at *
      obtain ⟨p1, p2⟩ := log2_pow hp
      have hz : m * 2 ^ (52 - m.log2) < 9007199254740992 := by
        have hd' : 2 ^ 53 = 2 ^ (m.log2 + 1) * 2 ^ (52 - m.log2) := by rw [← Nat.pow_add]; congr 1; omega
        have q2 := Nat.mul_lt_mul_of_pos_right p2 (Nat.two_pow_pos (52 - m.log2))
        omega
      unfold V
      generalize hzz : m * 2 ^ (52 - m.log2) = z at *
      have e1 : ((m.log2 + 1022) * 4503599627370496 + z) / 4503599627370496 = m.log2 + 1023 := by omega
      have e2 : ((m.log2 + 1022) * 4503599627370496 + z) % 4503599627370496 = z - 4503599627370496 := by omega
      rw [if_neg (by omega), e1, e2, show 4503599627370496 + (z - 4503599627370496) = z by omega, ← hzz, Nat.mul_assoc, ← Nat.pow_add, show 52 - m.log2 + (m.log2 + 1023 - 1) = 1074 by omega]

/-! ### The way back -/
theorem cut_zero (s : Bool) (n d : Nat) : Ieee.Toward.zero.cut s n d = n / 2 ^ d := by
  unfold Ieee.Toward.cut
  simp only [Nat.one_shiftLeft, Bool.toNat_false, Nat.add_zero]
  rcases Nat.le_total d (n.log2 + 2) with h | h
  · rw [Nat.min_eq_left h]
  · rw [Nat.min_eq_right h]
    have hn : n < 2 ^ (n.log2 + 2) := Nat.lt_of_lt_of_le Nat.lt_log2_self (Nat.pow_le_pow_right (by decide) (by omega))
    have hn' : n < 2 ^ d := Nat.lt_of_lt_of_le hn (Nat.pow_le_pow_right (by decide) h)
    rw [Nat.div_eq_of_lt hn, Nat.div_eq_of_lt hn']
theorem cut_up (s : Bool) (n d : Nat) (hs : s = false) : Ieee.Toward.up.cut s n d = n / 2 ^ d + (if n % 2 ^ d = 0 then 0 else 1) := by
  subst hs
  unfold Ieee.Toward.cut
  simp only [Nat.one_shiftLeft, Bool.not_false, Bool.true_and]
  rcases Nat.le_total d (n.log2 + 2) with h | h
  · rw [Nat.min_eq_left h]
    by_cases c : n % 2 ^ d = 0
    · simp [c]
    · simp [c]
  · rw [Nat.min_eq_right h]
    have hn : n < 2 ^ (n.log2 + 2) := Nat.lt_of_lt_of_le Nat.lt_log2_self (Nat.pow_le_pow_right (by decide) (by omega))
    have hn' : n < 2 ^ d := Nat.lt_of_lt_of_le hn (Nat.pow_le_pow_right (by decide) h)
    rw [Nat.div_eq_of_lt hn, Nat.div_eq_of_lt hn', Nat.mod_eq_of_lt hn, Nat.mod_eq_of_lt hn']
    by_cases c : n = 0
    · simp [c]
    · simp [c]
theorem scale_div (m k : Nat) : (m <<< ((-1074 + (k : Int)).toNat)) / 2 ^ ((-(-1074 + (k : Int))).toNat) = m * 2 ^ k / 2 ^ 1074 ∧ ((m <<< ((-1074 + (k : Int)).toNat)) % 2 ^ ((-(-1074 + (k : Int))).toNat) = 0 ↔ m * 2 ^ k % 2 ^ 1074 = 0) := by
  rw [Nat.shiftLeft_eq]
  rcases Nat.le_total 1074 k with h | h
  · rw [show (-(-1074 + (k : Int))).toNat = 0 by omega, show (-1074 + (k : Int)).toNat = k - 1074 by omega, Nat.pow_zero, Nat.div_one, Nat.mod_one]
    have e : m * 2 ^ k = m * 2 ^ (k - 1074) * 2 ^ 1074 := by rw [Nat.mul_assoc, ← Nat.pow_add]; congr 2; omega
    rw [e, Nat.mul_div_cancel _ (Nat.two_pow_pos _), Nat.mul_mod_left]
    exact ⟨rfl, Iff.rfl⟩
  · rw [show (-(-1074 + (k : Int))).toNat = 1074 - k by omega, show (-1074 + (k : Int)).toNat = 0 by omega, Nat.pow_zero, Nat.mul_one]
    have e : 2 ^ 1074 = 2 ^ (1074 - k) * 2 ^ k := by rw [← Nat.pow_add]; congr 1; omega
    rw [e, Nat.mul_div_mul_right _ _ (Nat.two_pow_pos _), Nat.mul_mod_mul_right]
    refine ⟨rfl, ?_⟩
    have := Nat.two_pow_pos k
    constructor
    · intro h; rw [h, Nat.zero_mul]
    · intro h; rcases Nat.mul_eq_zero.1 h with h | h
      · exact h
      · omega
/-- A word's whole part. -/
def whole (a : Nat) : Nat := V (a % 9223372036854775808) / 2 ^ 1074
theorem toInt_num {a : Nat} (h : a % 9223372036854775808 < infR) : (FloatKind.f64.decode a).toInt .zero = some (if a / 9223372036854775808 % 2 = 1 then -(whole a : Int) else (whole a : Int)) := by
  obtain ⟨m, k, e, hv⟩ := read_num h
  show (Ieee.double.read a).toInt .zero = _
  rw [e]
  simp only [Ieee.Datum.toInt, Ieee.Datum.integral, cut_zero, signed_eq, Nat.pow_zero, Nat.mul_one]
  rw [(scale_div m k).1, hv]
  unfold whole
  simp only [beq_iff_eq]
theorem f2i_num {a : Nat} {i : Int} (h : a % 9223372036854775808 < infR) (hi : i = if a / 9223372036854775808 % 2 = 1 then -(whole a : Int) else (whole a : Int)) (h0 : -9223372036854775808 ≤ i) (h1 : i ≤ 9223372036854775807) :
    KeepF2Ik .i64 a = true ∧ KeepF2I .i64 a = i := by
  have e : floatToIntVal .f64 a .i64 = some i := by
    unfold floatToIntVal
    rw [toInt_num h, ← hi]
    simp only
    rw [if_pos ⟨h0, h1⟩]
  unfold KeepF2Ik KeepF2I
  rw [e]; exact ⟨rfl, rfl⟩
end SY
end Go.Proofs.Ythjbgidnoiedmaa
