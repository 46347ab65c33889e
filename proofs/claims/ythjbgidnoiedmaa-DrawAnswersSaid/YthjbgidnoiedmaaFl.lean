/- Floats of 64 bits, by their words. No condition. -/
import Derived.Test.YthjbgidnoiedmaaSyV
namespace Go.Proofs.Ythjbgidnoiedmaa
open Go.RowKit
namespace SY
set_option linter.unusedVariables false

def infR : Nat := 9218868437227405312
/-- Is a word one that is none? -/
def isN (a : Nat) : Bool := decide (infR < a % 9223372036854775808)
/-- A word's place, with its sign. -/
def sk (a : Nat) : Int := if a / 9223372036854775808 % 2 = 1 then -((a % 9223372036854775808 : Nat) : Int) else (a % 9223372036854775808 : Nat)
/-- A rung's number, in units of the least one. -/
def V (r : Nat) : Nat := if r < 4503599627370496 then r else (4503599627370496 + r % 4503599627370496) * 2 ^ (r / 4503599627370496 - 1)

theorem V_succ (r : Nat) : V r < V (r + 1) := by
  unfold V
  by_cases h1 : r + 1 < 4503599627370496
  · rw [if_pos (by omega), if_pos h1]; omega
  · rw [if_neg h1]
    by_cases h2 : r < 4503599627370496
    · rw [if_pos h2]
      obtain rfl : r = 4503599627370495 := by omega
      decide
    · rw [if_neg h2]
      by_cases h3 : (r + 1) % 4503599627370496 = 0
      · have e1 : r % 4503599627370496 = 4503599627370495 := by omega
        have e2 : (r + 1) / 4503599627370496 - 1 = (r / 4503599627370496 - 1) + 1 := by omega
        rw [e1, h3, e2, Nat.pow_succ]
        have := Nat.two_pow_pos (r / 4503599627370496 - 1)
        generalize 2 ^ (r / 4503599627370496 - 1) = c at *
        omega
      · have e1 : (r + 1) % 4503599627370496 = r % 4503599627370496 + 1 := by omega
        have e2 : (r + 1) / 4503599627370496 = r / 4503599627370496 := by omega
        rw [e1, e2]
        exact Nat.mul_lt_mul_of_pos_right (by omega) (Nat.two_pow_pos _)
theorem V_lt {r s : Nat} (h : r < s) : V r < V s := by
  induction s with
  | zero => omega
  | succ s ih =>
    rcases Nat.lt_or_ge r s with h' | h'
    · exact Nat.lt_trans (ih h') (V_succ s)
    · obtain rfl : r = s := by omega
      exact V_succ r
theorem V_zero : V 0 = 0 := rfl

/-- What a word that is a number stands for. -/
theorem read_num {a : Nat} (h : a % 9223372036854775808 < infR) : ∃ m k : Nat, Ieee.double.read a = .number (a / 9223372036854775808 % 2 == 1) m (-1074 + (k : Int)) ∧ m * 2 ^ k = V (a % 9223372036854775808) := by
  have e1 : Ieee.double.signWeight = 9223372036854775808 := by decide
  have e2 : Ieee.double.binade = 4503599627370496 := by decide
  have e3 : Ieee.double.infRung = infR := by decide
  have e4 : Ieee.double.leastPlace = -1074 := by decide
  unfold Ieee.Format.read V
  simp only [e1, e2, e3, e4]
  by_cases hb : a % 9223372036854775808 < 4503599627370496
  · rw [if_pos hb, if_pos hb]
    exact ⟨a % 9223372036854775808, 0, by simp, by simp⟩
  · rw [if_neg hb, if_pos h, if_neg hb]
    exact ⟨_, _, rfl, rfl⟩
theorem read_inf {a : Nat} (h : a % 9223372036854775808 = infR) : Ieee.double.read a = .infinity (a / 9223372036854775808 % 2 == 1) := by
  have e1 : Ieee.double.signWeight = 9223372036854775808 := by decide
  have e2 : Ieee.double.binade = 4503599627370496 := by decide
  have e3 : Ieee.double.infRung = infR := by decide
  unfold Ieee.Format.read
  simp only [e1, e2, e3, h]
  rw [if_neg (by decide), if_neg (by decide)]
  rfl
theorem read_nan {a : Nat} (h : infR < a % 9223372036854775808) : ∃ s t, Ieee.double.read a = .nan s t ∧ t = a % 9223372036854775808 - infR := by
  have e1 : Ieee.double.signWeight = 9223372036854775808 := by decide
  have e2 : Ieee.double.binade = 4503599627370496 := by decide
  have e3 : Ieee.double.infRung = infR := by decide
  unfold Ieee.Format.read
  simp only [e1, e2, e3]
  unfold infR at *
  rw [if_neg (by omega), if_neg (by omega), if_neg (by omega)]
  exact ⟨_, _, rfl, rfl⟩

theorem compare_int (a b : Int) : compare a b = if a < b then .lt else if a = b then .eq else .gt := rfl
theorem compare_scale (a b : Int) (c : Nat) (hc : 0 < c) : compare (a * c) (b * c) = compare a b := by
  have hc : (0 : Int) < c := by omega
  rw [compare_int, compare_int]
  have h1 : a * c < b * c ↔ a < b := ⟨fun h => Int.lt_of_mul_lt_mul_right h (Int.le_of_lt hc), fun h => Int.mul_lt_mul_of_pos_right h hc⟩
  have h2 : a * c = b * c ↔ a = b := ⟨fun h => Int.eq_of_mul_eq_mul_right (by omega) h, fun h => by rw [h]⟩
  simp only [h1, h2]

theorem signed_eq (s : Bool) (m k : Nat) : Ieee.signed s m k = if s then -((m * 2 ^ k : Nat) : Int) else ((m * 2 ^ k : Nat) : Int) := by
  unfold Ieee.signed
  rw [Nat.shiftLeft_eq]
theorem signed_scale (s : Bool) (m k c : Nat) : Ieee.signed s m k * (2 ^ c : Nat) = Ieee.signed s m (k + c) := by
  rw [signed_eq, signed_eq, Nat.pow_add, ← Nat.mul_assoc]
  cases s
  · simp
  · simp only [if_true]; rw [Int.neg_mul, ← Int.natCast_mul]

def skV (a : Nat) : Int := if a / 9223372036854775808 % 2 = 1 then -((V (a % 9223372036854775808) : Nat) : Int) else (V (a % 9223372036854775808) : Nat)
theorem cmp_congr {a b c d : Int} (h1 : a < b ↔ c < d) (h2 : a = b ↔ c = d) : compare a b = compare c d := by
  rw [compare_int, compare_int]; simp only [h1, h2]
theorem skV_sk (a b : Nat) : compare (skV a) (skV b) = compare (sk a) (sk b) := by
  unfold skV sk
  have key : ∀ {r s : Nat}, r < s → V r < V s := V_lt
  generalize hx : a % 9223372036854775808 = x
  generalize hy : b % 9223372036854775808 = y
  have hxy : (V x < V y ∧ x < y) ∨ (V x = V y ∧ x = y) ∨ (V y < V x ∧ y < x) := by
    rcases Nat.lt_trichotomy x y with h | h | h
    · exact .inl ⟨key h, h⟩
    · exact .inr (.inl ⟨by rw [h], h⟩)
    · exact .inr (.inr ⟨key h, h⟩)
  have hx0 : (V x = 0 ∧ x = 0) ∨ (0 < V x ∧ 0 < x) := by
    rcases Nat.eq_zero_or_pos x with h | h
    · exact .inl ⟨by rw [h]; rfl, h⟩
    · exact .inr ⟨key h, h⟩
  have hy0 : (V y = 0 ∧ y = 0) ∨ (0 < V y ∧ 0 < y) := by
    rcases Nat.eq_zero_or_pos y with h | h
    · exact .inl ⟨by rw [h]; rfl, h⟩
    · exact .inr ⟨key h, h⟩
  clear hx hy key
  split <;> split <;> exact cmp_congr (by omega) (by omega)

theorem order_num {a b : Nat} (ha : a % 9223372036854775808 < infR) (hb : b % 9223372036854775808 < infR) : Ieee.double.order a b = some (compare (sk a) (sk b)) := by
  obtain ⟨m, k, h1, h2⟩ := read_num ha
  obtain ⟨n, l, h3, h4⟩ := read_num hb
  unfold Ieee.Format.order
  rw [h1, h3]
  simp only [Ieee.Datum.order]
  congr 1
  have e1 : (-1074 + (k : Int) - min (-1074 + (k : Int)) (-1074 + (l : Int))).toNat = k - min k l := by omega
  have e2 : (-1074 + (l : Int) - min (-1074 + (k : Int)) (-1074 + (l : Int))).toNat = l - min k l := by omega
  rw [e1, e2, ← compare_scale _ _ (2 ^ (min k l)) (Nat.two_pow_pos _), signed_scale, signed_scale, Nat.sub_add_cancel (Nat.min_le_left k l), Nat.sub_add_cancel (Nat.min_le_right k l), signed_eq, signed_eq, h2, h4, ← skV_sk]
  unfold skV
  simp only [beq_iff_eq]
theorem sk_lt {a : Nat} (ha : a % 9223372036854775808 < infR) : -(infR : Int) < sk a ∧ sk a < infR := by
  unfold sk; split <;> omega
theorem sk_inf {a : Nat} (h : a % 9223372036854775808 = infR) : sk a = if a / 9223372036854775808 % 2 = 1 then -(infR : Int) else infR := by unfold sk; rw [h]
theorem order_eq {a b : Nat} (ha : isN a = false) (hb : isN b = false) : Ieee.double.order a b = some (compare (sk a) (sk b)) := by
  simp only [isN, decide_eq_false_iff_not] at ha hb
  by_cases h1 : a % 9223372036854775808 < infR
  · by_cases h2 : b % 9223372036854775808 < infR
    · exact order_num h1 h2
    · have h2 : b % 9223372036854775808 = infR := by omega
      obtain ⟨m, k, e1, _⟩ := read_num h1
      unfold Ieee.Format.order
      rw [e1, read_inf h2]
      have := sk_lt h1
      have hs := sk_inf h2
      simp only [Ieee.Datum.order, compare_int, beq_iff_eq]
      by_cases hc : b / 9223372036854775808 % 2 = 1
      · rw [if_pos hc] at hs
        rw [if_pos hc, if_neg (by omega), if_neg (by omega)]
      · rw [if_neg hc] at hs
        rw [if_neg hc, if_pos (by omega)]
  · have h1 : a % 9223372036854775808 = infR := by omega
    have hs := sk_inf h1
    by_cases h2 : b % 9223372036854775808 < infR
    · obtain ⟨m, k, e1, _⟩ := read_num h2
      unfold Ieee.Format.order
      rw [e1, read_inf h1]
      have := sk_lt h2
      simp only [Ieee.Datum.order, compare_int, beq_iff_eq]
      by_cases hc : a / 9223372036854775808 % 2 = 1
      · rw [if_pos hc] at hs
        rw [if_pos hc, if_pos (by omega)]
      · rw [if_neg hc] at hs
        rw [if_neg hc, if_neg (by omega), if_neg (by omega)]
    · have h2 : b % 9223372036854775808 = infR := by omega
      have ht := sk_inf h2
      unfold Ieee.Format.order
      rw [read_inf h1, read_inf h2, hs, ht]
      simp only [Ieee.Datum.order]
      have z : ∀ x : Nat, x % 2 ≠ 1 → (x % 2 == 1) = false := fun x h => by simpa using h
      by_cases hc : a / 9223372036854775808 % 2 = 1
      · by_cases hd : b / 9223372036854775808 % 2 = 1
        · rw [if_pos hc, if_pos hd, hc, hd]; decide
        · rw [if_pos hc, if_neg hd, hc, z _ hd]; decide
      · by_cases hd : b / 9223372036854775808 % 2 = 1
        · rw [if_neg hc, if_pos hd, z _ hc, hd]; decide
        · rw [if_neg hc, if_neg hd, z _ hc, z _ hd]; decide
theorem order_nan {a b : Nat} (h : isN a = true ∨ isN b = true) : Ieee.double.order a b = none := by
  simp only [isN, decide_eq_true_eq] at h
  unfold Ieee.Format.order
  rcases h with h | h
  · obtain ⟨s, t, e, _⟩ := read_nan h
    rw [e]; rfl
  · obtain ⟨s, t, e, _⟩ := read_nan h
    rw [e]
    cases Ieee.double.read a <;> rfl

/-! ### Comparisons -/
theorem cmp_lt (x y : Int) : ((some (compare x y) : Option Ordering) == some .lt) = decide (x < y) := by
  rw [compare_int]; split
  · simp [*]
  · split <;> simp [*]
theorem cmp_eq (x y : Int) : ((some (compare x y) : Option Ordering) == some .eq) = decide (x = y) := by
  rw [compare_int]; split
  · simp; omega
  · split <;> simp [*]
theorem cmp_gt (x y : Int) : ((some (compare x y) : Option Ordering) == some .gt) = decide (y < x) := by
  rw [compare_int]; split
  · simp; omega
  · split
    · simp; omega
    · simp; omega
theorem fo_lss (a b : Nat) : KeepFo .lss a b = (!isN a && (!isN b && decide (sk a < sk b))) := by
  unfold KeepFo
  cases ha : isN a
  · cases hb : isN b
    · simp only [order_eq ha hb, cmp_lt]; rfl
    · simp only [order_nan (.inr hb)]; rfl
  · simp only [order_nan (.inl ha)]; rfl
theorem fo_gtr (a b : Nat) : KeepFo .gtr a b = (!isN a && (!isN b && decide (sk b < sk a))) := by
  unfold KeepFo
  cases ha : isN a
  · cases hb : isN b
    · simp only [order_eq ha hb, cmp_gt]; rfl
    · simp only [order_nan (.inr hb)]; rfl
  · simp only [order_nan (.inl ha)]; rfl
theorem fo_geq (a b : Nat) : KeepFo .geq a b = (!isN a && (!isN b && decide (sk b ≤ sk a))) := by
  unfold KeepFo
  cases ha : isN a
  · cases hb : isN b
    · simp only [order_eq ha hb, cmp_gt, cmp_eq, Bool.not_false, Bool.true_and]
      rw [← Bool.decide_or]
      apply decide_eq_decide.2
      omega
    · simp only [order_nan (.inr hb)]; rfl
  · simp only [order_nan (.inl ha)]; rfl
theorem fo_eql (a b : Nat) : KeepFo .eql a b = (!isN a && (!isN b && decide (sk a = sk b))) := by
  unfold KeepFo
  cases ha : isN a
  · cases hb : isN b
    · simp only [order_eq ha hb, cmp_eq]; rfl
    · simp only [order_nan (.inr hb)]; rfl
  · simp only [order_nan (.inl ha)]; rfl
theorem fo_neq (a b : Nat) : KeepFo .neq a b = !(KeepFo .eql a b) := by
  unfold KeepFo; rfl
theorem fo_self (a : Nat) : KeepFo .neq a a = isN a := by
  rw [fo_neq, fo_eql]
  cases isN a <;> simp
theorem nanW_isN {r : Nat} (h : nanW r) : isN r = true := by
  simp only [isN, decide_eq_true_eq]; exact h.1
end SY
end Go.Proofs.Ythjbgidnoiedmaa
