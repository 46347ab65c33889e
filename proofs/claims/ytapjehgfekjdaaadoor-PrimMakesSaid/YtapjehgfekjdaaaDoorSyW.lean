/- Bits of whole numbers, as numbers. No condition. -/
import Derived.Test.YtapjehgfekjdaaaDoorSyU
namespace Go.Proofs.YtapjehgfekjdaaaDoor
open Go.RowKit
namespace SY

theorem sShr_eq (k : IntKind) (a b : Int) : sShr k a b = a / 2 ^ (min b.toNat k.bits) := by
  unfold sShr
  rw [Int.fdiv_eq_ediv_of_nonneg]
  exact Int.le_of_lt (Int.pow_pos (by decide))
theorem ofInt_nat {w n : Nat} (h : n < 2 ^ w) : (BitVec.ofInt w (n : Int)).toNat = n := by
  rw [BitVec.ofInt_natCast, BitVec.toNat_ofNat, Nat.mod_eq_of_lt h]
theorem ofInt_toNat (w : Nat) (x : Int) : ((BitVec.ofInt w x).toNat : Int) = x % (2 ^ w : Nat) := by
  rw [BitVec.toNat_ofInt]
  have : (0 : Int) ≤ x % ((2 ^ w : Nat) : Int) := Int.emod_nonneg _ (by have := Nat.two_pow_pos w; omega)
  rw [Int.toNat_of_nonneg this]
theorem bOr_u64 {a b : Nat} (ha : a < 18446744073709551616) (hb : b < 18446744073709551616) : bOr .u64 a b = ((a ||| b : Nat) : Int) := by
  have h : (a ||| b) < 2 ^ 64 := Nat.or_lt_two_pow ha hb
  unfold bOr
  rw [show IntKind.u64.bits = 64 from rfl, BitVec.toNat_or, ofInt_nat ha, ofInt_nat hb, IntKind.wrap_u64]
  omega
theorem bAnd_u64 {a b : Nat} (ha : a < 18446744073709551616) (hb : b < 18446744073709551616) : bAnd .u64 a b = ((a &&& b : Nat) : Int) := by
  have h : (a &&& b) < 2 ^ 64 := Nat.and_lt_two_pow _ hb
  unfold bAnd
  rw [show IntKind.u64.bits = 64 from rfl, BitVec.toNat_and, ofInt_nat ha, ofInt_nat hb, IntKind.wrap_u64]
  omega
theorem bXor_u64 {a b : Nat} (ha : a < 18446744073709551616) (hb : b < 18446744073709551616) : bXor .u64 a b = ((a ^^^ b : Nat) : Int) := by
  have h : (a ^^^ b) < 2 ^ 64 := Nat.xor_lt_two_pow ha hb
  unfold bXor
  rw [show IntKind.u64.bits = 64 from rfl, BitVec.toNat_xor, ofInt_nat ha, ofInt_nat hb, IntKind.wrap_u64]
  omega
theorem or_add {a n c : Nat} (h : a < 2 ^ n) : a ||| c * 2 ^ n = a + c * 2 ^ n := by
  have := Nat.two_pow_add_eq_or_of_lt h c
  rw [Nat.mul_comm c, Nat.or_comm, ← this, Nat.add_comm]
/-- A piece put above. -/
theorem bOr_above {x c : Int} {n : Nat} (h0 : 0 ≤ x) (h1 : x < 2 ^ n) (hc : 0 ≤ c) (hx : x < 18446744073709551616) (hm : c * 2 ^ n < 18446744073709551616) : bOr .u64 x (c * 2 ^ n) = x + c * 2 ^ n := by
  obtain ⟨a, rfl⟩ := Int.eq_ofNat_of_zero_le h0
  obtain ⟨d, rfl⟩ := Int.eq_ofNat_of_zero_le hc
  have e : ((d : Int) * 2 ^ n) = ((d * 2 ^ n : Nat) : Int) := by simp
  have h1 : a < 2 ^ n := by exact_mod_cast h1
  rw [e] at hm ⊢
  rw [bOr_u64 (by omega) (by omega), or_add h1]
  simp
theorem bAnd_one {x : Int} (h0 : 0 ≤ x) (h1 : x < 18446744073709551616) : bAnd .u64 x 1 = x % 2 := by
  obtain ⟨a, rfl⟩ := Int.eq_ofNat_of_zero_le h0
  have := bAnd_u64 (a := a) (b := 1) (by omega) (by omega)
  rw [show ((1 : Nat) : Int) = 1 from rfl] at this
  rw [this, Nat.and_one_is_mod]
  simp
theorem bXor_u64_zero {x : Int} (h0 : 0 ≤ x) (h1 : x < 18446744073709551616) : bXor .u64 x 0 = x := by
  obtain ⟨a, rfl⟩ := Int.eq_ofNat_of_zero_le h0
  have := bXor_u64 (a := a) (b := 0) (by omega) (by omega)
  rw [show ((0 : Nat) : Int) = 0 from rfl] at this
  rw [this, Nat.xor_zero]
theorem bXor_u64_ones {x : Int} (h0 : 0 ≤ x) (h1 : x < 18446744073709551616) : bXor .u64 x 18446744073709551615 = 18446744073709551615 - x := by
  obtain ⟨a, rfl⟩ := Int.eq_ofNat_of_zero_le h0
  unfold bXor
  rw [show IntKind.u64.bits = 64 from rfl, show BitVec.ofInt 64 18446744073709551615 = BitVec.allOnes 64 from by decide, BitVec.xor_allOnes, BitVec.toNat_not, ofInt_nat (by omega), IntKind.wrap_u64]
  omega
theorem bXor_i64_zero {x : Int} (h0 : -9223372036854775808 ≤ x) (h1 : x < 9223372036854775808) : bXor .i64 x 0 = x := by
  have e := ofInt_toNat 64 x
  unfold bXor
  rw [show IntKind.i64.bits = 64 from rfl, show BitVec.ofInt 64 0 = 0#64 from by decide, BitVec.xor_zero, IntKind.wrap_i64]
  omega
theorem bXor_i64_ones {x : Int} (h0 : -9223372036854775808 ≤ x) (h1 : x < 9223372036854775808) : bXor .i64 x (-1) = -x - 1 := by
  have e := ofInt_toNat 64 x
  have hlt := (BitVec.ofInt 64 x).isLt
  unfold bXor
  rw [show IntKind.i64.bits = 64 from rfl, show BitVec.ofInt 64 (-1) = BitVec.allOnes 64 from by decide, BitVec.xor_allOnes, BitVec.toNat_not, IntKind.wrap_i64]
  omega
theorem bOr_u8_128 {x : Int} (h0 : 0 ≤ x) (h1 : x < 256) : bOr .u8 x 128 = x % 128 + 128 := by
  have key : ∀ n : Fin 256, bOr .u8 (n.val : Int) 128 = (n.val : Int) % 128 + 128 := by decide +kernel
  have := key ⟨x.toNat, by omega⟩
  simpa [Int.toNat_of_nonneg h0] using this
theorem bAnd_u8_127 {x : Int} (h0 : 0 ≤ x) (h1 : x < 256) : bAnd .u8 x 127 = x % 128 := by
  have key : ∀ n : Fin 256, bAnd .u8 (n.val : Int) 127 = (n.val : Int) % 128 := by decide +kernel
  have := key ⟨x.toNat, by omega⟩
  simpa [Int.toNat_of_nonneg h0] using this
end SY
end Go.Proofs.YtapjehgfekjdaaaDoor
