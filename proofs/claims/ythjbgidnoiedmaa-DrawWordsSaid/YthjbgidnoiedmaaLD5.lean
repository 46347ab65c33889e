/- A unit. No condition. -/
import Derived.Test.YthjbgidnoiedmaaRD5
namespace Go.Proofs.Ythjbgidnoiedmaa
open SY
open Go.RowKit
set_option linter.unusedSimpArgs false
set_option linter.unusedVariables false
set_option exponentiation.threshold 2000

theorem wn5 {n : Nat} (h : n < 18446744073709551616) : IntKind.u64.wrap (n : Int) = n := by rw [IntKind.wrap_u64]; omega
theorem sh_nat5 {a b : Nat} (hb : b ≤ 64) (h : a * 2 ^ b < 18446744073709551616) : sShl .u64 (a : Int) (b : Int) = ((a * 2 ^ b : Nat) : Int) := by
  unfold sShl
  rw [show min (b : Int).toNat IntKind.u64.bits = b from by show min b 64 = b; omega, show (a : Int) * 2 ^ b = ((a * 2 ^ b : Nat) : Int) from by simp, wn5 h]
theorem low_and {l : Nat} (h : l < 9223372036854775808) : l &&& 9223372036854775808 = 0 := by
  apply Nat.eq_of_testBit_eq
  intro i
  rw [show (9223372036854775808 : Nat) = 2 ^ 63 from rfl, Nat.testBit_and, Nat.testBit_two_pow, Nat.zero_testBit]
  by_cases hi : 63 = i
  · subst hi
    rw [Nat.testBit_lt_two_pow (show l < 2 ^ 63 from h)]; rfl
  · simp [hi]
theorem log2_of {u n : Nat} (h0 : 2 ^ (n - 1) ≤ u) (hn : 0 < n) (h : u < 2 ^ n) : u.log2 = n - 1 := by
  have hu : u ≠ 0 := by have := Nat.two_pow_pos (n - 1); omega
  have a : u.log2 < n := (Nat.log2_lt hu).2 h
  have b : n - 1 ≤ u.log2 := (Nat.le_log2 hu).2 h0
  omega
theorem rg_small {u n : Nat} (hn : n ≤ 53) (hp : 0 < n) (h0 : 2 ^ (n - 1) ≤ u) (h : u < 2 ^ n) : rgI u = (n + 1022) * 4503599627370496 + u * 2 ^ (53 - n) % 4503599627370496 ∧ u * 2 ^ (53 - n) < 9007199254740992 := by
  have hl := log2_of h0 hp h
  have hu : 0 < u := by have := Nat.two_pow_pos (n - 1); omega
  have a : 4503599627370496 ≤ u * 2 ^ (53 - n) := by
    refine Nat.le_trans ?_ (Nat.mul_le_mul_right _ h0)
    rw [← Nat.pow_add, show n - 1 + (53 - n) = 52 by omega]; decide
  have b : u * 2 ^ (53 - n) < 9007199254740992 := by
    refine Nat.lt_of_lt_of_le (Nat.mul_lt_mul_of_pos_right h (Nat.two_pow_pos _)) ?_
    rw [← Nat.pow_add, show n + (53 - n) = 53 by omega]; decide
  refine ⟨?_, b⟩
  unfold rgI
  rw [if_neg (by omega), hl, show n - 1 - 52 = 0 by omega, rnd_zero, show 52 - (n - 1) = 53 - n by omega, Nat.shiftLeft_eq]
  omega

theorem fb_mul (a b : Nat) : floatBits .mul .f64 a b = ((Ieee.double.read a).product (Ieee.double.read b)).map Ieee.double.write := rfl
theorem mul_one {y : Nat} (h0 : 4503599627370496 ≤ y) (h1 : y < infR) : floatBits .mul .f64 4607182418800017408 y = some y := by
  have e1 : Ieee.double.signWeight = 9223372036854775808 := by decide
  have e2 : Ieee.double.binade = 4503599627370496 := by decide
  have e3 : Ieee.double.infRung = infR := by decide
  have e4 : Ieee.double.leastPlace = -1074 := by decide
  have e5 : Ieee.double.fractionBits = 52 := by decide
  have h1' : y < 9218868437227405312 := h1
  have r1 : Ieee.double.read 4607182418800017408 = .number false 4503599627370496 (-52) := by decide
  have r2 : Ieee.double.read y = .number false (4503599627370496 + y % 4503599627370496) (-1074 + ((y / 4503599627370496 - 1 : Nat) : Int)) := by
    unfold Ieee.Format.read
    simp only [e1, e2, e3, e4]
    rw [Nat.mod_eq_of_lt (show y < 9223372036854775808 by omega), if_neg (by omega), if_pos h1, Nat.div_eq_of_lt (show y < 9223372036854775808 by omega)]
    rfl
  rw [fb_mul, r1, r2]
  simp only [Ieee.Datum.product, Option.map_some, Bool.xor_self, Option.some.injEq]
  show Ieee.double.nearest false _ _ = y
  obtain ⟨k, hk⟩ : ∃ k, y / 4503599627370496 - 1 = k := ⟨_, rfl⟩
  obtain ⟨f, hf⟩ : ∃ f, y % 4503599627370496 = f := ⟨_, rfl⟩
  have hf' : f < 4503599627370496 := by omega
  have hy : y = (k + 1) * 4503599627370496 + f := by omega
  rw [hk, hf]
  have hl : (4503599627370496 * (4503599627370496 + f)).log2 = 104 := log2_of (n := 105) (by show 2 ^ 104 ≤ _; rw [show (2 : Nat) ^ 104 = 4503599627370496 * 4503599627370496 from by decide]; omega) (by decide) (by rw [show (2 : Nat) ^ 105 = 4503599627370496 * 9007199254740992 from by decide]; omega)
  unfold Ieee.Format.nearest
  rw [if_neg (by omega)]
  simp only [hl, e2, e3, e4, e5]
  have q1 : max (-52 + (-1074 + (k : Int)) + (104 : Nat) - (52 : Nat)) (-1074) = -1074 + k := by omega
  rw [q1, show (-52 + (-1074 + (k : Int)) - (-1074 + k)).toNat = 0 by omega, show (-1074 + (k : Int) - (-52 + (-1074 + k))).toNat = 52 by omega, show (-1074 + (k : Int) - -1074).toNat = k by omega, Nat.shiftLeft_zero]
  have q2 : Ieee.Toward.even.cut false (4503599627370496 * (4503599627370496 + f)) 52 = 4503599627370496 + f := by
    unfold Ieee.Toward.cut
    rw [hl]
    show 4503599627370496 * (4503599627370496 + f) / 4503599627370496 + _ = _
    rw [Nat.mul_div_cancel_left _ (by decide)]
    have : 4503599627370496 * (4503599627370496 + f) % (1 <<< min 52 (104 + 2)) = 0 := by
      show 4503599627370496 * (4503599627370496 + f) % 4503599627370496 = 0
      exact Nat.mul_mod_right _ _
    simp only [this]
    rfl
  rw [q2, Nat.min_eq_left (by unfold infR; omega)]
  show Ieee.double.word false _ = y
  unfold Ieee.Format.word
  rw [hy]
  simp
  omega
theorem mul_fr {y r : Nat} (h0 : 4503599627370496 ≤ y) (h1 : y < infR) (h : KeepFr (.ar .mul) 4607182418800017408 y r) : r = y := alive_fr h (mul_one h0 h1)
theorem i_and {e : Nat} (h : e < 2048) : bAnd .i64 (e : Int) 2047 = e := by
  unfold bAnd
  rw [show IntKind.i64.bits = 64 from rfl, BitVec.toNat_and, ofInt_nat (by omega), show BitVec.ofInt 64 2047 = 2047#64 from by decide, show (2047#64).toNat = 2 ^ 11 - 1 from by decide, Nat.and_two_pow_sub_one_eq_mod, IntKind.wrap_i64]
  omega
theorem inf_ann {a : Nat} (h : a < 9223372036854775808) : bAnn .u64 (a : Int) 9218868437227405312 = ((a % 4503599627370496 : Nat) : Int) := by
  unfold bAnn
  rw [show IntKind.u64.bits = 64 from rfl, BitVec.toNat_and, BitVec.toNat_not, ofInt_nat (by omega), show BitVec.ofInt 64 9218868437227405312 = 9218868437227405312#64 from by decide]
  have e : a &&& (2 ^ 64 - 1 - (9218868437227405312#64).toNat) = a % 4503599627370496 := by
    rw [show 2 ^ 64 - 1 - (9218868437227405312#64).toNat = 9223372036854775808 ||| (2 ^ 52 - 1) from by decide, Nat.and_or_distrib_left, low_and h, Nat.and_two_pow_sub_one_eq_mod, Nat.zero_or]
  rw [e, IntKind.wrap_u64]
  omega
theorem sgn_ann {a : Nat} (h : a < 9223372036854775808) : bAnn .u64 (a : Int) 9223372036854775808 = (a : Int) := by
  unfold bAnn
  rw [show IntKind.u64.bits = 64 from rfl, BitVec.toNat_and, BitVec.toNat_not, ofInt_nat (by omega), show BitVec.ofInt 64 9223372036854775808 = 9223372036854775808#64 from by decide]
  have e : a &&& (2 ^ 64 - 1 - (9223372036854775808#64).toNat) = a := by
    rw [show 2 ^ 64 - 1 - (9223372036854775808#64).toNat = 2 ^ 63 - 1 from by decide, Nat.and_two_pow_sub_one_eq_mod, Nat.mod_eq_of_lt (by omega)]
  rw [e, IntKind.wrap_u64]
  omega
/-- A unit's word. -/
def unN (m : Nat) : Nat := if m = 0 then 0 else rgI m - 238690780250636288
theorem rg_in {m : Nat} (h0 : 0 < m) (h : m < 9007199254740992) : ∃ e f, 1023 ≤ e ∧ e ≤ 1075 ∧ f < 4503599627370496 ∧ rgI m = e * 4503599627370496 + f := by
  obtain ⟨a, b⟩ := log2_pow h0
  have hl : m.log2 < 53 := log2_lt h0 h
  obtain ⟨r, _⟩ := rg_small (u := m) (n := m.log2 + 1) (by omega) (by omega) (by rw [Nat.add_sub_cancel]; exact a) b
  exact ⟨m.log2 + 1 + 1022, m * 2 ^ (53 - (m.log2 + 1)) % 4503599627370496, by omega, by omega, Nat.mod_lt _ (by decide), r⟩
def KeepUn (w : Int) : Int := (unN (w.toNat / 2048) : Nat)
theorem isN_in {y : Nat} (h : y < infR) : isN y = false := by unfold isN infR at *; apply decide_eq_false; omega
theorem sk_in {y : Nat} (h : y < infR) : sk y = y := by unfold sk infR at *; rw [if_neg (by omega)]; omega
theorem or_52 {e f : Nat} (he : e < 2048) (hf : f < 4503599627370496) : bOr .u64 (f : Int) ((e * 4503599627370496 : Nat) : Int) = ((e * 4503599627370496 + f : Nat) : Int) := by
  rw [bOr_u64 (by omega) (by omega)]
  have := or_add (a := f) (n := 52) (c := e) hf
  rw [show (4503599627370496 : Nat) = 2 ^ 52 from rfl, this]; omega
theorem unit_law {w : Int} (hw : KeepU w) : callT Try.prog hkF tab noL 10 17 [uS w] (fun u => subS (uS (KeepUn w)) u) := by
  obtain ⟨a, rfl⟩ := Int.eq_ofNat_of_zero_le hw.1
  have ha : a < 18446744073709551616 := by have := hw.2; omega
  obtain ⟨m, hm⟩ : ∃ m, a / 2048 = m := ⟨_, rfl⟩
  have hm' : m < 9007199254740992 := by omega
  have hs : sShr .u64 (a : Int) 11 = (m : Int) := by rw [sShr_eq, ← hm]; show (a : Int) / 2 ^ 11 = _; omega
  have hI : KeepI2F (m : Int) = rgI m := by rw [i2f_eq _ (by omega), if_neg (by omega)]; rfl
  have hU : KeepUn (a : Int) = (unN m : Nat) := by unfold KeepUn; rw [← hm]; rfl
  have kn : ∀ n : Nat, KeepN (n : Int) = n := fun _ => rfl
  rw [unit_res, hs, hI, hU]
  by_cases h0 : m = 0
  · subst h0
    exact br_y (by decide) ⟨rfl, rfl⟩
  · obtain ⟨e, f, e1, e2, e3, e4⟩ := rg_in (show 0 < m by omega) hm'
    have hu : unN m = (e - 53) * 4503599627370496 + f := by unfold unN; rw [if_neg h0, e4]; omega
    rw [hu]
    obtain ⟨y, hy⟩ : ∃ y, rgI m = y := ⟨_, rfl⟩
    rw [hy] at e4
    rw [hy]
    have hi : y < infR := by unfold infR; omega
    have n1 : KeepFo .eql y 0 = false := by rw [fo_eql, isN_in hi, sk_in hi, show isN 0 = false by decide, show sk 0 = 0 by decide]; simp; omega
    have n2 : KeepFo .gtr y 9218868437227405311 = false := by rw [fo_gtr, isN_in hi, sk_in hi, show isN 9218868437227405311 = false by decide, show sk 9218868437227405311 = 9218868437227405311 by decide]; simp; omega
    have n3 : KeepFo .neq y y = false := by rw [fo_self, isN_in hi]
    have n4 : KeepFo .lss y 4503599627370496 = false := by rw [fo_lss, isN_in hi, sk_in hi, show isN 4503599627370496 = false by decide, show sk 4503599627370496 = 4503599627370496 by decide]; simp; omega
    have v1 : sShr .u64 (y : Int) 52 = (e : Int) := by rw [sShr_eq]; show (y : Int) / 2 ^ 52 = _; omega
    have v2 : IntKind.i64.wrap (e : Int) = e := by rw [IntKind.wrap_i64]; omega
    have v3 : IntKind.i64.wrap (-53 + IntKind.i64.wrap ((e : Int) - 1023)) = (e : Int) - 1076 := by simp only [IntKind.wrap_i64]; omega
    have v4 : IntKind.u64.wrap (IntKind.i64.wrap ((e : Int) - 1076 + 1023)) = ((e - 53 : Nat) : Int) := by simp only [IntKind.wrap_i64, IntKind.wrap_u64]; omega
    have v5 : sShl .u64 ((e - 53 : Nat) : Int) 52 = (((e - 53) * 4503599627370496 : Nat) : Int) := sh_nat5 (b := 52) (by decide) (by omega)
    have v6 : bAnn .u64 (y : Int) 9218868437227405312 = (f : Int) := by rw [inf_ann (by unfold infR at hi; omega)]; omega
    have v7 := or_52 (e := e - 53) (f := f) (by omega) e3
    simp only [sgn_ann (show y < 9223372036854775808 by unfold infR at hi; omega), kn, n1, n2, n3, n4, br_ff, v1, v2, i_and (show e < 2048 by omega), v3, v4, v5, v6, v7]
    have b1 : decide ((e : Int) - 1076 < -1075) = false := decide_eq_false (by omega)
    have b2 : decide ((e : Int) - 1076 > 1023) = false := decide_eq_false (by omega)
    have b3 : decide ((e : Int) - 1076 < -1022) = false := decide_eq_false (by omega)
    simp only [b1, b2, b3, br_ff, true_and]
    intro r hr
    have := mul_fr (by omega) (by unfold infR; omega) hr
    rw [this]
noncomputable def hUnitV (un : Int → Int) : Hk := fun vs => match vs with
  | [a] => some (subS (uS (cI a)) a ∧ KeepU (cI a), uS (un (cI a)))
  | _ => none
theorem hkF_ok : HookOK Try.prog hkF := hkL_cons bits_ok <| hkL_cons from_ok hkL_nil
theorem unit_ok : GOK Try.prog 17 (hUnitV KeepUn) := by
  refine gokW mixed tab_ok hkF_ok fun vs s r hg hs => ?_
  unfold hUnitV at hg
  split at hg <;> try (cases hg; done)
  rename_i a
  simp only [Option.some.injEq, Prod.mk.injEq] at hg
  obtain ⟨rfl, rfl⟩ := hg
  exact ⟨noL, 10, [uS (cI a)], ⟨hs.1, trivial⟩, unit_law hs.2⟩
end Go.Proofs.Ythjbgidnoiedmaa
