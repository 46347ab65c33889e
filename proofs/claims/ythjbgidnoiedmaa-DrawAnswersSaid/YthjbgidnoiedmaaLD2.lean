/- What is drawn below a number. No condition. -/
import Derived.Test.YthjbgidnoiedmaaRD2
namespace Go.Proofs.Ythjbgidnoiedmaa
open SY
open Go.RowKit
set_option linter.unusedSimpArgs false
set_option linter.unusedVariables false

theorem wn {n : Nat} (h : n < 18446744073709551616) : IntKind.u64.wrap (n : Int) = n := by rw [IntKind.wrap_u64]; omega
theorem sh32 (a : Nat) : sShr .u64 (a : Int) 32 = ((a / 4294967296 : Nat) : Int) := by
  rw [sShr_eq]; show (a : Int) / 2 ^ 32 = _; omega
theorem an32 {a : Nat} (h : a < 18446744073709551616) : bAnd .u64 (a : Int) 4294967295 = ((a % 4294967296 : Nat) : Int) := by
  have := bAnd_u64 (a := a) (b := 4294967295) h (by decide)
  rw [show (4294967295 : Nat) = 2 ^ 32 - 1 from rfl, Nat.and_two_pow_sub_one_eq_mod] at this
  exact this
theorem wm {a b : Nat} (h : a * b < 18446744073709551616) : IntKind.u64.wrap ((a : Int) * (b : Int)) = ((a * b : Nat) : Int) := by
  rw [← Int.natCast_mul]; exact wn h
theorem wa {a b : Nat} (h : a + b < 18446744073709551616) : IntKind.u64.wrap ((a : Int) + (b : Int)) = ((a + b : Nat) : Int) := by
  rw [← Int.natCast_add]; exact wn h
theorem mul_lt' {a b : Nat} (ha : a < 4294967296) (hb : b < 4294967296) : a * b ≤ 18446744065119617025 :=
  Nat.mul_le_mul (show a ≤ 4294967295 by omega) (show b ≤ 4294967295 by omega)
theorem high {x y : Nat} (hx : x < 18446744073709551616) (hy : y < 18446744073709551616) :
    (x / 4294967296) * (y / 4294967296) + ((x / 4294967296) * (y % 4294967296) + (x % 4294967296) * (y % 4294967296) / 4294967296) / 4294967296 +
      (((x / 4294967296) * (y % 4294967296) + (x % 4294967296) * (y % 4294967296) / 4294967296) % 4294967296 + (x % 4294967296) * (y / 4294967296)) / 4294967296 = x * y / 18446744073709551616 := by
  have e : x * y = (x / 4294967296) * (y / 4294967296) * 18446744073709551616 + ((x / 4294967296) * (y % 4294967296) + (x % 4294967296) * (y / 4294967296)) * 4294967296 + (x % 4294967296) * (y % 4294967296) := by
    have ex := Nat.div_add_mod x 4294967296
    have ey := Nat.div_add_mod y 4294967296
    generalize x / 4294967296 = x1 at *
    generalize x % 4294967296 = x0 at *
    generalize y / 4294967296 = y1 at *
    generalize y % 4294967296 = y0 at *
    subst ex; subst ey
    simp only [Nat.add_mul, Nat.mul_add]
    have a1 : 4294967296 * x1 * (4294967296 * y1) = x1 * y1 * 18446744073709551616 := by
      rw [Nat.mul_comm 4294967296 x1, Nat.mul_assoc, ← Nat.mul_assoc 4294967296, Nat.mul_comm (4294967296 * 4294967296) y1, ← Nat.mul_assoc]
    have a2 : 4294967296 * x1 * y0 = x1 * y0 * 4294967296 := by rw [Nat.mul_assoc, Nat.mul_comm]
    have a3 : x0 * (4294967296 * y1) = x0 * y1 * 4294967296 := by rw [Nat.mul_comm 4294967296 y1, Nat.mul_assoc]
    rw [a1, a2, a3]; omega
  rw [e]
  generalize x / 4294967296 * (y / 4294967296) = p11
  generalize x / 4294967296 * (y % 4294967296) = p10
  generalize x % 4294967296 * (y / 4294967296) = p01
  generalize x % 4294967296 * (y % 4294967296) = p00
  omega
theorem below_ok : GOK Try.prog 15 hBelow := by
  refine gokW mixed tab_ok hkL_nil fun vs s r hg hs => ?_
  unfold hBelow at hg
  split at hg <;> try (cases hg; done)
  rename_i a b
  simp only [Option.some.injEq, Prod.mk.injEq] at hg
  obtain ⟨rfl, rfl⟩ := hg
  obtain ⟨h1, h2, hu, hi⟩ := hs
  refine ⟨noL, 10, [uS (cI a), iS (cI b)], ⟨h1, h2, trivial⟩, ?_⟩
  generalize cI a = w at *
  generalize cI b = n at *
  rw [below_res]
  obtain ⟨w0, w1⟩ := hu
  obtain ⟨n0, n1⟩ := hi
  unfold KeepBl
  refine br_in (fun c => ?_) fun c => ?_
  · rw [if_pos (of_decide_eq_true c)]
  · have c := of_decide_eq_false c
    rw [if_neg c]
    obtain ⟨x, rfl⟩ := Int.eq_ofNat_of_zero_le w0
    obtain ⟨y, rfl⟩ := Int.eq_ofNat_of_zero_le (show 0 ≤ n by omega)
    have hx : x < 18446744073709551616 := by omega
    have hy : y < 9223372036854775808 := by omega
    have hh := high (x := x) (y := y) hx (by omega)
    have hle : x * y / 18446744073709551616 ≤ y := by
      rw [Nat.div_le_iff_le_mul_add_pred (by decide)]
      have := Nat.mul_le_mul (show x ≤ 18446744073709551616 by omega) (Nat.le_refl y)
      omega
    have m11 := mul_lt' (a := x / 4294967296) (b := y / 4294967296) (by omega) (by omega)
    have m10 := mul_lt' (a := x / 4294967296) (b := y % 4294967296) (by omega) (by omega)
    have m01 := mul_lt' (a := x % 4294967296) (b := y / 4294967296) (by omega) (by omega)
    have m00 := mul_lt' (a := x % 4294967296) (b := y % 4294967296) (by omega) (by omega)
    rw [wn (show y < 18446744073709551616 by omega)]
    simp only [sh32, an32 hx, an32 (show y < 18446744073709551616 by omega)]
    rw [wm (by omega), wm (by omega), wm (by omega), wm (by omega)]
    simp only [sh32]
    rw [wa (by omega)]
    simp only [sh32]
    rw [an32 (by omega), wa (by omega), wa (by omega)]
    simp only [sh32]
    rw [wa (by omega), hh, show ((x : Int) * (y : Int)) / 18446744073709551616 = ((x * y / 18446744073709551616 : Nat) : Int) from by rw [← Int.natCast_mul]; rfl]
    generalize x * y / 18446744073709551616 = q at *
    rw [IntKind.wrap_i64]; omega
theorem bl_in {w n : Int} (hw : KeepU w) (hn : ¬ n < 1) : 0 ≤ KeepBl w n ∧ KeepBl w n < n := by
  obtain ⟨w0, w1⟩ := hw
  unfold KeepBl
  rw [if_neg hn]
  refine ⟨Int.ediv_nonneg (Int.mul_nonneg w0 (by omega)) (by decide), ?_⟩
  rw [Int.ediv_lt_iff_lt_mul (by decide), Int.mul_comm]
  exact Int.mul_lt_mul_of_pos_left w1 (by omega)
theorem bl_mono {w v n : Int} (h : w ≤ v) : KeepBl w n ≤ KeepBl v n := by
  unfold KeepBl
  split
  · exact Int.le_refl _
  · exact Int.ediv_le_ediv (by decide) (Int.mul_le_mul_of_nonneg_right h (by omega))
theorem bl_top {n : Int} (hn : ¬ n < 1) (hi : KeepI n) : KeepBl 18446744073709551615 n = n - 1 := by
  obtain ⟨_, _⟩ := hi
  unfold KeepBl
  rw [if_neg hn]; omega
theorem hkD_ok : HookOK Try.prog hkD := hkL_cons alive_ok <| hkL_cons below_ok hkL_nil
theorem u_ofB {x : Int} (h : inK (.int .u64) x) : KeepU x := by have := in_u64 h; exact ⟨this.1, by omega⟩
theorem i_of {x : Int} (h : inK (.int .i64) x) : KeepI x := by have := in_i64 h; exact ⟨this.1, by omega⟩
theorem below_walk (W : World) (w v n : Int) (hw : KeepU w) (hv : KeepU v) (hn : KeepI n) :
    Calls Try.prog 6 #[.int .u64 w, .int .u64 v, .int .i64 n] W fun e w' => e = .returned (.bool true) ∧ Below W.heap.size W w' := by
  refine law (vals := [.int .u64 w, .int .u64 v, .int .i64 n]) (lh := noL) (m := 10) (args := [uS w, uS v, iS n]) mixed tab_ok hkD_ok ?_ ⟨rfl, rfl, rfl, trivial⟩
  rw [lbelow_res]
  have hi : KeepU (imin w v) := by unfold imin; split <;> assumption
  have ha : KeepU (imax w v) := by unfold imax; split <;> assumption
  have hm : imin w v ≤ imax w v := by unfold imin imax; split <;> split <;> omega
  have z : KeepU 0 := ⟨by decide, by decide⟩
  have t : KeepU 18446744073709551615 := ⟨by decide, by decide⟩
  by_cases c : n < 1
  · have e : KeepBl w n = 0 := by unfold KeepBl; rw [if_pos c]
    simp [hw, hn, c, e, br_tt]
  · obtain ⟨b0, b1⟩ := bl_in hw c
    have b2 := bl_mono (n := n) hm
    have b3 : KeepBl 0 n = 0 := by unfold KeepBl; rw [if_neg c]; simp
    have b4 := bl_top c hn
    have b5 : IntKind.i64.wrap (n - 1) = n - 1 := by
      obtain ⟨_, _⟩ := hn
      rw [IntKind.wrap_i64]; omega
    simp [hw, hn, c, hi, ha, z, t, b0, b1, b2, b3, b4, b5, br_tt, br_ff]
end Go.Proofs.Ythjbgidnoiedmaa
