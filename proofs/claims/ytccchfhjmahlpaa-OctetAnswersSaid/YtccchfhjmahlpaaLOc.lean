/- What octet's functions, and the document's, answer: the same. No condition. -/
import Derived.Test.YtccchfhjmahlpaaROc
namespace Go.Proofs.Ytccchfhjmahlpaa
open SY
open Go.RowKit
set_option linter.unusedSimpArgs false
set_option linter.unusedVariables false

theorem szk_le : ∀ (k : Nat) (x : Int), 1 ≤ szk k x ∧ szk k x ≤ k + 1
  | 0, x => by simp [szk]
  | k + 1, x => by
    have := szk_le k (x / 256)
    simp only [szk]; split <;> omega
theorem szk_small {k : Nat} {x : Int} (h : x ≤ 255) : szk k x = 1 := by
  cases k with
  | zero => rfl
  | succ k => simp [szk, h]
theorem szk_big {k : Nat} {x : Int} (h : 255 < x) : szk (k + 1) x = szk k (x / 256) + 1 := by
  simp only [szk]
  rw [if_neg (by omega)]
theorem size_eq {x : Int} (h : KeepU x) : KeepSz x = imax 1 ((KeepLn x + 7) / 8) := by
  obtain ⟨h0, h1⟩ := h
  have key : ∀ (k : Nat) (x : Nat), x < 256 ^ (k + 1) → (szk k (x : Int) : Int) = imax 1 ((KeepLn (x : Int) + 7) / 8) := by
    intro k
    induction k with
    | zero =>
      intro x hx
      have := ln_unit (x := (x : Int)) 8 (by omega) (by simp at hx; omega)
      unfold imax szk
      rw [if_neg (by omega)]
      rfl
    | succ k ih =>
      intro x hx
      simp only [szk]
      by_cases hs : (x : Int) ≤ 255
      · rw [if_pos hs]
        have := ln_unit (x := (x : Int)) 8 (by omega) (by omega)
        unfold imax
        rw [if_neg (by omega)]
        rfl
      · rw [if_neg hs]
        have hd : x / 256 < 256 ^ (k + 1) := by
          rw [Nat.div_lt_iff_lt_mul (by decide), ← Nat.pow_succ]; exact hx
        have e : ((x : Int) / 256) = ((x / 256 : Nat) : Int) := by simp
        have e8 := ln_shift (x := (x : Int)) 8 (by omega)
        have := ih (x / 256) hd
        rw [e, Int.natCast_add, this, ← e]
        have h2 : (x : Int) / 2 ^ 8 = (x : Int) / 256 := rfl
        rw [h2] at e8
        have hp : 1 ≤ KeepLn ((x : Int) / 256) := by
          unfold KeepLn; rw [if_neg (by omega)]; omega
        rw [e8]
        unfold imax
        split <;> split <;> omega
  obtain ⟨n, rfl⟩ := Int.eq_ofNat_of_zero_le h0
  unfold KeepSz
  exact key 7 n (by omega)

theorem size_ok : GOK Try.prog 12 hSize := by
  refine gokW mixed tab_ok (hkL_cons len_ok hkL_nil) fun vs s r hg hs => ?_
  unfold hSize at hg
  split at hg <;> try (cases hg; done)
  rename_i a
  simp only [Option.some.injEq, Prod.mk.injEq] at hg
  obtain ⟨rfl, rfl⟩ := hg
  obtain ⟨h1, h2⟩ := hs
  refine ⟨noL, 10, [uS (cI a)], ⟨h1, trivial⟩, ?_⟩
  generalize cI a = x at *
  rw [size_res]
  have hl := ln_64 h2
  refine ⟨⟨rfl, h2⟩, ?_⟩
  rw [w_i64 (n := KeepLn x + 8) (by omega), w_i64 (n := KeepLn x + 8 - 1) (by omega), Int.tdiv_eq_ediv_of_nonneg (by omega), w_i64 (by omega), size_eq h2]
  congr 2; omega

theorem rsize_ok : GOK Try.prog 13 hSize := by
  refine gokW mixed tab_ok hkL_nil fun vs s r hg hs => ?_
  unfold hSize at hg
  split at hg <;> try (cases hg; done)
  rename_i a
  simp only [Option.some.injEq, Prod.mk.injEq] at hg
  obtain ⟨rfl, rfl⟩ := hg
  obtain ⟨h1, h2, h3⟩ := hs
  refine ⟨lhL [(1, hintRSize (cI a))], 10, [uS (cI a)], ⟨h1, trivial⟩, ?_⟩
  generalize cI a = x at *
  rw [rsize_res]
  have hz := szk_le 7 x
  have hdiv : IntKind.u64.wrap (x.tdiv 256) = x / 256 := by rw [Int.tdiv_eq_ediv_of_nonneg h2, w_u64 (by omega)]
  rw [hdiv]
  refine ⟨⟨⟨x / 256, 7, 1⟩, ⟨Nat.le_refl 7, (by show (0 : Int) ≤ x / 256; omega), ?_, ?_, (by show (0 : Int) ≤ 1; omega), (by show (1 : Int) ≤ 8; omega)⟩, ⟨rfl, rfl, trivial⟩, trivial⟩, ?_⟩
  · show x / 256 < 256 ^ 7
    have : (256 : Int) ^ 7 = 72057594037927936 := by decide
    omega
  · show (1 : Int) + ((if x / 256 = 0 then 0 else szk 6 (x / 256) : Nat) : Int) = (szk 7 x : Nat)
    rw [show szk 7 x = if x ≤ 255 then 1 else szk 6 (x / 256) + 1 from rfl]
    by_cases hx : x ≤ 255
    · rw [if_pos hx, if_pos (by omega)]; rfl
    · rw [if_neg hx, if_neg (by omega)]; omega
  · rintro ⟨y, k, n⟩ ⟨i1, i2, i3, i4, i5, i6⟩
    simp only at i1 i2 i3 i4 i5 i6 ⊢
    refine br_in (fun hb => ?_) fun hb => ?_
    · simp only [decide_eq_true_eq] at hb
      cases k with
      | zero => simp at i3; omega
      | succ k =>
        rw [if_neg (by omega)] at i4
        simp only [Nat.add_sub_cancel] at i4
        have hy : y < 18446744073709551616 := by
          have p1 : 256 ^ (k + 1) ≤ 256 ^ 7 := Nat.pow_le_pow_right (by decide) (by omega)
          have p2 : (256 : Nat) ^ 7 = 72057594037927936 := by decide
          have p3 : ((256 ^ (k + 1) : Nat) : Int) = 256 ^ (k + 1) := by rw [Int.natCast_pow]; rfl
          omega
        have hs := szk_le k y
        refine ⟨⟨y / 256, k, n + 1⟩, ⟨by simp; omega, by simp; omega, ?_, ?_, by simp; omega, by simp; omega⟩, by simp, ⟨?_, ?_, trivial⟩, trivial⟩
        · simp only
          rw [Int.ediv_lt_iff_lt_mul (by decide), ← Int.pow_succ]; exact i3
        · simp only
          cases k with
          | zero =>
            rw [szk_small (by simp at i3; omega)] at i4
            rw [if_pos (by simp at i3; omega)]; omega
          | succ k =>
            simp only [Nat.add_sub_cancel]
            by_cases hx : y ≤ 255
            · rw [szk_small hx] at i4; rw [if_pos (by omega)]; omega
            · rw [szk_big (by omega)] at i4; rw [if_neg (by omega)]; omega
        · rw [Int.tdiv_eq_ediv_of_nonneg i2, w_u64 (by omega)]
        · rw [w_i64 (by omega)]
    · simp only [decide_eq_false_iff_not] at hb
      rw [if_pos (by omega)] at i4
      unfold KeepSz; omega

theorem le_len : ∀ (k : Nat) (x : Int), (KeepLe k x).length = k
  | 0, _ => rfl
  | k + 1, x => by simp [KeepLe, le_len k]
theorem le_succ : ∀ (k : Nat) (x : Int), KeepLe (k + 1) x = KeepLe k x ++ [x / 256 ^ k % 256]
  | 0, x => by simp [KeepLe]
  | k + 1, x => by
    rw [KeepLe, le_succ k (x / 256)]
    simp only [KeepLe, List.cons_append]
    rw [Int.ediv_ediv_of_nonneg (by decide), Int.pow_succ, Int.mul_comm]
end Go.Proofs.Ytccchfhjmahlpaa
