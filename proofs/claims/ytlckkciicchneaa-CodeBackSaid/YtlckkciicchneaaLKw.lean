/- What varint's functions, and the document's, answer: the same. No condition. -/
import Derived.Test.YtlckkciicchneaaRKv
import Derived.Test.YtlckkciicchneaaSyW
section
namespace Go.Proofs.Ytlckkciicchneaa.V
open SY
open Go.RowKit
set_option linter.unusedSimpArgs false
set_option linter.unusedVariables false

theorem vbk_small {k : Nat} {x : Int} (h : x ≤ 127) : vbk k x = [x] := by
  cases k with
  | zero => rfl
  | succ k => simp [vbk, h]
theorem vbk_big {k : Nat} {x : Int} (h : 127 < x) : vbk (k + 1) x = (x % 128 + 128) :: vbk k (x / 128) := by
  simp only [vbk]
  rw [if_neg (by omega)]
theorem vbk_len : ∀ (k : Nat) (x : Int), 1 ≤ (vbk k x).length ∧ (vbk k x).length ≤ k + 1
  | 0, x => by simp [vbk]
  | k + 1, x => by
    have := vbk_len k (x / 128)
    simp only [vbk]
    split
    · simp
    · simp; omega

theorem sh_u64 (x : Int) (b : Nat) (hb : b ≤ 64) : sShr .u64 x b = x / 2 ^ b := by
  rw [sShr_eq]
  have : min (Int.toNat (b : Int)) IntKind.u64.bits = b := by
    rw [Int.toNat_natCast]; exact Nat.min_eq_left hb
  rw [this]

theorem app_ok : GOK Try.prog 45 hApp := by
  refine gokW mixed tab_ok hkL_nil fun vs s r hg hs => ?_
  unfold hApp at hg
  split at hg <;> try (cases hg; done)
  rename_i a b
  simp only [Option.some.injEq, Prod.mk.injEq] at hg
  obtain ⟨rfl, rfl⟩ := hg
  obtain ⟨h1, h2, ⟨h3, h3'⟩, h4⟩ := hs
  refine ⟨lhL [(1, hintApp (cL a) (cI b))], 10, [slB (cL a), uS (cI b)], ⟨h1, h2, trivial⟩, ?_⟩
  generalize cL a = l at *
  generalize cI b = x at *
  rw [app_res]
  unfold KeepFew at h4
  rw [br_t (by simp)]
  refine ⟨⟨⟨9, x, l⟩, ⟨by simp, h3, by simp; omega, rfl⟩, by simp⟩, ?_⟩
  rintro ⟨k, y, out⟩ ⟨i1, i2, i3, i4⟩
  simp only at i1 i2 i3 i4 ⊢
  have hlen : out.length ≤ l.length + 10 := by
    have := congrArg List.length i4
    have h5 := vbk_len 9 x
    simp only [List.length_append] at this
    omega
  rw [br_t (b := (out.length + 1).ble 1099511627776) (by rw [Nat.ble_eq]; omega)]
  refine br_in (fun hb => ?_) fun hb => ?_
  · simp only [decide_eq_true_eq] at hb
    cases k with
    | zero => simp at i3; omega
    | succ k =>
      rw [vbk_big (by omega)] at i4
      refine ⟨⟨k, y / 128, out ++ [y % 128 + 128]⟩, ⟨by simp; omega, by simp; omega, ?_, ?_⟩, by simp, ⟨?_, ?_, trivial⟩, trivial, trivial⟩
      · simp only
        rw [Int.ediv_lt_iff_lt_mul (by decide), ← Int.pow_succ]; exact i3
      · rw [← i4]; simp
      · rw [sShr_eq]; rfl
      · rw [IntKind.wrap_u8, bOr_u8_128 (by omega) (by omega), show y % 256 % 128 = y % 128 by omega]
  · simp only [decide_eq_false_iff_not] at hb
    rw [vbk_small (by omega)] at i4
    rw [br_t (by rw [Nat.ble_eq]; omega), w_u8 (by omega), i4]; rfl

theorem bytes_ok : GOK Try.prog 21 hBytes := by
  refine gokW mixed tab_ok hkL_nil fun vs s r hg hs => ?_
  unfold hBytes at hg
  split at hg <;> try (cases hg; done)
  rename_i a
  simp only [Option.some.injEq, Prod.mk.injEq] at hg
  obtain ⟨rfl, rfl⟩ := hg
  obtain ⟨h1, ⟨h3, h3'⟩⟩ := hs
  refine ⟨lhL [(1, hintBytes (cI a))], 10, [uS (cI a)], ⟨h1, trivial⟩, ?_⟩
  generalize cI a = x at *
  rw [bytes_res]
  refine ⟨⟨⟨9, x, []⟩, ⟨by simp, h3, by simp; omega, rfl⟩, by simp⟩, ?_⟩
  rintro ⟨k, y, out⟩ ⟨i1, i2, i3, i4⟩
  simp only at i1 i2 i3 i4 ⊢
  have hlen : out.length ≤ 10 := by
    have := congrArg List.length i4
    have h5 := vbk_len 9 x
    simp only [List.length_append, List.nil_append] at this
    omega
  rw [br_t (b := (out.length + 1).ble 1099511627776) (by rw [Nat.ble_eq]; omega)]
  refine br_in (fun hb => ?_) fun hb => ?_
  · simp only [decide_eq_true_eq] at hb
    cases k with
    | zero => simp at i3; omega
    | succ k =>
      rw [vbk_big (by omega)] at i4
      refine ⟨⟨k, y / 128, out ++ [y % 128 + 128]⟩, ⟨by simp; omega, by simp; omega, ?_, ?_⟩, by simp, ⟨?_, ?_, trivial⟩, trivial, trivial⟩
      · simp only
        rw [Int.ediv_lt_iff_lt_mul (by decide), ← Int.pow_succ]; exact i3
      · rw [← i4]; simp
      · rw [Int.tdiv_eq_ediv_of_nonneg i2]
        rw [w_u64]
        have : (128 : Int) ^ (k + 1 + 1) ≤ 128 ^ 10 := by
          exact_mod_cast Nat.pow_le_pow_right (by decide) (by omega)
        have : (128 : Int) ^ 10 = 1180591620717411303424 := by decide
        omega
      · rw [Int.tmod_eq_emod_of_nonneg i2, w_u64 (by omega), w_u8 (by omega)]
  · simp only [decide_eq_false_iff_not] at hb
    rw [vbk_small (by omega)] at i4
    rw [br_t (by rw [Nat.ble_eq]; omega), w_u8 (by omega), i4]; rfl

theorem zig_ok : GOK Try.prog 46 hZig := by
  refine gokW mixed tab_ok hkL_nil fun vs s r hg hs => ?_
  unfold hZig at hg
  split at hg <;> try (cases hg; done)
  rename_i a
  simp only [Option.some.injEq, Prod.mk.injEq] at hg
  obtain ⟨rfl, rfl⟩ := hg
  obtain ⟨h1, ⟨h3, h3'⟩⟩ := hs
  refine ⟨noL, 10, [iS (cI a)], ⟨h1, trivial⟩, ?_⟩
  generalize cI a = x at *
  rw [zig_res, sShr_eq]
  unfold sShl KeepZig
  rw [show min (Int.toNat 63) IntKind.i64.bits = 63 from rfl, show min (Int.toNat 1) IntKind.u64.bits = 1 from rfl]
  by_cases hx : x < 0
  · rw [if_pos hx, show x / 2 ^ 63 = -1 by omega, show IntKind.u64.wrap (-1) = 18446744073709551615 from by decide +kernel, IntKind.wrap_u64 x, IntKind.wrap_u64, bXor_u64_ones (by omega) (by omega)]
    omega
  · rw [if_neg hx, show x / 2 ^ 63 = 0 by omega, show IntKind.u64.wrap 0 = 0 from by decide +kernel, IntKind.wrap_u64 x, IntKind.wrap_u64, bXor_u64_zero (by omega) (by omega)]
    omega

theorem rzig_ok : GOK Try.prog 22 hZig := by
  refine gokW mixed tab_ok hkL_nil fun vs s r hg hs => ?_
  unfold hZig at hg
  split at hg <;> try (cases hg; done)
  rename_i a
  simp only [Option.some.injEq, Prod.mk.injEq] at hg
  obtain ⟨rfl, rfl⟩ := hg
  obtain ⟨h1, ⟨h3, h3'⟩⟩ := hs
  refine ⟨noL, 10, [iS (cI a)], ⟨h1, trivial⟩, ?_⟩
  generalize cI a = x at *
  rw [rzig_res]
  unfold KeepZig
  refine br_in (fun hb => ?_) fun hb => ?_
  · simp only [decide_eq_true_eq] at hb
    rw [if_pos hb]
    simp only [IntKind.wrap_u64, IntKind.wrap_i64]; omega
  · simp only [decide_eq_false_iff_not] at hb
    rw [if_neg hb]
    simp only [IntKind.wrap_u64, IntKind.wrap_i64]; omega

theorem zag_ok : GOK Try.prog 52 hZag := by
  refine gokW mixed tab_ok hkL_nil fun vs s r hg hs => ?_
  unfold hZag at hg
  split at hg <;> try (cases hg; done)
  rename_i a
  simp only [Option.some.injEq, Prod.mk.injEq] at hg
  obtain ⟨rfl, rfl⟩ := hg
  obtain ⟨h1, ⟨h3, h3'⟩⟩ := hs
  refine ⟨noL, 10, [uS (cI a)], ⟨h1, trivial⟩, ?_⟩
  generalize cI a = x at *
  rw [zag_res, sShr_eq, bAnd_one h3 h3']
  unfold KeepZag
  rw [show min (Int.toNat 1) IntKind.u64.bits = 1 from rfl, w_i64 (n := x / 2 ^ 1) (by omega), w_i64 (n := x % 2) (by omega), w_i64 (n := 0 - x % 2) (by omega)]
  by_cases hx : x % 2 = 1
  · rw [if_pos hx, hx, show (0 : Int) - 1 = -1 from rfl, bXor_i64_ones (by omega) (by omega)]
    rfl
  · rw [if_neg hx, show x % 2 = 0 by omega, show (0 : Int) - 0 = 0 from rfl, bXor_i64_zero (by omega) (by omega)]
    rfl

theorem rzag_ok : GOK Try.prog 49 hZag := by
  refine gokW mixed tab_ok hkL_nil fun vs s r hg hs => ?_
  unfold hZag at hg
  split at hg <;> try (cases hg; done)
  rename_i a
  simp only [Option.some.injEq, Prod.mk.injEq] at hg
  obtain ⟨rfl, rfl⟩ := hg
  obtain ⟨h1, ⟨h3, h3'⟩⟩ := hs
  refine ⟨noL, 10, [uS (cI a)], ⟨h1, trivial⟩, ?_⟩
  generalize cI a = x at *
  rw [rzag_res, Int.tmod_eq_emod_of_nonneg h3, Int.tdiv_eq_ediv_of_nonneg h3]
  unfold KeepZag
  refine br_in (fun hb => ?_) fun hb => ?_
  · simp only [decide_eq_true_eq] at hb
    rw [if_pos hb]
    simp only [IntKind.wrap_u64, IntKind.wrap_i64]; omega
  · simp only [decide_eq_false_iff_not] at hb
    rw [if_neg hb]
    simp only [IntKind.wrap_u64, IntKind.wrap_i64]; omega
end Go.Proofs.Ytlckkciicchneaa.V
end
section
namespace Go.Proofs.Ytlckkciicchneaa.V
open SY
open Go.RowKit
set_option linter.unusedSimpArgs false
set_option linter.unusedVariables false

theorem gI_drop (b : List Int) (k i : Nat) : gI (b.drop k) i = gI b (k + i) := by simp [gI, List.getElem?_drop]
theorem drop_cons {b : List Int} {i : Nat} (h : i < b.length) : b.drop i = gI b i :: b.drop (i + 1) := by
  rw [List.drop_eq_getElem_cons h]
  simp [gI, h]
theorem rv_nil (i : Nat) (x : Int) : rv i x [] = (0, 0, 2) := rfl
theorem rv_cons (i : Nat) (x c : Int) (r : List Int) : rv i x (c :: r) = if i = 9 ∧ c > 1 then (0, 0, 4) else if c < 128 then (if c = 0 ∧ i > 0 then (0, 0, 3) else (x + c * 128 ^ i, (i : Int) + 1, 0)) else rv (i + 1) (x + (c - 128) * 128 ^ i) r := rfl
theorem pow_le9 {i : Nat} (h : i ≤ 9) : (1 : Int) ≤ 128 ^ i ∧ (128 : Int) ^ i ≤ 9223372036854775808 := by
  have h1 : 1 ≤ 128 ^ i := Nat.one_le_pow _ _ (by decide)
  have h2 : 128 ^ i ≤ 128 ^ 9 := Nat.pow_le_pow_right (by decide) h
  have h3 : (128 : Nat) ^ 9 = 9223372036854775808 := by decide
  have e : ((128 ^ i : Nat) : Int) = 128 ^ i := by simp
  omega
theorem pow_le8 {i : Nat} (h : i ≤ 8) : (128 : Int) ^ i ≤ 72057594037927936 := by
  have h2 : 128 ^ i ≤ 128 ^ 8 := Nat.pow_le_pow_right (by decide) h
  have h3 : (128 : Nat) ^ 8 = 72057594037927936 := by decide
  have e : ((128 ^ i : Nat) : Int) = 128 ^ i := by simp
  omega
theorem pow7 (i : Nat) : (2 : Int) ^ (i * 7) = 128 ^ i := by
  rw [Nat.mul_comm, Int.pow_mul]; rfl
/-- A group of seven bits, put above: by bits, and by numbers. -/
theorem group {x c : Int} {i : Nat} (hi : i ≤ 9) (h0 : 0 ≤ x) (h1 : x < 128 ^ i) (hc : 0 ≤ c ∧ c ≤ 255) (h9 : i = 9 → c ≤ 1) :
    bOr .u64 x (sShl .u64 (IntKind.u64.wrap (bAnd .u8 c 127)) (IntKind.u64.wrap (IntKind.i64.wrap ((i : Int) * 7)))) = x + c % 128 * 128 ^ i ∧
    IntKind.u64.wrap (x + IntKind.u64.wrap (IntKind.u64.wrap (c.tmod 128) * 128 ^ i)) = x + c % 128 * 128 ^ i ∧ x + c % 128 * 128 ^ i < 128 ^ (i + 1) := by
  have hp := pow_le9 hi
  have hm : 0 ≤ c % 128 ∧ c % 128 ≤ 127 := by omega
  have hbound : c % 128 * 128 ^ i ≤ 9223372036854775808 := by
    rcases Nat.lt_or_ge i 9 with h | h
    · have := pow_le8 (i := i) (by omega)
      have : c % 128 * 128 ^ i ≤ 127 * 72057594037927936 := Int.mul_le_mul hm.2 this (by omega) (by omega)
      omega
    · have h9 := h9 (by omega)
      have : c % 128 ≤ 1 := by omega
      have : c % 128 * 128 ^ i ≤ 1 * 9223372036854775808 := Int.mul_le_mul this hp.2 (by omega) (by omega)
      omega
  have hpos : 0 ≤ c % 128 * 128 ^ i := Int.mul_nonneg hm.1 (by omega)
  have hx64 : x < 9223372036854775808 := by omega
  refine ⟨?_, ?_, ?_⟩
  · rw [bAnd_u8_127 hc.1 (by omega), w_u64 (n := c % 128) (by omega), w_i64 (by omega), w_u64 (n := (i : Int) * 7) (by omega)]
    unfold sShl
    have e : min (Int.toNat ((i : Int) * 7)) IntKind.u64.bits = i * 7 := by
      rw [show ((i : Int) * 7).toNat = i * 7 by omega]
      exact Nat.min_eq_left (by show i * 7 ≤ 64; omega)
    rw [e, pow7, w_u64 (by omega)]
    have := bOr_above (x := x) (c := c % 128) (n := i * 7) h0 (by rw [pow7]; exact h1) hm.1 (by omega) (by rw [pow7]; omega)
    rw [pow7] at this
    exact this
  · rw [Int.tmod_eq_emod_of_nonneg hc.1, w_u64 (n := c % 128) (by omega), w_u64 (n := c % 128 * 128 ^ i) (by omega), w_u64 (by omega)]
  · rw [Int.pow_succ]
    have : c % 128 * 128 ^ i ≤ 127 * 128 ^ i := Int.mul_le_mul_of_nonneg_right hm.2 (by omega)
    omega

theorem read_ok : GOK Try.prog 51 hRead := by
  refine gokW mixed tab_ok hkL_nil fun vs s r hg hs => ?_
  unfold hRead at hg
  split at hg <;> try (cases hg; done)
  rename_i a b
  simp only [Option.some.injEq, Prod.mk.injEq] at hg
  obtain ⟨rfl, rfl⟩ := hg
  obtain ⟨h1, h2, h3, h4⟩ := hs
  refine ⟨lhL [(1, hintRead (cL a) (cI b))], 10, [slB (cL a), iS (cI b)], ⟨h1, h2, trivial⟩, ?_⟩
  generalize cL a = l at *
  generalize cI b = p at *
  unfold KeepFew at h3
  rw [read_res]
  refine br_in (fun c1 => ?_) fun c1 => br_in (fun c2 => ?_) fun c2 => ?_
  · simp only [decide_eq_true_eq] at c1
    simp [KeepRx, KeepRe, KeepRn, c1]
  · simp only [decide_eq_true_eq] at c2
    simp [KeepRx, KeepRe, KeepRn, c2]
  simp only [decide_eq_false_iff_not] at c1 c2
  have hc : ¬ (p < 0 ∨ p > l.length) := by omega
  have e1 : KeepRx l p = (rv 0 0 (l.drop p.toNat)).1 := by simp only [KeepRx]; rw [if_neg hc]
  have e2 : KeepRe l p = (rv 0 0 (l.drop p.toNat)).2.2 := by simp only [KeepRe]; rw [if_neg hc]
  have e3 : KeepRn l p = if (rv 0 0 (l.drop p.toNat)).2.2 = 0 then p + (rv 0 0 (l.drop p.toNat)).2.1 else 0 := by simp only [KeepRn, e2]
  rw [br_t (by simp; omega), e1, e2, e3]
  obtain ⟨k, rfl⟩ := Int.eq_ofNat_of_zero_le (show 0 ≤ p by omega)
  refine ⟨⟨⟨0, 0⟩, ⟨by simp, by simp, by simp, by simp; omega, rfl⟩, by simp⟩, ?_⟩
  rintro ⟨i, x⟩ ⟨i1, i2, i3, i4, i5⟩
  simp only [Int.toNat_natCast] at i1 i2 i3 i4 i5 ⊢
  generalize hR : rv 0 0 (l.drop k) = R at *
  simp only [gI_drop, List.length_drop]
  refine br_in (fun d1 => ?_) fun d1 => ?_
  · simp only [decide_eq_true_eq] at d1
    have hlt : k + i < l.length := by omega
    have hby := h4 (k + i) hlt
    rw [drop_cons hlt] at i5
    generalize gI l (k + i) = c at *
    rw [rv_cons] at i5
    have hgrp := fun h9 => group (x := x) (c := c) i1 i2 i3 hby h9
    have step : (i = 9 → c ≤ 1) → ¬ c < 128 → ∃ x' : RX, KeepR l (k : Int) x' ∧ 9 - x'.i < 9 - i ∧ (x'.x = bOr .u64 x (sShl .u64 (IntKind.u64.wrap (bAnd .u8 c 127)) (IntKind.u64.wrap (IntKind.i64.wrap ((i : Int) * 7)))) ∧ (x'.i : Int) = IntKind.i64.wrap ((i : Int) + 1) ∧ True) ∧ True := by
      intro h9 h128
      have hi9 : i ≠ 9 := fun h => by have := h9 h; omega
      rw [if_neg (by omega), if_neg h128] at i5
      obtain ⟨g1, g2, g3⟩ := hgrp h9
      have em : c % 128 = c - 128 := by omega
      refine ⟨⟨i + 1, x + (c - 128) * 128 ^ i⟩, ⟨by simp; omega, ?_, ?_, by simp; omega, ?_⟩, by simp; omega, ⟨?_, ?_, trivial⟩, trivial⟩
      · have hp := pow_le9 i1
        have : 0 ≤ (c - 128) * 128 ^ i := Int.mul_nonneg (by omega) (by omega)
        simp only; omega
      · rw [em] at g3; exact g3
      · show rv (i + 1) _ (l.drop (k + (i + 1))) = rv 0 0 (l.drop k)
        rw [hR]; exact i5
      · rw [g1, em]
      · rw [w_i64 (by omega)]; simp
    have ok : (i = 9 → c ≤ 1) → c < 128 → ¬ (c = 0 ∧ i > 0) → R.1 = bOr .u64 x (sShl .u64 (IntKind.u64.wrap (bAnd .u8 c 127)) (IntKind.u64.wrap (IntKind.i64.wrap ((i : Int) * 7)))) ∧ (if R.2.2 = 0 then (k : Int) + R.2.1 else 0) = IntKind.i64.wrap (IntKind.i64.wrap ((k : Int) + i) + 1) ∧ R.2.2 = 0 ∧ True := by
      intro h9 h128 h0
      rw [if_neg (fun h => by have := h9 h.1; omega), if_pos h128, if_neg h0] at i5
      obtain ⟨g1, g2, g3⟩ := hgrp h9
      rw [← i5, g1, show c % 128 = c by omega, w_i64 (n := (k : Int) + i) (by omega), w_i64 (by omega)]
      refine ⟨rfl, ?_, rfl, trivial⟩
      simp only [if_true]; omega
    rw [br_t (by simp; omega)]
    refine br_in (fun d2 => ?_) fun d2 => ?_
    · simp only [decide_eq_true_eq] at d2
      have d2' : i = 9 := by omega
      refine br_in (fun d3 => ?_) fun d3 => ?_
      · simp only [decide_eq_true_eq] at d3
        rw [if_pos ⟨d2', d3⟩] at i5
        rw [← i5]; simp
      · simp only [decide_eq_false_iff_not] at d3
        have h9 : i = 9 → c ≤ 1 := fun _ => by omega
        rw [br_t (by rw [w_i64 (by omega), w_u64 (by omega)]; simp; omega)]
        refine br_in (fun d4 => ?_) fun d4 => ?_
        · simp only [decide_eq_true_eq] at d4
          refine br_in (fun d5 => br_in (fun d6 => ?_) fun d6 => ?_) fun d5 => ?_
          · simp only [decide_eq_true_eq] at d5 d6
            rw [if_neg (fun h => d3 h.2), if_pos d4, if_pos ⟨d5, by omega⟩] at i5
            rw [← i5]; simp
          · simp only [decide_eq_false_iff_not] at d6
            exact ok h9 d4 (fun h => by omega)
          · simp only [decide_eq_false_iff_not] at d5
            exact ok h9 d4 (fun h => d5 h.1)
        · simp only [decide_eq_false_iff_not] at d4
          exact step h9 d4
    · simp only [decide_eq_false_iff_not] at d2
      have d2' : i ≠ 9 := by omega
      have h9 : i = 9 → c ≤ 1 := fun h => absurd h d2'
      rw [br_t (by rw [w_i64 (by omega), w_u64 (by omega)]; simp; omega)]
      refine br_in (fun d4 => ?_) fun d4 => ?_
      · simp only [decide_eq_true_eq] at d4
        refine br_in (fun d5 => br_in (fun d6 => ?_) fun d6 => ?_) fun d5 => ?_
        · simp only [decide_eq_true_eq] at d5 d6
          rw [if_neg (fun h => d2' h.1), if_pos d4, if_pos ⟨d5, by omega⟩] at i5
          rw [← i5]; simp
        · simp only [decide_eq_false_iff_not] at d6
          exact ok h9 d4 (fun h => by omega)
        · simp only [decide_eq_false_iff_not] at d5
          exact ok h9 d4 (fun h => d5 h.1)
      · simp only [decide_eq_false_iff_not] at d4
        exact step h9 d4
  · simp only [decide_eq_false_iff_not] at d1
    rw [List.drop_eq_nil_of_le (by omega), rv_nil] at i5
    rw [← i5]; simp
theorem rread_ok : GOK Try.prog 48 hRead := by
  refine gokW mixed tab_ok hkL_nil fun vs s r hg hs => ?_
  unfold hRead at hg
  split at hg <;> try (cases hg; done)
  rename_i a b
  simp only [Option.some.injEq, Prod.mk.injEq] at hg
  obtain ⟨rfl, rfl⟩ := hg
  obtain ⟨h1, h2, h3, h4⟩ := hs
  refine ⟨lhL [(1, hintRRead (cL a) (cI b))], 10, [slB (cL a), iS (cI b)], ⟨h1, h2, trivial⟩, ?_⟩
  generalize cL a = l at *
  generalize cI b = p at *
  unfold KeepFew at h3
  rw [rread_res]
  refine br_in (fun c1 => ?_) fun c1 => br_in (fun c2 => ?_) fun c2 => ?_
  · simp only [decide_eq_true_eq] at c1
    simp [KeepRx, KeepRe, KeepRn, c1]
  · simp only [decide_eq_true_eq] at c2
    simp [KeepRx, KeepRe, KeepRn, c2]
  simp only [decide_eq_false_iff_not] at c1 c2
  have hc : ¬ (p < 0 ∨ p > l.length) := by omega
  have e1 : KeepRx l p = (rv 0 0 (l.drop p.toNat)).1 := by simp only [KeepRx]; rw [if_neg hc]
  have e2 : KeepRe l p = (rv 0 0 (l.drop p.toNat)).2.2 := by simp only [KeepRe]; rw [if_neg hc]
  have e3 : KeepRn l p = if (rv 0 0 (l.drop p.toNat)).2.2 = 0 then p + (rv 0 0 (l.drop p.toNat)).2.1 else 0 := by simp only [KeepRn, e2]
  rw [e1, e2, e3]
  obtain ⟨k, rfl⟩ := Int.eq_ofNat_of_zero_le (show 0 ≤ p by omega)
  refine ⟨⟨⟨0, 0⟩, ⟨by simp, by simp, by simp, by simp; omega, rfl⟩, by simp [KeepP]⟩, ?_⟩
  rintro ⟨i, x⟩ ⟨i1, i2, i3, i4, i5⟩
  simp only [Int.toNat_natCast] at i1 i2 i3 i4 i5 ⊢
  generalize hR : rv 0 0 (l.drop k) = R at *
  rw [show IntKind.i64.wrap ((k : Int) + i) = ((k + i : Nat) : Int) by rw [w_i64 (by omega)]; simp]
  simp only [Int.toNat_natCast]
  refine br_in (fun d1 => ?_) fun d1 => ?_
  · simp only [decide_eq_true_eq] at d1
    rw [List.drop_eq_nil_of_le (by omega), rv_nil] at i5
    rw [← i5]; simp
  simp only [decide_eq_false_iff_not] at d1
  have hlt : k + i < l.length := by omega
  have hby := h4 (k + i) hlt
  rw [br_t (by simp; omega)]
  rw [drop_cons hlt] at i5
  obtain ⟨c, hc'⟩ : ∃ c, c = gI l (k + i) := ⟨_, rfl⟩
  simp only [← hc'] at i5 hby ⊢
  rw [rv_cons] at i5
  have hgrp := fun h9 => group (x := x) (c := c) i1 i2 i3 hby h9
  have step : (i = 9 → c ≤ 1) → ¬ c < 128 → ∃ x' : RX, KeepR l (k : Int) x' ∧ 9 - x'.i < 9 - i ∧ (x'.x = IntKind.u64.wrap (x + IntKind.u64.wrap (IntKind.u64.wrap (c.tmod 128) * KeepP i)) ∧ KeepP x'.i = IntKind.u64.wrap (KeepP i * 128) ∧ (x'.i : Int) = IntKind.i64.wrap ((i : Int) + 1) ∧ True) ∧ True := by
    intro h9 h128
    have hi9 : i ≠ 9 := fun h => by have := h9 h; omega
    rw [if_neg (by omega), if_neg h128] at i5
    obtain ⟨g1, g2, g3⟩ := hgrp h9
    have em : c % 128 = c - 128 := by omega
    refine ⟨⟨i + 1, x + (c - 128) * 128 ^ i⟩, ⟨by simp; omega, ?_, ?_, by simp; omega, ?_⟩, by simp; omega, ⟨?_, ?_, ?_, trivial⟩, trivial⟩
    · have hp := pow_le9 i1
      have : 0 ≤ (c - 128) * 128 ^ i := Int.mul_nonneg (by omega) (by omega)
      simp only; omega
    · rw [em] at g3; exact g3
    · show rv (i + 1) _ (l.drop (k + (i + 1))) = rv 0 0 (l.drop k)
      rw [hR]; exact i5
    · unfold KeepP; rw [g2, em]
    · unfold KeepP
      have := pow_le8 (i := i) (by omega)
      have := pow_le9 i1
      rw [w_u64 (by omega), ← Int.pow_succ]
    · rw [w_i64 (by omega)]; simp
  have ok : (i = 9 → c ≤ 1) → c < 128 → ¬ (c = 0 ∧ i > 0) → R.1 = IntKind.u64.wrap (x + IntKind.u64.wrap (IntKind.u64.wrap (c.tmod 128) * KeepP i)) ∧ (if R.2.2 = 0 then (k : Int) + R.2.1 else 0) = IntKind.i64.wrap (((k + i : Nat) : Int) + 1) ∧ R.2.2 = 0 ∧ True := by
    intro h9 h128 h0
    rw [if_neg (fun h => by have := h9 h.1; omega), if_pos h128, if_neg h0] at i5
    obtain ⟨g1, g2, g3⟩ := hgrp h9
    unfold KeepP
    rw [← i5, g2, show c % 128 = c by omega, w_i64 (by omega)]
    refine ⟨rfl, ?_, rfl, trivial⟩
    simp only [if_true]; omega
  have rest : (i = 9 → c ≤ 1) → br (decide (c > 127)) (∃ x' : RX, KeepR l (k : Int) x' ∧ 9 - x'.i < 9 - i ∧ (x'.x = IntKind.u64.wrap (x + IntKind.u64.wrap (IntKind.u64.wrap (c.tmod 128) * KeepP i)) ∧ KeepP x'.i = IntKind.u64.wrap (KeepP i * 128) ∧ (x'.i : Int) = IntKind.i64.wrap ((i : Int) + 1) ∧ True) ∧ True)
      (br (decide (c = 0)) (br (decide ((i : Int) > 0)) (R.1 = 0 ∧ (if R.2.2 = 0 then (k : Int) + R.2.1 else 0) = 0 ∧ R.2.2 = 3 ∧ True)
        (R.1 = IntKind.u64.wrap (x + IntKind.u64.wrap (IntKind.u64.wrap (c.tmod 128) * KeepP i)) ∧ (if R.2.2 = 0 then (k : Int) + R.2.1 else 0) = IntKind.i64.wrap (((k + i : Nat) : Int) + 1) ∧ R.2.2 = 0 ∧ True))
        (R.1 = IntKind.u64.wrap (x + IntKind.u64.wrap (IntKind.u64.wrap (c.tmod 128) * KeepP i)) ∧ (if R.2.2 = 0 then (k : Int) + R.2.1 else 0) = IntKind.i64.wrap (((k + i : Nat) : Int) + 1) ∧ R.2.2 = 0 ∧ True)) := by
    intro h9
    refine br_in (fun d4 => ?_) fun d4 => ?_
    · simp only [decide_eq_true_eq] at d4
      exact step h9 (by omega)
    · simp only [decide_eq_false_iff_not] at d4
      refine br_in (fun d5 => br_in (fun d6 => ?_) fun d6 => ?_) fun d5 => ?_
      · simp only [decide_eq_true_eq] at d5 d6
        rw [if_neg (fun h => by have := h9 h.1; omega), if_pos (by omega), if_pos ⟨d5, by omega⟩] at i5
        rw [← i5]; simp
      · simp only [decide_eq_false_iff_not] at d6
        exact ok h9 (by omega) (fun h => by omega)
      · simp only [decide_eq_false_iff_not] at d5
        exact ok h9 (by omega) (fun h => d5 h.1)
  refine br_in (fun d2 => br_in (fun d3 => ?_) fun d3 => ?_) fun d2 => ?_
  · simp only [decide_eq_true_eq] at d2 d3
    rw [if_pos ⟨by omega, d3⟩] at i5
    rw [← i5]; simp
  · simp only [decide_eq_false_iff_not] at d3
    exact rest (fun _ => by omega)
  · simp only [decide_eq_false_iff_not] at d2
    exact rest (fun h => absurd h (by omega))
end Go.Proofs.Ytlckkciicchneaa.V
end
