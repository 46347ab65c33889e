/- What varint's Read, and the document's, answer: the same. No condition. -/
import Derived.Test.YtcmecdnbleoniaaLVi
namespace Go.Proofs.Ytcmecdnbleoniaa
open SY
open Go.RowKit
set_option linter.unusedSimpArgs false
set_option linter.unusedVariables false

theorem gI_drop (b : List Int) (k i : Nat) : gI (b.drop k) i = gI b (k + i) := by simp [gI, List.getElem?_drop]
theorem drop_cons {b : List Int} {i : Nat} (h : i < b.length) : b.drop i = gI b i :: b.drop (i + 1) := by
  rw [List.drop_eq_getElem_cons h]
  simp [gI, h]
theorem rv_nil (i : Nat) (x : Int) : rv i x [] = (0, 0, 2) := rfl
theorem rv_cons (i : Nat) (x c : Int) (r : List Int) : rv i x (c :: r) = if i = 9 ∧ c > 1 then (0, 0, 4) else if c < 128 then (if c = 0 ∧ i > 0 then (0, 0, 3) else (x + c * 128 ^ i, (i : Int) + 1, 0)) else rv (i + 1) (x + (c - 128) * 128 ^ i) r := rfl
theorem pow_le9 {i : Nat} (h : i ≤ 9) : (1 : Int) ≤ 128 ^ i ∧ (128 : Int) ^ i ≤ 9223372036854775808 := by
  have h1 : 1 ≤ 128 ^ i := Nat.one_le_pow _ _ (by decide)
  have h2 : 128 ^ i ≤ 128 ^ 9 := Nat.pow_le_pow_right (by decide) h
  have h3 : (128 : Nat) ^ 9 = 9223372036854775808 := by decide
  have e : ((128 ^ i : Nat) : Int) = 128 ^ i := by simp
  omega
theorem pow_le8 {i : Nat} (h : i ≤ 8) : (128 : Int) ^ i ≤ 72057594037927936 := by
  have h2 : 128 ^ i ≤ 128 ^ 8 := Nat.pow_le_pow_right (by decide) h
  have h3 : (128 : Nat) ^ 8 = 72057594037927936 := by decide
  have e : ((128 ^ i : Nat) : Int) = 128 ^ i := by simp
  omega
theorem pow7 (i : Nat) : (2 : Int) ^ (i * 7) = 128 ^ i := by
  rw [Nat.mul_comm, Int.pow_mul]; rfl
/-- A group of seven bits, put above: by bits, and by numbers. -/
theorem group {x c : Int} {i : Nat} (hi : i ≤ 9) (h0 : 0 ≤ x) (h1 : x < 128 ^ i) (hc : 0 ≤ c ∧ c ≤ 255) (h9 : i = 9 → c ≤ 1) :
    bOr .u64 x (sShl .u64 (IntKind.u64.wrap (bAnd .u8 c 127)) (IntKind.u64.wrap (IntKind.i64.wrap ((i : Int) * 7)))) = x + c % 128 * 128 ^ i ∧
    IntKind.u64.wrap (x + IntKind.u64.wrap (IntKind.u64.wrap (c.tmod 128) * 128 ^ i)) = x + c % 128 * 128 ^ i ∧ x + c % 128 * 128 ^ i < 128 ^ (i + 1) := by
  have hp := pow_le9 hi
  have hm : 0 ≤ c % 128 ∧ c % 128 ≤ 127 := by omega
  have hbound : c % 128 * 128 ^ i ≤ 9223372036854775808 := by
    rcases Nat.lt_or_ge i 9 with h | h
    · have := pow_le8 (i := i) (by omega)
      have : c % 128 * 128 ^ i ≤ 127 * 72057594037927936 := Int.mul_le_mul hm.2 this (by omega) (by omega)
      omega
    · have h9 := h9 (by omega)
      have : c % 128 ≤ 1 := by omega
      have : c % 128 * 128 ^ i ≤ 1 * 9223372036854775808 := Int.mul_le_mul this hp.2 (by omega) (by omega)
      omega
  have hpos : 0 ≤ c % 128 * 128 ^ i := Int.mul_nonneg hm.1 (by omega)
  have hx64 : x < 9223372036854775808 := by omega
  refine ⟨?_, ?_, ?_⟩
  · rw [bAnd_u8_127 hc.1 (by omega), w_u64 (n := c % 128) (by omega), w_i64 (by omega), w_u64 (n := (i : Int) * 7) (by omega)]
    unfold sShl
    have e : min (Int.toNat ((i : Int) * 7)) IntKind.u64.bits = i * 7 := by
      rw [show ((i : Int) * 7).toNat = i * 7 by omega]
      exact Nat.min_eq_left (by show i * 7 ≤ 64; omega)
    rw [e, pow7, w_u64 (by omega)]
    have := bOr_above (x := x) (c := c % 128) (n := i * 7) h0 (by rw [pow7]; exact h1) hm.1 (by omega) (by rw [pow7]; omega)
    rw [pow7] at this
    exact this
  · rw [Int.tmod_eq_emod_of_nonneg hc.1, w_u64 (n := c % 128) (by omega), w_u64 (n := c % 128 * 128 ^ i) (by omega), w_u64 (by omega)]
  · rw [Int.pow_succ]
    have : c % 128 * 128 ^ i ≤ 127 * 128 ^ i := Int.mul_le_mul_of_nonneg_right hm.2 (by omega)
    omega

theorem read_ok : GOK Try.prog 18 hRead := by
  refine gokW mixed tab_ok hkL_nil fun vs s r hg hs => ?_
  unfold hRead at hg
  split at hg <;> try (cases hg; done)
  rename_i a b
  simp only [Option.some.injEq, Prod.mk.injEq] at hg
  obtain ⟨rfl, rfl⟩ := hg
  obtain ⟨h1, h2, h3, h4⟩ := hs
  refine ⟨lhL [(1, hintRead (cL a) (cI b))], 10, [slB (cL a), iS (cI b)], ⟨h1, h2, trivial⟩, ?_⟩
  generalize cL a = l at *
  generalize cI b = p at *
  unfold KeepFew at h3
  rw [read_res]
  refine br_in (fun c1 => ?_) fun c1 => br_in (fun c2 => ?_) fun c2 => ?_
  · simp only [decide_eq_true_eq] at c1
    simp [KeepRx, KeepRe, KeepRn, c1]
  · simp only [decide_eq_true_eq] at c2
    simp [KeepRx, KeepRe, KeepRn, c2]
  simp only [decide_eq_false_iff_not] at c1 c2
  have hc : ¬ (p < 0 ∨ p > l.length) := by omega
  have e1 : KeepRx l p = (rv 0 0 (l.drop p.toNat)).1 := by simp only [KeepRx]; rw [if_neg hc]
  have e2 : KeepRe l p = (rv 0 0 (l.drop p.toNat)).2.2 := by simp only [KeepRe]; rw [if_neg hc]
  have e3 : KeepRn l p = if (rv 0 0 (l.drop p.toNat)).2.2 = 0 then p + (rv 0 0 (l.drop p.toNat)).2.1 else 0 := by simp only [KeepRn, e2]
  rw [br_t (by simp; omega), e1, e2, e3]
  obtain ⟨k, rfl⟩ := Int.eq_ofNat_of_zero_le (show 0 ≤ p by omega)
  refine ⟨⟨⟨0, 0⟩, ⟨by simp, by simp, by simp, by simp; omega, rfl⟩, by simp⟩, ?_⟩
  rintro ⟨i, x⟩ ⟨i1, i2, i3, i4, i5⟩
  simp only [Int.toNat_natCast] at i1 i2 i3 i4 i5 ⊢
  generalize hR : rv 0 0 (l.drop k) = R at *
  simp only [gI_drop, List.length_drop]
  refine br_in (fun d1 => ?_) fun d1 => ?_
  · simp only [decide_eq_true_eq] at d1
    have hlt : k + i < l.length := by omega
    have hby := h4 (k + i) hlt
    rw [drop_cons hlt] at i5
    generalize gI l (k + i) = c at *
    rw [rv_cons] at i5
    have hgrp := fun h9 => group (x := x) (c := c) i1 i2 i3 hby h9
    have step : (i = 9 → c ≤ 1) → ¬ c < 128 → ∃ x' : RX, KeepR l (k : Int) x' ∧ 9 - x'.i < 9 - i ∧ (x'.x = bOr .u64 x (sShl .u64 (IntKind.u64.wrap (bAnd .u8 c 127)) (IntKind.u64.wrap (IntKind.i64.wrap ((i : Int) * 7)))) ∧ (x'.i : Int) = IntKind.i64.wrap ((i : Int) + 1) ∧ True) ∧ True := by
      intro h9 h128
      have hi9 : i ≠ 9 := fun h => by have := h9 h; omega
      rw [if_neg (by omega), if_neg h128] at i5
      obtain ⟨g1, g2, g3⟩ := hgrp h9
      have em : c % 128 = c - 128 := by omega
      refine ⟨⟨i + 1, x + (c - 128) * 128 ^ i⟩, ⟨by simp; omega, ?_, ?_, by simp; omega, ?_⟩, by simp; omega, ⟨?_, ?_, trivial⟩, trivial⟩
      · have hp := pow_le9 i1
        have : 0 ≤ (c - 128) * 128 ^ i := Int.mul_nonneg (by omega) (by omega)
        simp only; omega
      · rw [em] at g3; exact g3
      · show rv (i + 1) _ (l.drop (k + (i + 1))) = rv 0 0 (l.drop k)
        rw [hR]; exact i5
      · rw [g1, em]
      · rw [w_i64 (by omega)]; simp
    have ok : (i = 9 → c ≤ 1) → c < 128 → ¬ (c = 0 ∧ i > 0) → R.1 = bOr .u64 x (sShl .u64 (IntKind.u64.wrap (bAnd .u8 c 127)) (IntKind.u64.wrap (IntKind.i64.wrap ((i : Int) * 7)))) ∧ (if R.2.2 = 0 then (k : Int) + R.2.1 else 0) = IntKind.i64.wrap (IntKind.i64.wrap ((k : Int) + i) + 1) ∧ R.2.2 = 0 ∧ True := by
      intro h9 h128 h0
      rw [if_neg (fun h => by have := h9 h.1; omega), if_pos h128, if_neg h0] at i5
      obtain ⟨g1, g2, g3⟩ := hgrp h9
      rw [← i5, g1, show c % 128 = c by omega, w_i64 (n := (k : Int) + i) (by omega), w_i64 (by omega)]
      refine ⟨rfl, ?_, rfl, trivial⟩
      simp only [if_true]; omega
    rw [br_t (by simp; omega)]
    refine br_in (fun d2 => ?_) fun d2 => ?_
    · simp only [decide_eq_true_eq] at d2
      have d2' : i = 9 := by omega
      refine br_in (fun d3 => ?_) fun d3 => ?_
      · simp only [decide_eq_true_eq] at d3
        rw [if_pos ⟨d2', d3⟩] at i5
        rw [← i5]; simp
      · simp only [decide_eq_false_iff_not] at d3
        have h9 : i = 9 → c ≤ 1 := fun _ => by omega
        rw [br_t (by rw [w_i64 (by omega), w_u64 (by omega)]; simp; omega)]
        refine br_in (fun d4 => ?_) fun d4 => ?_
        · simp only [decide_eq_true_eq] at d4
          refine br_in (fun d5 => br_in (fun d6 => ?_) fun d6 => ?_) fun d5 => ?_
          · simp only [decide_eq_true_eq] at d5 d6
            rw [if_neg (fun h => d3 h.2), if_pos d4, if_pos ⟨d5, by omega⟩] at i5
            rw [← i5]; simp
          · simp only [decide_eq_false_iff_not] at d6
            exact ok h9 d4 (fun h => by omega)
          · simp only [decide_eq_false_iff_not] at d5
            exact ok h9 d4 (fun h => d5 h.1)
        · simp only [decide_eq_false_iff_not] at d4
          exact step h9 d4
    · simp only [decide_eq_false_iff_not] at d2
      have d2' : i ≠ 9 := by omega
      have h9 : i = 9 → c ≤ 1 := fun h => absurd h d2'
      rw [br_t (by rw [w_i64 (by omega), w_u64 (by omega)]; simp; omega)]
      refine br_in (fun d4 => ?_) fun d4 => ?_
      · simp only [decide_eq_true_eq] at d4
        refine br_in (fun d5 => br_in (fun d6 => ?_) fun d6 => ?_) fun d5 => ?_
        · simp only [decide_eq_true_eq] at d5 d6
          rw [if_neg (fun h => d2' h.1), if_pos d4, if_pos ⟨d5, by omega⟩] at i5
          rw [← i5]; simp
        · simp only [decide_eq_false_iff_not] at d6
          exact ok h9 d4 (fun h => by omega)
        · simp only [decide_eq_false_iff_not] at d5
          exact ok h9 d4 (fun h => d5 h.1)
      · simp only [decide_eq_false_iff_not] at d4
        exact step h9 d4
  · simp only [decide_eq_false_iff_not] at d1
    rw [List.drop_eq_nil_of_le (by omega), rv_nil] at i5
    rw [← i5]; simp
theorem rread_ok : GOK Try.prog 19 hRead := by
  refine gokW mixed tab_ok hkL_nil fun vs s r hg hs => ?_
  unfold hRead at hg
  split at hg <;> try (cases hg; done)
  rename_i a b
  simp only [Option.some.injEq, Prod.mk.injEq] at hg
  obtain ⟨rfl, rfl⟩ := hg
  obtain ⟨h1, h2, h3, h4⟩ := hs
  refine ⟨lhL [(1, hintRRead (cL a) (cI b))], 10, [slB (cL a), iS (cI b)], ⟨h1, h2, trivial⟩, ?_⟩
  generalize cL a = l at *
  generalize cI b = p at *
  unfold KeepFew at h3
  rw [rread_res]
  refine br_in (fun c1 => ?_) fun c1 => br_in (fun c2 => ?_) fun c2 => ?_
  · simp only [decide_eq_true_eq] at c1
    simp [KeepRx, KeepRe, KeepRn, c1]
  · simp only [decide_eq_true_eq] at c2
    simp [KeepRx, KeepRe, KeepRn, c2]
  simp only [decide_eq_false_iff_not] at c1 c2
  have hc : ¬ (p < 0 ∨ p > l.length) := by omega
  have e1 : KeepRx l p = (rv 0 0 (l.drop p.toNat)).1 := by simp only [KeepRx]; rw [if_neg hc]
  have e2 : KeepRe l p = (rv 0 0 (l.drop p.toNat)).2.2 := by simp only [KeepRe]; rw [if_neg hc]
  have e3 : KeepRn l p = if (rv 0 0 (l.drop p.toNat)).2.2 = 0 then p + (rv 0 0 (l.drop p.toNat)).2.1 else 0 := by simp only [KeepRn, e2]
  rw [e1, e2, e3]
  obtain ⟨k, rfl⟩ := Int.eq_ofNat_of_zero_le (show 0 ≤ p by omega)
  refine ⟨⟨⟨0, 0⟩, ⟨by simp, by simp, by simp, by simp; omega, rfl⟩, by simp [KeepP]⟩, ?_⟩
  rintro ⟨i, x⟩ ⟨i1, i2, i3, i4, i5⟩
  simp only [Int.toNat_natCast] at i1 i2 i3 i4 i5 ⊢
  generalize hR : rv 0 0 (l.drop k) = R at *
  rw [show IntKind.i64.wrap ((k : Int) + i) = ((k + i : Nat) : Int) by rw [w_i64 (by omega)]; simp]
  simp only [Int.toNat_natCast]
  refine br_in (fun d1 => ?_) fun d1 => ?_
  · simp only [decide_eq_true_eq] at d1
    rw [List.drop_eq_nil_of_le (by omega), rv_nil] at i5
    rw [← i5]; simp
  simp only [decide_eq_false_iff_not] at d1
  have hlt : k + i < l.length := by omega
  have hby := h4 (k + i) hlt
  rw [br_t (by simp; omega)]
  rw [drop_cons hlt] at i5
  obtain ⟨c, hc'⟩ : ∃ c, c = gI l (k + i) := ⟨_, rfl⟩
  simp only [← hc'] at i5 hby ⊢
  rw [rv_cons] at i5
  have hgrp := fun h9 => group (x := x) (c := c) i1 i2 i3 hby h9
  have step : (i = 9 → c ≤ 1) → ¬ c < 128 → ∃ x' : RX, KeepR l (k : Int) x' ∧ 9 - x'.i < 9 - i ∧ (x'.x = IntKind.u64.wrap (x + IntKind.u64.wrap (IntKind.u64.wrap (c.tmod 128) * KeepP i)) ∧ KeepP x'.i = IntKind.u64.wrap (KeepP i * 128) ∧ (x'.i : Int) = IntKind.i64.wrap ((i : Int) + 1) ∧ True) ∧ True := by
    intro h9 h128
    have hi9 : i ≠ 9 := fun h => by have := h9 h; omega
    rw [if_neg (by omega), if_neg h128] at i5
    obtain ⟨g1, g2, g3⟩ := hgrp h9
    have em : c % 128 = c - 128 := by omega
    refine ⟨⟨i + 1, x + (c - 128) * 128 ^ i⟩, ⟨by simp; omega, ?_, ?_, by simp; omega, ?_⟩, by simp; omega, ⟨?_, ?_, ?_, trivial⟩, trivial⟩
    · have hp := pow_le9 i1
      have : 0 ≤ (c - 128) * 128 ^ i := Int.mul_nonneg (by omega) (by omega)
      simp only; omega
    · rw [em] at g3; exact g3
    · show rv (i + 1) _ (l.drop (k + (i + 1))) = rv 0 0 (l.drop k)
      rw [hR]; exact i5
    · unfold KeepP; rw [g2, em]
    · unfold KeepP
      have := pow_le8 (i := i) (by omega)
      have := pow_le9 i1
      rw [w_u64 (by omega), ← Int.pow_succ]
    · rw [w_i64 (by omega)]; simp
  have ok : (i = 9 → c ≤ 1) → c < 128 → ¬ (c = 0 ∧ i > 0) → R.1 = IntKind.u64.wrap (x + IntKind.u64.wrap (IntKind.u64.wrap (c.tmod 128) * KeepP i)) ∧ (if R.2.2 = 0 then (k : Int) + R.2.1 else 0) = IntKind.i64.wrap (((k + i : Nat) : Int) + 1) ∧ R.2.2 = 0 ∧ True := by
    intro h9 h128 h0
    rw [if_neg (fun h => by have := h9 h.1; omega), if_pos h128, if_neg h0] at i5
    obtain ⟨g1, g2, g3⟩ := hgrp h9
    unfold KeepP
    rw [← i5, g2, show c % 128 = c by omega, w_i64 (by omega)]
    refine ⟨rfl, ?_, rfl, trivial⟩
    simp only [if_true]; omega
  have rest : (i = 9 → c ≤ 1) → br (decide (c > 127)) (∃ x' : RX, KeepR l (k : Int) x' ∧ 9 - x'.i < 9 - i ∧ (x'.x = IntKind.u64.wrap (x + IntKind.u64.wrap (IntKind.u64.wrap (c.tmod 128) * KeepP i)) ∧ KeepP x'.i = IntKind.u64.wrap (KeepP i * 128) ∧ (x'.i : Int) = IntKind.i64.wrap ((i : Int) + 1) ∧ True) ∧ True)
      (br (decide (c = 0)) (br (decide ((i : Int) > 0)) (R.1 = 0 ∧ (if R.2.2 = 0 then (k : Int) + R.2.1 else 0) = 0 ∧ R.2.2 = 3 ∧ True)
        (R.1 = IntKind.u64.wrap (x + IntKind.u64.wrap (IntKind.u64.wrap (c.tmod 128) * KeepP i)) ∧ (if R.2.2 = 0 then (k : Int) + R.2.1 else 0) = IntKind.i64.wrap (((k + i : Nat) : Int) + 1) ∧ R.2.2 = 0 ∧ True))
        (R.1 = IntKind.u64.wrap (x + IntKind.u64.wrap (IntKind.u64.wrap (c.tmod 128) * KeepP i)) ∧ (if R.2.2 = 0 then (k : Int) + R.2.1 else 0) = IntKind.i64.wrap (((k + i : Nat) : Int) + 1) ∧ R.2.2 = 0 ∧ True)) := by
    intro h9
    refine br_in (fun d4 => ?_) fun d4 => ?_
    · simp only [decide_eq_true_eq] at d4
      exact step h9 (by omega)
    · simp only [decide_eq_false_iff_not] at d4
      refine br_in (fun d5 => br_in (fun d6 => ?_) fun d6 => ?_) fun d5 => ?_
      · simp only [decide_eq_true_eq] at d5 d6
        rw [if_neg (fun h => by have := h9 h.1; omega), if_pos (by omega), if_pos ⟨d5, by omega⟩] at i5
        rw [← i5]; simp
      · simp only [decide_eq_false_iff_not] at d6
        exact ok h9 (by omega) (fun h => by omega)
      · simp only [decide_eq_false_iff_not] at d5
        exact ok h9 (by omega) (fun h => d5 h.1)
  refine br_in (fun d2 => br_in (fun d3 => ?_) fun d3 => ?_) fun d2 => ?_
  · simp only [decide_eq_true_eq] at d2 d3
    rw [if_pos ⟨by omega, d3⟩] at i5
    rw [← i5]; simp
  · simp only [decide_eq_false_iff_not] at d3
    exact rest (fun _ => by omega)
  · simp only [decide_eq_false_iff_not] at d2
    exact rest (fun h => absurd h (by omega))
end Go.Proofs.Ytcmecdnbleoniaa
