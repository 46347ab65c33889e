/- What varint's functions, and the document's, answer: the same. No condition. -/
import Derived.Test.YtcmecdnbleoniaaRVi
import Derived.Test.YtcmecdnbleoniaaSyW
namespace Go.Proofs.Ytcmecdnbleoniaa
open SY
open Go.RowKit
set_option linter.unusedSimpArgs false
set_option linter.unusedVariables false

theorem vbk_small {k : Nat} {x : Int} (h : x ≤ 127) : vbk k x = [x] := by
  cases k with
  | zero => rfl
  | succ k => simp [vbk, h]
theorem vbk_big {k : Nat} {x : Int} (h : 127 < x) : vbk (k + 1) x = (x % 128 + 128) :: vbk k (x / 128) := by
  simp only [vbk]
  rw [if_neg (by omega)]
theorem vbk_len : ∀ (k : Nat) (x : Int), 1 ≤ (vbk k x).length ∧ (vbk k x).length ≤ k + 1
  | 0, x => by simp [vbk]
  | k + 1, x => by
    have := vbk_len k (x / 128)
    simp only [vbk]
    split
    · simp
    · simp; omega

theorem len_table : ∀ n : Fin 256, KeepLn (n.val : Int) = if n.val = 0 then 0 else (Nat.log2 n.val : Int) + 1 := by
  intro n
  unfold KeepLn
  by_cases h : n.val = 0 <;> simp [h]

theorem size_eq {x : Int} (h : KeepU x) : KeepSz x = imax 1 ((KeepLn x + 6) / 7) := by
  obtain ⟨h0, h1⟩ := h
  have key : ∀ (k : Nat) (x : Nat), x < 128 ^ (k + 1) → ((vbk k (x : Int)).length : Int) = imax 1 (((if x = 0 then 0 else (Nat.log2 x : Int) + 1) + 6) / 7) := by
    intro k
    induction k with
    | zero =>
      intro x hx
      simp only [vbk, List.length_singleton]
      split
      · rfl
      · rename_i h
        have : Nat.log2 x < 7 := (Nat.log2_lt h).2 (by simpa using hx)
        unfold imax
        rw [if_neg (by omega)]
        rfl
    | succ k ih =>
      intro x hx
      by_cases hs : x ≤ 127
      · rw [vbk_small (by omega)]
        split
        · rfl
        · rename_i h
          have : Nat.log2 x < 7 := (Nat.log2_lt h).2 (by omega)
          unfold imax
          rw [if_neg (by omega)]
          rfl
      · rw [vbk_big (by omega)]
        have e : ((x : Int) / 128) = ((x / 128 : Nat) : Int) := by simp
        have hd : x / 128 < 128 ^ (k + 1) := by
          rw [Nat.div_lt_iff_lt_mul (by decide), ← Nat.pow_succ]; exact hx
        have hn : x / 128 ≠ 0 := by omega
        have := ih (x / 128) hd
        rw [if_neg hn] at this
        rw [List.length_cons, e, Int.natCast_add, this, if_neg (by omega)]
        have hl : Nat.log2 x = Nat.log2 (x / 128) + 7 := by
          have h2 : ∀ y, 2 ≤ y → Nat.log2 y = Nat.log2 (y / 2) + 1 := by
            intro y hy
            rw [Nat.log2_def, if_pos hy]
          rw [h2 x (by omega), h2 (x / 2) (by omega), h2 (x / 2 / 2) (by omega), h2 (x / 2 / 2 / 2) (by omega), h2 (x / 2 / 2 / 2 / 2) (by omega), h2 (x / 2 / 2 / 2 / 2 / 2) (by omega), h2 (x / 2 / 2 / 2 / 2 / 2 / 2) (by omega)]
          have : x / 2 / 2 / 2 / 2 / 2 / 2 / 2 = x / 128 := by omega
          rw [this]
        rw [hl]
        unfold imax
        split <;> split <;> omega
  obtain ⟨n, rfl⟩ := Int.eq_ofNat_of_zero_le h0
  unfold KeepSz
  rw [key 9 n (by omega)]
  unfold KeepLn
  simp

theorem log2_shift : ∀ (k x : Nat), 2 ^ k ≤ x → Nat.log2 x = Nat.log2 (x / 2 ^ k) + k
  | 0, x, _ => by simp
  | k + 1, x, h => by
    have h2 : 2 ≤ x := by
      have : 2 ^ 1 ≤ 2 ^ (k + 1) := Nat.pow_le_pow_right (by decide) (by omega)
      omega
    rw [Nat.log2_def, if_pos h2, log2_shift k (x / 2) (by rw [Nat.pow_succ] at h; omega), Nat.div_div_eq_div_mul, Nat.pow_succ, Nat.mul_comm 2, Nat.add_assoc]
theorem ln_shift {x : Int} (k : Nat) (h : 2 ^ k ≤ x) : KeepLn x = k + KeepLn (x / 2 ^ k) := by
  have hp : (0 : Int) < 2 ^ k := Int.pow_pos (by decide)
  obtain ⟨n, rfl⟩ := Int.eq_ofNat_of_zero_le (show 0 ≤ x by omega)
  have hn : 2 ^ k ≤ n := by exact_mod_cast h
  have hp' := Nat.two_pow_pos k
  have e : ((n : Int) / 2 ^ k) = ((n / 2 ^ k : Nat) : Int) := by simp
  have h1 : n / 2 ^ k ≠ 0 := by
    have := Nat.div_pos hn hp'
    omega
  rw [e]
  unfold KeepLn
  rw [if_neg (by omega), if_neg (by omega), Int.toNat_natCast, Int.toNat_natCast, log2_shift k n hn]
  omega
theorem ln_leaf {T : List Int} (hT : ∀ n : Fin 256, ((m8 (gI T n.val) : Nat) : Int) = KeepLn n.val) {x y k : Int} (hk : KeepLn x = k + KeepLn y) (h0 : 0 ≤ y) (h1 : y < 256) (hb : 0 ≤ k ∧ k ≤ 56) :
    br (decide (0 ≤ IntKind.u8.wrap y) && decide (IntKind.u8.wrap y < 256)) (KeepLn x = IntKind.i64.wrap (k + IntKind.i64.wrap (m8 (gI T (IntKind.u8.wrap y).toNat) : Int))) False := by
  rw [w_u8 (by omega), br_t (by simp [h0, h1])]
  have := hT ⟨y.toNat, by omega⟩
  simp only [Int.toNat_of_nonneg h0] at this
  have hm : m8 (gI T y.toNat) < 256 := Nat.mod_lt _ (by decide)
  rw [w_i64 (n := (m8 (gI T y.toNat) : Int)) (by omega), w_i64 (by omega), this, hk]
theorem sh_u64 (x : Int) (b : Nat) (hb : b ≤ 64) : sShr .u64 x b = x / 2 ^ b := by
  rw [sShr_eq]
  have : min (Int.toNat (b : Int)) IntKind.u64.bits = b := by
    rw [Int.toNat_natCast]; exact Nat.min_eq_left hb
  rw [this]

theorem len_ok : GOK Try.prog 23 hLen := by
  refine gokW mixed tab_ok hkL_nil fun vs s r hg hs => ?_
  unfold hLen at hg
  split at hg <;> try (cases hg; done)
  rename_i a
  simp only [Option.some.injEq, Prod.mk.injEq] at hg
  obtain ⟨rfl, rfl⟩ := hg
  obtain ⟨h1, h2, h3⟩ := hs
  refine ⟨noL, 10, [uS (cI a)], ⟨h1, trivial⟩, ?_⟩
  generalize cI a = x at *
  rw [len_res]
  rw [show sShr IntKind.u64 x 32 = x / 2 ^ 32 from sh_u64 x 32 (by decide), show sShr IntKind.u64 x 16 = x / 2 ^ 16 from sh_u64 x 16 (by decide), show sShr IntKind.u64 x 8 = x / 2 ^ 8 from sh_u64 x 8 (by decide),
    show sShr IntKind.u64 (x / 2 ^ 32) 16 = x / 2 ^ 32 / 2 ^ 16 from sh_u64 _ 16 (by decide), show sShr IntKind.u64 (x / 2 ^ 32) 8 = x / 2 ^ 32 / 2 ^ 8 from sh_u64 _ 8 (by decide), show sShr IntKind.u64 (x / 2 ^ 16) 8 = x / 2 ^ 16 / 2 ^ 8 from sh_u64 _ 8 (by decide),
    show sShr IntKind.u64 (x / 2 ^ 32 / 2 ^ 16) 8 = x / 2 ^ 32 / 2 ^ 16 / 2 ^ 8 from sh_u64 _ 8 (by decide)]
  refine br_in (fun b1 => ?_) fun b1 => ?_ <;> simp only [decide_eq_true_eq, decide_eq_false_iff_not] at b1
  · have e1 := ln_shift (x := x) 32 (by omega)
    refine br_in (fun b2 => ?_) fun b2 => ?_ <;> simp only [decide_eq_true_eq, decide_eq_false_iff_not] at b2
    · have e2 := ln_shift (x := x / 2 ^ 32) 16 (by omega)
      refine br_in (fun b3 => ?_) fun b3 => ?_ <;> simp only [decide_eq_true_eq, decide_eq_false_iff_not] at b3
      · have e3 := ln_shift (x := x / 2 ^ 32 / 2 ^ 16) 8 (by omega)
        exact ln_leaf (by decide +kernel) (by omega) (by omega) (by omega) (by decide)
      · exact ln_leaf (by decide +kernel) (by omega) (by omega) (by omega) (by decide)
    · refine br_in (fun b3 => ?_) fun b3 => ?_ <;> simp only [decide_eq_true_eq, decide_eq_false_iff_not] at b3
      · have e3 := ln_shift (x := x / 2 ^ 32) 8 (by omega)
        exact ln_leaf (by decide +kernel) (by omega) (by omega) (by omega) (by decide)
      · exact ln_leaf (by decide +kernel) (by omega) (by omega) (by omega) (by decide)
  · refine br_in (fun b2 => ?_) fun b2 => ?_ <;> simp only [decide_eq_true_eq, decide_eq_false_iff_not] at b2
    · have e2 := ln_shift (x := x) 16 (by omega)
      refine br_in (fun b3 => ?_) fun b3 => ?_ <;> simp only [decide_eq_true_eq, decide_eq_false_iff_not] at b3
      · have e3 := ln_shift (x := x / 2 ^ 16) 8 (by omega)
        exact ln_leaf (by decide +kernel) (by omega) (by omega) (by omega) (by decide)
      · exact ln_leaf (by decide +kernel) (by omega) (by omega) (by omega) (by decide)
    · refine br_in (fun b3 => ?_) fun b3 => ?_ <;> simp only [decide_eq_true_eq, decide_eq_false_iff_not] at b3
      · have e3 := ln_shift (x := x) 8 (by omega)
        exact ln_leaf (by decide +kernel) (by omega) (by omega) (by omega) (by decide)
      · have e3 : KeepLn x = 0 + KeepLn x := by omega
        exact ln_leaf (by decide +kernel) (by omega) (by omega) (by omega) (by decide)

theorem size_ok : GOK Try.prog 11 hSize := by
  refine gokW mixed tab_ok (hkL_cons len_ok hkL_nil) fun vs s r hg hs => ?_
  unfold hSize at hg
  split at hg <;> try (cases hg; done)
  rename_i a
  simp only [Option.some.injEq, Prod.mk.injEq] at hg
  obtain ⟨rfl, rfl⟩ := hg
  obtain ⟨h1, h2⟩ := hs
  refine ⟨noL, 10, [uS (cI a)], ⟨h1, trivial⟩, ?_⟩
  generalize cI a = x at *
  rw [size_res]
  have hl : 0 ≤ KeepLn x ∧ KeepLn x ≤ 64 := by
    obtain ⟨h0, h3⟩ := h2
    unfold KeepLn
    split
    · omega
    · rename_i hx
      have : Nat.log2 x.toNat < 64 := (Nat.log2_lt (by omega)).2 (by omega)
      omega
  refine ⟨⟨rfl, h2⟩, ?_⟩
  rw [w_i64 (n := KeepLn x + 7) (by omega), w_i64 (n := KeepLn x + 7 - 1) (by omega), Int.tdiv_eq_ediv_of_nonneg (by omega), w_i64 (by omega), size_eq h2]
  congr 2; omega

theorem app_ok : GOK Try.prog 9 hApp := by
  refine gokW mixed tab_ok hkL_nil fun vs s r hg hs => ?_
  unfold hApp at hg
  split at hg <;> try (cases hg; done)
  rename_i a b
  simp only [Option.some.injEq, Prod.mk.injEq] at hg
  obtain ⟨rfl, rfl⟩ := hg
  obtain ⟨h1, h2, ⟨h3, h3'⟩, h4⟩ := hs
  refine ⟨lhL [(1, hintApp (cL a) (cI b))], 10, [slB (cL a), uS (cI b)], ⟨h1, h2, trivial⟩, ?_⟩
  generalize cL a = l at *
  generalize cI b = x at *
  rw [app_res]
  unfold KeepFew at h4
  rw [br_t (by simp)]
  refine ⟨⟨⟨9, x, l⟩, ⟨by simp, h3, by simp; omega, rfl⟩, by simp⟩, ?_⟩
  rintro ⟨k, y, out⟩ ⟨i1, i2, i3, i4⟩
  simp only at i1 i2 i3 i4 ⊢
  have hlen : out.length ≤ l.length + 10 := by
    have := congrArg List.length i4
    have h5 := vbk_len 9 x
    simp only [List.length_append] at this
    omega
  rw [br_t (b := (out.length + 1).ble 1099511627776) (by rw [Nat.ble_eq]; omega)]
  refine br_in (fun hb => ?_) fun hb => ?_
  · simp only [decide_eq_true_eq] at hb
    cases k with
    | zero => simp at i3; omega
    | succ k =>
      rw [vbk_big (by omega)] at i4
      refine ⟨⟨k, y / 128, out ++ [y % 128 + 128]⟩, ⟨by simp; omega, by simp; omega, ?_, ?_⟩, by simp, ⟨?_, ?_, trivial⟩, trivial, trivial⟩
      · simp only
        rw [Int.ediv_lt_iff_lt_mul (by decide), ← Int.pow_succ]; exact i3
      · rw [← i4]; simp
      · rw [sShr_eq]; rfl
      · rw [IntKind.wrap_u8, bOr_u8_128 (by omega) (by omega), show y % 256 % 128 = y % 128 by omega]
  · simp only [decide_eq_false_iff_not] at hb
    rw [vbk_small (by omega)] at i4
    rw [br_t (by rw [Nat.ble_eq]; omega), w_u8 (by omega), i4]; rfl

theorem bytes_ok : GOK Try.prog 12 hBytes := by
  refine gokW mixed tab_ok hkL_nil fun vs s r hg hs => ?_
  unfold hBytes at hg
  split at hg <;> try (cases hg; done)
  rename_i a
  simp only [Option.some.injEq, Prod.mk.injEq] at hg
  obtain ⟨rfl, rfl⟩ := hg
  obtain ⟨h1, ⟨h3, h3'⟩⟩ := hs
  refine ⟨lhL [(1, hintBytes (cI a))], 10, [uS (cI a)], ⟨h1, trivial⟩, ?_⟩
  generalize cI a = x at *
  rw [bytes_res]
  refine ⟨⟨⟨9, x, []⟩, ⟨by simp, h3, by simp; omega, rfl⟩, by simp⟩, ?_⟩
  rintro ⟨k, y, out⟩ ⟨i1, i2, i3, i4⟩
  simp only at i1 i2 i3 i4 ⊢
  have hlen : out.length ≤ 10 := by
    have := congrArg List.length i4
    have h5 := vbk_len 9 x
    simp only [List.length_append, List.nil_append] at this
    omega
  rw [br_t (b := (out.length + 1).ble 1099511627776) (by rw [Nat.ble_eq]; omega)]
  refine br_in (fun hb => ?_) fun hb => ?_
  · simp only [decide_eq_true_eq] at hb
    cases k with
    | zero => simp at i3; omega
    | succ k =>
      rw [vbk_big (by omega)] at i4
      refine ⟨⟨k, y / 128, out ++ [y % 128 + 128]⟩, ⟨by simp; omega, by simp; omega, ?_, ?_⟩, by simp, ⟨?_, ?_, trivial⟩, trivial, trivial⟩
      · simp only
        rw [Int.ediv_lt_iff_lt_mul (by decide), ← Int.pow_succ]; exact i3
      · rw [← i4]; simp
      · rw [Int.tdiv_eq_ediv_of_nonneg i2]
        rw [w_u64]
        have : (128 : Int) ^ (k + 1 + 1) ≤ 128 ^ 10 := by
          exact_mod_cast Nat.pow_le_pow_right (by decide) (by omega)
        have : (128 : Int) ^ 10 = 1180591620717411303424 := by decide
        omega
      · rw [Int.tmod_eq_emod_of_nonneg i2, w_u64 (by omega), w_u8 (by omega)]
  · simp only [decide_eq_false_iff_not] at hb
    rw [vbk_small (by omega)] at i4
    rw [br_t (by rw [Nat.ble_eq]; omega), w_u8 (by omega), i4]; rfl

theorem zig_ok : GOK Try.prog 13 hZig := by
  refine gokW mixed tab_ok hkL_nil fun vs s r hg hs => ?_
  unfold hZig at hg
  split at hg <;> try (cases hg; done)
  rename_i a
  simp only [Option.some.injEq, Prod.mk.injEq] at hg
  obtain ⟨rfl, rfl⟩ := hg
  obtain ⟨h1, ⟨h3, h3'⟩⟩ := hs
  refine ⟨noL, 10, [iS (cI a)], ⟨h1, trivial⟩, ?_⟩
  generalize cI a = x at *
  rw [zig_res, sShr_eq]
  unfold sShl KeepZig
  rw [show min (Int.toNat 63) IntKind.i64.bits = 63 from rfl, show min (Int.toNat 1) IntKind.u64.bits = 1 from rfl]
  by_cases hx : x < 0
  · rw [if_pos hx, show x / 2 ^ 63 = -1 by omega, show IntKind.u64.wrap (-1) = 18446744073709551615 from by decide +kernel, IntKind.wrap_u64 x, IntKind.wrap_u64, bXor_u64_ones (by omega) (by omega)]
    omega
  · rw [if_neg hx, show x / 2 ^ 63 = 0 by omega, show IntKind.u64.wrap 0 = 0 from by decide +kernel, IntKind.wrap_u64 x, IntKind.wrap_u64, bXor_u64_zero (by omega) (by omega)]
    omega

theorem rzig_ok : GOK Try.prog 14 hZig := by
  refine gokW mixed tab_ok hkL_nil fun vs s r hg hs => ?_
  unfold hZig at hg
  split at hg <;> try (cases hg; done)
  rename_i a
  simp only [Option.some.injEq, Prod.mk.injEq] at hg
  obtain ⟨rfl, rfl⟩ := hg
  obtain ⟨h1, ⟨h3, h3'⟩⟩ := hs
  refine ⟨noL, 10, [iS (cI a)], ⟨h1, trivial⟩, ?_⟩
  generalize cI a = x at *
  rw [rzig_res]
  unfold KeepZig
  refine br_in (fun hb => ?_) fun hb => ?_
  · simp only [decide_eq_true_eq] at hb
    rw [if_pos hb]
    simp only [IntKind.wrap_u64, IntKind.wrap_i64]; omega
  · simp only [decide_eq_false_iff_not] at hb
    rw [if_neg hb]
    simp only [IntKind.wrap_u64, IntKind.wrap_i64]; omega

theorem zag_ok : GOK Try.prog 15 hZag := by
  refine gokW mixed tab_ok hkL_nil fun vs s r hg hs => ?_
  unfold hZag at hg
  split at hg <;> try (cases hg; done)
  rename_i a
  simp only [Option.some.injEq, Prod.mk.injEq] at hg
  obtain ⟨rfl, rfl⟩ := hg
  obtain ⟨h1, ⟨h3, h3'⟩⟩ := hs
  refine ⟨noL, 10, [uS (cI a)], ⟨h1, trivial⟩, ?_⟩
  generalize cI a = x at *
  rw [zag_res, sShr_eq, bAnd_one h3 h3']
  unfold KeepZag
  rw [show min (Int.toNat 1) IntKind.u64.bits = 1 from rfl, w_i64 (n := x / 2 ^ 1) (by omega), w_i64 (n := x % 2) (by omega), w_i64 (n := 0 - x % 2) (by omega)]
  by_cases hx : x % 2 = 1
  · rw [if_pos hx, hx, show (0 : Int) - 1 = -1 from rfl, bXor_i64_ones (by omega) (by omega)]
    rfl
  · rw [if_neg hx, show x % 2 = 0 by omega, show (0 : Int) - 0 = 0 from rfl, bXor_i64_zero (by omega) (by omega)]
    rfl

theorem rzag_ok : GOK Try.prog 16 hZag := by
  refine gokW mixed tab_ok hkL_nil fun vs s r hg hs => ?_
  unfold hZag at hg
  split at hg <;> try (cases hg; done)
  rename_i a
  simp only [Option.some.injEq, Prod.mk.injEq] at hg
  obtain ⟨rfl, rfl⟩ := hg
  obtain ⟨h1, ⟨h3, h3'⟩⟩ := hs
  refine ⟨noL, 10, [uS (cI a)], ⟨h1, trivial⟩, ?_⟩
  generalize cI a = x at *
  rw [rzag_res, Int.tmod_eq_emod_of_nonneg h3, Int.tdiv_eq_ediv_of_nonneg h3]
  unfold KeepZag
  refine br_in (fun hb => ?_) fun hb => ?_
  · simp only [decide_eq_true_eq] at hb
    rw [if_pos hb]
    simp only [IntKind.wrap_u64, IntKind.wrap_i64]; omega
  · simp only [decide_eq_false_iff_not] at hb
    rw [if_neg hb]
    simp only [IntKind.wrap_u64, IntKind.wrap_i64]; omega
end Go.Proofs.Ytcmecdnbleoniaa
