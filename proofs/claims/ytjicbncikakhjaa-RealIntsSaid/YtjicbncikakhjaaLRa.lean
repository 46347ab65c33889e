/- What real's classes, keys, order and steps answer, and the document's: the same. No condition. -/
import Derived.Test.YtjicbncikakhjaaRRe
import Derived.Test.YtjicbncikakhjaaSyW
namespace Go.Proofs.Ytjicbncikakhjaa
open SY
open Go.RowKit
set_option linter.unusedSimpArgs false
set_option linter.unusedVariables false

/-! ### Bits of words -/
theorem low_and {l : Nat} (h : l < 9223372036854775808) : l &&& 9223372036854775808 = 0 := by
  apply Nat.eq_of_testBit_eq
  intro i
  rw [show (9223372036854775808 : Nat) = 2 ^ 63 from rfl, Nat.testBit_and, Nat.testBit_two_pow, Nat.zero_testBit]
  by_cases hi : 63 = i
  · subst hi
    rw [Nat.testBit_lt_two_pow (show l < 2 ^ 63 from h)]; rfl
  · simp [hi]
theorem low_xor {l : Nat} (h : l < 9223372036854775808) : l ^^^ 9223372036854775808 = l + 9223372036854775808 := by
  have e := or_add (a := l) (n := 63) (c := 1) h
  simp only [Nat.one_mul] at e
  rw [show (9223372036854775808 : Nat) = 2 ^ 63 from rfl, ← e]
  apply Nat.eq_of_testBit_eq
  intro i
  rw [Nat.testBit_xor, Nat.testBit_or, Nat.testBit_two_pow]
  by_cases hi : 63 = i
  · subst hi
    rw [Nat.testBit_lt_two_pow (show l < 2 ^ 63 from h)]; rfl
  · simp [hi]
theorem high_xor {l : Nat} (h : l < 9223372036854775808) : (l + 9223372036854775808) ^^^ 9223372036854775808 = l := by
  rw [← low_xor h, Nat.xor_assoc, Nat.xor_self, Nat.xor_zero]
theorem high_and {l : Nat} (h : l < 9223372036854775808) : (l + 9223372036854775808) &&& 9223372036854775808 = 9223372036854775808 := by
  have e := or_add (a := l) (n := 63) (c := 1) h
  simp only [Nat.one_mul] at e
  rw [show (9223372036854775808 : Nat) = 2 ^ 63 from rfl, ← e]
  apply Nat.eq_of_testBit_eq
  intro i
  rw [Nat.testBit_and, Nat.testBit_or]
  cases h1 : (2 ^ 63 : Nat).testBit i <;> simp
theorem u_cases {x : Int} (h : KeepU x) : ∃ l : Nat, l < 9223372036854775808 ∧ (x = l ∨ x = ((l + 9223372036854775808 : Nat) : Int)) := by
  obtain ⟨h0, h1⟩ := h
  by_cases hx : x < 9223372036854775808
  · exact ⟨x.toNat, by omega, .inl (by omega)⟩
  · exact ⟨(x - 9223372036854775808).toNat, by omega, .inr (by omega)⟩
theorem sgn_and {x : Int} (h : KeepU x) : bAnd .u64 x 9223372036854775808 = if 9223372036854775808 ≤ x then 9223372036854775808 else 0 := by
  obtain ⟨l, hl, rfl | rfl⟩ := u_cases h
  · have := bAnd_u64 (a := l) (b := 9223372036854775808) (by omega) (by omega)
    rw [show ((9223372036854775808 : Nat) : Int) = 9223372036854775808 from rfl] at this
    rw [this, low_and hl, if_neg (by omega)]; rfl
  · have := bAnd_u64 (a := l + 9223372036854775808) (b := 9223372036854775808) (by omega) (by omega)
    rw [show ((9223372036854775808 : Nat) : Int) = 9223372036854775808 from rfl] at this
    rw [this, high_and hl, if_pos (by omega)]; rfl
theorem sgn_xor {x : Int} (h : KeepU x) : bXor .u64 x 9223372036854775808 = flp x := by
  unfold flp
  obtain ⟨l, hl, rfl | rfl⟩ := u_cases h
  · have := bXor_u64 (a := l) (b := 9223372036854775808) (by omega) (by omega)
    rw [show ((9223372036854775808 : Nat) : Int) = 9223372036854775808 from rfl] at this
    rw [this, low_xor hl, if_neg (by omega)]; omega
  · have := bXor_u64 (a := l + 9223372036854775808) (b := 9223372036854775808) (by omega) (by omega)
    rw [show ((9223372036854775808 : Nat) : Int) = 9223372036854775808 from rfl] at this
    rw [this, high_xor hl, if_pos (by omega)]; omega
theorem sgn_or {x : Int} (h : KeepU x) (hx : ¬ 9223372036854775808 ≤ x) : bOr .u64 x 9223372036854775808 = x + 9223372036854775808 := by
  obtain ⟨h0, h1⟩ := h
  obtain ⟨l, rfl⟩ := Int.eq_ofNat_of_zero_le h0
  have := bOr_u64 (a := l) (b := 9223372036854775808) (by omega) (by omega)
  rw [show ((9223372036854775808 : Nat) : Int) = 9223372036854775808 from rfl] at this
  have e := or_add (a := l) (n := 63) (c := 1) (by omega)
  simp only [Nat.one_mul] at e
  rw [this, show (9223372036854775808 : Nat) = 2 ^ 63 from rfl, e]; omega
theorem ones_xor {x : Int} (h : KeepU x) : bXor .u64 18446744073709551615 x = 18446744073709551615 - x := by
  have := bXor_u64_ones h.1 h.2
  have hc : bXor .u64 18446744073709551615 x = bXor .u64 x 18446744073709551615 := by
    unfold bXor; rw [BitVec.xor_comm]
  rw [hc, this]
theorem sgn_ann {x : Int} (h : KeepU x) : bAnn .u64 x 9223372036854775808 = x % 9223372036854775808 := by
  obtain ⟨h0, h1⟩ := h
  obtain ⟨a, rfl⟩ := Int.eq_ofNat_of_zero_le h0
  unfold bAnn
  rw [show IntKind.u64.bits = 64 from rfl, BitVec.toNat_and, BitVec.toNat_not, ofInt_nat (by omega), show BitVec.ofInt 64 9223372036854775808 = 9223372036854775808#64 from by decide]
  have e : a &&& (2 ^ 64 - 1 - (9223372036854775808#64).toNat) = a % 9223372036854775808 := by
    rw [show 2 ^ 64 - 1 - (9223372036854775808#64).toNat = 2 ^ 63 - 1 from by decide, Nat.and_two_pow_sub_one_eq_mod]
  rw [e, IntKind.wrap_u64]
  omega
theorem ex_and {x : Int} (h : KeepU x) : IntKind.i64.wrap (bAnd .u64 (sShr .u64 x 52) 2047) = x / 4503599627370496 % 2048 := by
  obtain ⟨h0, h1⟩ := h
  rw [sShr_eq]
  obtain ⟨a, rfl⟩ := Int.eq_ofNat_of_zero_le h0
  have e : ((a : Int) / 2 ^ (min (52 : Int).toNat IntKind.u64.bits)) = ((a / 4503599627370496 : Nat) : Int) := by
    rw [show min (52 : Int).toNat IntKind.u64.bits = 52 from rfl]; omega
  rw [e]
  have := bAnd_u64 (a := a / 4503599627370496) (b := 2047) (by omega) (by omega)
  rw [show ((2047 : Nat) : Int) = 2047 from rfl] at this
  rw [this, show (2047 : Nat) = 2 ^ 11 - 1 from rfl, Nat.and_two_pow_sub_one_eq_mod, w_i64 (by omega)]
  omega
theorem sg_shr {x : Int} (h : KeepU x) : decide (sShr .u64 x 63 = 1) = decide (9223372036854775808 ≤ x) := by
  obtain ⟨h0, h1⟩ := h
  rw [sShr_eq, show min (63 : Int).toNat IntKind.u64.bits = 63 from rfl]
  apply decide_eq_decide.2
  omega

theorem isN_eq {x : Int} (h : KeepU x) : isN (KeepN x) = nanI x := by
  obtain ⟨h0, h1⟩ := h
  unfold isN nanI KeepN infR
  apply decide_eq_decide.2
  omega
theorem sk_eq {x : Int} (h : KeepU x) : sk (KeepN x) = skI x := by
  obtain ⟨h0, h1⟩ := h
  unfold sk skI KeepN
  split <;> split <;> omega
theorem KeepN_nat {x : Int} (h : KeepU x) : ((KeepN x : Nat) : Int) = x := by
  obtain ⟨h0, h1⟩ := h
  unfold KeepN; omega
theorem cl_nan (x : Int) : decide (KeepCl x = 4) = nanI x := by
  unfold KeepCl clI nanI
  apply decide_eq_decide.2
  repeat' split <;> omega
theorem cl_zero {x : Int} (h : KeepU x) : decide (KeepCl x = 0) = decide (skI x = 0) := by
  obtain ⟨h0, h1⟩ := h
  unfold KeepCl clI skI
  apply decide_eq_decide.2
  repeat' split <;> omega
theorem cl_inf {x : Int} (h : KeepU x) (hx : ¬ 9223372036854775808 ≤ x) : decide (KeepCl x = 3) = decide (x = 9218868437227405312) := by
  obtain ⟨h0, h1⟩ := h
  unfold KeepCl clI
  apply decide_eq_decide.2
  repeat' split <;> omega
theorem key_lt {x y : Int} (hx : KeepU x) (hy : KeepU y) (h : ¬ (skI x = 0 ∧ skI y = 0)) : KeepKy x < KeepKy y ↔ skI x < skI y := by
  obtain ⟨h0, h1⟩ := hx
  obtain ⟨h2, h3⟩ := hy
  unfold KeepKy skI at *
  repeat' split at * <;> omega
theorem up_U {x : Int} (h : KeepU x) : KeepU (KeepUp x) := by
  obtain ⟨h0, h1⟩ := h
  unfold KeepUp NONE KeepU nanI
  (repeat' split) <;> simp_all <;> (unfold skI at *; omega)
theorem flp_U {x : Int} (h : KeepU x) : KeepU (flp x) := by
  obtain ⟨h0, h1⟩ := h
  unfold flp KeepU
  split <;> omega
theorem none_U : KeepU NONE := ⟨by decide, by decide⟩
theorem ng_U {x : Int} (h : KeepU x) : KeepU (KeepNg x) := by
  unfold KeepNg
  split
  · exact none_U
  · exact flp_U h

/-! ### Functions without a text -/
theorem bits_ok : GOK Try.prog 51 hBits := by
  intro vs s r hg hs
  unfold hBits at hg
  split at hg <;> try (cases hg; done)
  rename_i a
  simp only [Option.some.injEq, Prod.mk.injEq] at hg
  obtain ⟨rfl, rfl⟩ := hg
  refine .inr ⟨Extern.MathFloatBits.float64bits, ⟨Try.f51, by kernel_rfl, by kernel_rfl, by kernel_rfl, by kernel_rfl, by kernel_rfl⟩, fun g w vals _ hv => ?_⟩
  obtain ⟨v, l, rfl, h1, h2⟩ := hv.cons_left
  obtain rfl := h2.nil_left
  have h1 : DS g w (fS (cF a)) v := subS_ok hs h1
  have h1 : v = .float .f64 (cF a) := h1
  subst h1
  exact ⟨.int .u64 (cF a), w, rfl, rfl, Below.refl _ _⟩
theorem from_ok : GOK Try.prog 52 hFrom := by
  intro vs s r hg hs
  unfold hFrom at hg
  split at hg <;> try (cases hg; done)
  rename_i a
  simp only [Option.some.injEq, Prod.mk.injEq] at hg
  obtain ⟨rfl, rfl⟩ := hg
  refine .inr ⟨Extern.MathFloatBits.float64frombits, ⟨Try.f52, by kernel_rfl, by kernel_rfl, by kernel_rfl, by kernel_rfl, by kernel_rfl⟩, fun g w vals _ hv => ?_⟩
  obtain ⟨v, l, rfl, h1, h2⟩ := hv.cons_left
  obtain rfl := h2.nil_left
  have h1 : DS g w (uS (cI a)) v := subS_ok hs h1
  have h1 : v = .int .u64 (cI a) := h1
  subst h1
  exact ⟨.float .f64 (cI a).toNat, w, rfl, rfl, Below.refl _ _⟩
theorem hkE_ok : HookOK Try.prog hkE := hkL_cons bits_ok <| hkL_cons from_ok hkL_nil

/-- One of one word. -/
theorem one_ok {f : Nat} {hk : Hooks} {lh : Int → Nat → Option Hint} {F : Int → S} (hh : HookOK Try.prog hk) (hr : ∀ x, KeepU x → callT Try.prog hk tab (lh x) 10 f [uS x] (fun u => subS (F x) u)) : GOK Try.prog f (h1 (fun x => uS x) F) := by
  refine gokW mixed tab_ok hh fun vs s r hg hs => ?_
  unfold h1 at hg
  split at hg <;> try (cases hg; done)
  rename_i a
  simp only [Option.some.injEq, Prod.mk.injEq] at hg
  obtain ⟨rfl, rfl⟩ := hg
  exact ⟨lh (cI a), 10, [uS (cI a)], ⟨hs.1, trivial⟩, hr _ hs.2⟩
theorem two_ok {f : Nat} {hk : Hooks} {F : Int → Int → S} (hh : HookOK Try.prog hk) (hr : ∀ x y, KeepU x → KeepU y → callT Try.prog hk tab noL 10 f [uS x, uS y] (fun u => subS (F x y) u)) : GOK Try.prog f (h2 F) := by
  refine gokW mixed tab_ok hh fun vs s r hg hs => ?_
  unfold h2 at hg
  split at hg <;> try (cases hg; done)
  rename_i a b
  simp only [Option.some.injEq, Prod.mk.injEq] at hg
  obtain ⟨rfl, rfl⟩ := hg
  exact ⟨noL, 10, [uS (cI a), uS (cI b)], ⟨hs.1, hs.2.1, trivial⟩, hr _ _ hs.2.2.1 hs.2.2.2⟩

theorem class_ok : GOK Try.prog 11 hClass := by
  refine one_ok (lh := fun _ => noL) (F := fun x => iS (KeepCl x)) hkE_ok fun x hx => ?_
  rw [class_res, KeepN_nat hx, sgn_ann hx]
  have hm : KeepU (x % 9223372036854775808) := ⟨by omega, by omega⟩
  rw [fo_self, fo_gtr, fo_geq, fo_gtr, isN_eq hm, sk_eq hm, show isN 9218868437227405311 = false from by decide, show isN 4503599627370496 = false from by decide, show isN 0 = false from by decide, show sk 9218868437227405311 = 9218868437227405311 from by decide, show sk 4503599627370496 = 4503599627370496 from by decide, show sk 0 = 0 from by decide]
  have e1 : skI (x % 9223372036854775808) = x % 9223372036854775808 := by unfold skI; rw [if_neg (by omega)]
  rw [e1]
  unfold nanI KeepCl clI
  rw [show x % 9223372036854775808 % 9223372036854775808 = x % 9223372036854775808 by omega]
  refine ⟨rfl, rfl, rfl, br_in (fun h => ?_) fun h => ?_⟩
  · rw [if_pos (of_decide_eq_true h)]
  · have h := of_decide_eq_false h
    rw [if_neg h, show decide (9218868437227405312 < x % 9223372036854775808) = false from decide_eq_false h]
    refine br_in (fun c => ?_) fun c => br_in (fun d => ?_) fun d => br_in (fun e => ?_) fun e => ?_
    all_goals simp at c
    · rw [if_pos (by omega)]
    all_goals simp at d
    · rw [if_neg (by omega), if_pos (by omega)]
    all_goals simp at e
    · rw [if_neg (by omega), if_neg (by omega), if_pos (by omega)]
    · rw [if_neg (by omega), if_neg (by omega), if_neg (by omega)]
theorem rclass_ok : GOK Try.prog 12 hClass := by
  refine one_ok (lh := fun _ => noL) (F := fun x => iS (KeepCl x)) hkE_ok fun x hx => ?_
  rw [rclass_res, ex_and hx, Int.tmod_eq_emod_of_nonneg hx.1]
  obtain ⟨h0, h1⟩ := hx
  unfold KeepCl clI
  repeat' (refine br_in (fun h => ?_) (fun h => ?_))
  all_goals simp at *
  all_goals (repeat' split) <;> omega
theorem key_ok : GOK Try.prog 15 hKey := by
  refine one_ok (lh := fun _ => noL) (F := fun x => uS (KeepKy x)) hkE_ok fun x hx => ?_
  rw [key_res, sgn_and hx, ones_xor hx]
  unfold KeepKy
  by_cases h : 9223372036854775808 ≤ x
  · rw [if_pos h, if_pos h]; rfl
  · rw [if_neg h, if_neg h, sgn_or hx h]; rfl
theorem rkey_ok : GOK Try.prog 16 hKey := by
  refine one_ok (lh := fun _ => noL) (F := fun x => uS (KeepKy x)) hkE_ok fun x hx => ?_
  rw [rkey_res, sg_shr hx]
  obtain ⟨h0, h1⟩ := hx
  unfold KeepKy
  refine br_in (fun h => ?_) fun h => ?_ <;> simp at h
  · rw [if_pos h, w_u64 (by omega)]
  · rw [if_neg (by omega), w_u64 (by omega)]
theorem unkey_ok : GOK Try.prog 17 hUnkey := by
  refine one_ok (lh := fun _ => noL) (F := fun x => uS (KeepUk x)) hkE_ok fun x hx => ?_
  rw [unkey_res, sgn_and hx, ones_xor hx, sgn_xor hx]
  unfold KeepUk flp
  by_cases h : 9223372036854775808 ≤ x
  · rw [if_pos h, if_pos h, if_pos h]; rfl
  · rw [if_neg h, if_neg h]; rfl
theorem runkey_ok : GOK Try.prog 18 hUnkey := by
  refine one_ok (lh := fun _ => noL) (F := fun x => uS (KeepUk x)) hkE_ok fun x hx => ?_
  rw [runkey_res, sg_shr hx]
  obtain ⟨h0, h1⟩ := hx
  unfold KeepUk
  refine br_in (fun h => ?_) fun h => ?_ <;> simp at h
  · rw [if_pos h, w_u64 (by omega)]
  · rw [if_neg (by omega), w_u64 (by omega)]
theorem plain_ok : GOK Try.prog 13 hPlain := by
  refine one_ok (lh := fun _ => noL) (F := fun x => uS (KeepPl x)) hkE_ok fun x hx => ?_
  rw [plain_res, fo_self, isN_eq hx, KeepN_nat hx]
  unfold KeepPl NONE
  refine ⟨rfl, br_in (fun h => ?_) fun h => ⟨rfl, ?_⟩⟩
  · rw [if_pos h]
  · rw [if_neg (by rw [h]; decide)]
theorem hkC_ok : HookOK Try.prog hkC := hkL_cons bits_ok <| hkL_cons from_ok <| hkL_cons class_ok <| hkL_cons rclass_ok <| hkL_cons key_ok <| hkL_cons rkey_ok <| hkL_cons unkey_ok hkL_nil
theorem rplain_ok : GOK Try.prog 14 hPlain := by
  refine one_ok (lh := fun _ => noL) (F := fun x => uS (KeepPl x)) hkC_ok fun x hx => ?_
  rw [rplain_res, cl_nan]
  unfold KeepPl NONE
  refine ⟨⟨rfl, hx⟩, br_in (fun h => ?_) fun h => ?_⟩
  · rw [if_pos h]
  · rw [if_neg (by rw [h]; decide)]
theorem less_ok : GOK Try.prog 19 hLess := by
  refine two_ok (F := fun x y => bS (KeepLs x y)) hkE_ok fun x y hx hy => ?_
  rw [less_res, fo_lss, isN_eq hx, isN_eq hy, sk_eq hx, sk_eq hy]
  exact ⟨rfl, rfl, rfl⟩
theorem same_ok : GOK Try.prog 21 hSame := by
  refine two_ok (F := fun x y => bS (KeepSm x y)) hkE_ok fun x y hx hy => ?_
  rw [same_res, fo_eql, isN_eq hx, isN_eq hy, sk_eq hx, sk_eq hy]
  exact ⟨rfl, rfl, rfl⟩
theorem rless_ok : GOK Try.prog 20 hLess := by
  refine two_ok (F := fun x y => bS (KeepLs x y)) hkC_ok fun x y hx hy => ?_
  rw [rless_res, cl_nan, cl_nan, cl_zero hx, cl_zero hy]
  unfold KeepLs
  refine ⟨⟨rfl, hx⟩, br_in (fun h => ?_) fun h => ⟨⟨rfl, hy⟩, br_in (fun h' => ?_) fun h' => ⟨⟨rfl, hx⟩, br_in (fun c => ⟨⟨rfl, hy⟩, br_in (fun d => ?_) fun d => ⟨⟨rfl, hx⟩, ⟨rfl, hy⟩, ?_⟩⟩) fun c => ⟨⟨rfl, hx⟩, ⟨rfl, hy⟩, ?_⟩⟩⟩⟩
  · rw [h]; rfl
  · rw [h, h']; rfl
  · rw [h, h']
    have c := of_decide_eq_true c
    have d := of_decide_eq_true d
    simp; omega
  · rw [h, h']
    have c := of_decide_eq_true c
    have d := of_decide_eq_false d
    simp only [Bool.not_false, Bool.true_and]
    exact decide_eq_decide.2 (key_lt hx hy (by omega)).symm
  · rw [h, h']
    have c := of_decide_eq_false c
    simp only [Bool.not_false, Bool.true_and]
    exact decide_eq_decide.2 (key_lt hx hy (by omega)).symm
end Go.Proofs.Ytjicbncikakhjaa
