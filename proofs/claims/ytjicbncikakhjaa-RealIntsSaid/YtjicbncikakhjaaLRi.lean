/- Layer 5's laws: whole numbers, and reals. No condition. -/
import Derived.Test.YtjicbncikakhjaaRRi
namespace Go.Proofs.Ytjicbncikakhjaa
open SY
open Go.RowKit
set_option linter.unusedSimpArgs false
set_option linter.unusedVariables false
set_option exponentiation.threshold 2000
set_option maxRecDepth 100000

/-! ### A real's number -/
theorem E_eq {x : Int} (hx : KeepU x) : IntKind.i64.wrap (bAnd .u64 (sShr .u64 x 52) 2047) = (KeepE x : Int) := by
  rw [ex_and hx]
  obtain ⟨h0, h1⟩ := hx
  unfold KeepE; omega
theorem M_eq {x : Int} (hx : KeepU x) : IntKind.u64.wrap (x.tmod 4503599627370496 + 4503599627370496) = (KeepM x : Int) := by
  rw [Int.tmod_eq_emod_of_nonneg hx.1, IntKind.wrap_u64]
  obtain ⟨h0, h1⟩ := hx
  unfold KeepM; omega
theorem M_lt (x : Int) : KeepM x < 9007199254740992 := by unfold KeepM; omega
theorem whole_EM {x : Int} (hx : KeepU x) : whole x.toNat = if 1075 ≤ KeepE x then KeepM x * 2 ^ (KeepE x - 1075) else if KeepE x < 1023 then 0 else KeepM x / 2 ^ (1075 - KeepE x) := by
  have hM := M_lt x
  have e1 : x.toNat % 9223372036854775808 / 4503599627370496 = KeepE x := by unfold KeepE; omega
  have e2 : 4503599627370496 + x.toNat % 9223372036854775808 % 4503599627370496 = KeepM x := by unfold KeepM; omega
  unfold whole V
  by_cases h : x.toNat % 9223372036854775808 < 4503599627370496
  · have : KeepE x = 0 := by omega
    rw [if_pos h, this, if_neg (by omega), if_pos (by omega)]
    exact Nat.div_eq_of_lt (Nat.lt_of_lt_of_le h (by decide))
  · have : 1 ≤ KeepE x := by omega
    rw [if_neg h, e1, e2]
    by_cases a : 1075 ≤ KeepE x
    · rw [if_pos a, show KeepE x - 1 = KeepE x - 1075 + 1074 by omega, Nat.pow_add, ← Nat.mul_assoc, Nat.mul_div_cancel _ (Nat.two_pow_pos _)]
    · rw [if_neg a]
      have e : 2 ^ 1074 = 2 ^ (1075 - KeepE x) * 2 ^ (KeepE x - 1) := by rw [← Nat.pow_add]; congr 1; omega
      rw [e, Nat.mul_div_mul_right _ _ (Nat.two_pow_pos _)]
      by_cases b : KeepE x < 1023
      · rw [if_pos b]
        refine Nat.div_eq_of_lt (Nat.lt_of_lt_of_le hM ?_)
        exact Nat.le_trans (by decide : 9007199254740992 ≤ 2 ^ 53) (Nat.pow_le_pow_right (by decide) (by omega))
      · rw [if_neg b]
theorem ti_big {x : Int} (hx : KeepU x) (hn : nanI x = false) (h : 1086 ≤ KeepE x) : KeepTi x = if 9223372036854775808 ≤ x then -9223372036854775808 else 9223372036854775807 := by
  obtain ⟨h0, h1⟩ := id hx
  unfold KeepE at h
  unfold KeepTi tiI
  rw [hn, if_neg (by decide)]
  unfold skI
  (repeat' split) <;> omega
theorem ti_small {x : Int} (hx : KeepU x) (hn : nanI x = false) (h : KeepE x < 1086) : KeepTi x = if 9223372036854775808 ≤ x then -(whole x.toNat : Int) else (whole x.toNat : Int) := by
  obtain ⟨h0, h1⟩ := id hx
  unfold KeepE at h
  unfold KeepTi tiI
  rw [hn, if_neg (by decide), if_neg (by unfold skI; split <;> omega), if_neg (by unfold skI; split <;> omega)]
  rfl
theorem pow_10 {k : Nat} (h : k ≤ 10) : 2 ^ k ≤ 1024 := Nat.le_trans (Nat.pow_le_pow_right (by decide) h) (by decide)
theorem upm_mk {x : Int} {k m : Nat} (h1 : 1075 ≤ k) (h2 : k = 1075 ∨ k ≤ KeepE x) (h3 : m = KeepM x * 2 ^ (k - 1075)) : KeepUpm x ⟨k, m⟩ := ⟨h1, h2, h3⟩
theorem dnm_l {x : Int} {m : Nat} (h1 : 1075 ≤ KeepE x) (h3 : m = KeepM x * 2 ^ (KeepE x - 1075)) : KeepDnm x ⟨KeepE x, m⟩ := .inl ⟨h1, rfl, h3⟩
theorem dnm_r {x : Int} {k m : Nat} (h1 : KeepE x < 1075) (h2 : KeepE x ≤ k) (h3 : k ≤ 1075) (h4 : m = KeepM x / 2 ^ (k - KeepE x)) : KeepDnm x ⟨k, m⟩ := .inr ⟨h1, h2, h3, h4⟩
theorem mu_lt {a k : Nat} (h : k < a) : a - (k + 1) < a - k := by omega
theorem i64_nat {k : Nat} (h : k < 9223372036854775807) : ((k + 1 : Nat) : Int) = IntKind.i64.wrap ((k : Int) + 1) := by rw [IntKind.wrap_i64]; omega
theorem u64_two {m : Nat} (h : m < 9223372036854775808) : ((m * 2 : Nat) : Int) = IntKind.u64.wrap ((m : Int) * 2) := by rw [IntKind.wrap_u64]; omega
theorem u64_half {m : Nat} (h : m < 9223372036854775808) : ((m / 2 : Nat) : Int) = IntKind.u64.wrap ((m : Int).tdiv 2) := by rw [IntKind.wrap_u64, Int.tdiv_eq_ediv_of_nonneg (by omega)]; omega
theorem hkH_ok : HookOK Try.prog hkH := hkL_cons rclass_ok hkL_nil
theorem rto_ok : GOK Try.prog 42 hToInt := by
  refine one_ok (lh := fun x => lhL [(1, hintUpm x), (3, hintDnm x)]) (F := fun x => iS (KeepTi x)) hkH_ok fun x hx => ?_
  have hM := M_lt x
  rw [rto_res, E_eq hx, M_eq hx, cl_nan, sg_shr hx]
  refine ⟨⟨rfl, hx⟩, br_in (fun h => ?_) fun hn => br_in (fun a => ?_) fun a => br_in (fun b => ?_) fun b => ?_⟩
  · unfold KeepTi tiI; rw [if_pos h]
  · have a := of_decide_eq_true a
    have t := ti_big hx hn (by omega)
    refine br_in (fun c => ?_) fun c => ?_
    · rw [t, if_pos (of_decide_eq_true c)]
    · rw [t, if_neg (of_decide_eq_false c)]
  · have a := of_decide_eq_false a
    have b := of_decide_eq_true b
    have t := ti_small hx hn (by omega)
    have w : whole x.toNat = 0 := by rw [whole_EM hx, if_neg (by omega), if_pos (by omega)]
    rw [t, w]; split <;> rfl
  · have a := of_decide_eq_false a
    have b := of_decide_eq_false b
    have a' : KeepE x < 1086 := by omega
    have t := ti_small hx hn (by omega)
    rw [whole_EM hx] at t
    refine ⟨⟨⟨1075, KeepM x⟩, upm_mk (Nat.le_of_eq rfl) (.inl rfl) (by rw [Nat.sub_self, Nat.pow_zero, Nat.mul_one]), ⟨rfl, rfl, trivial⟩, trivial⟩, fun z hz => br_in (fun c => ?_) fun c => ⟨?_, fun y hy => br_in (fun d => ?_) fun d => ?_⟩⟩
    · have c := of_decide_eq_true c
      obtain ⟨z1, z2, z3⟩ := hz
      have p := pow_10 (k := z.k - 1075) (by omega)
      have q : z.m ≤ 9007199254740991 * 1024 := by rw [z3]; exact Nat.mul_le_mul (by omega) p
      exact ⟨⟨z.k + 1, z.m * 2⟩, upm_mk (by omega) (.inr (by omega)) (by rw [z3, show z.k + 1 - 1075 = z.k - 1075 + 1 by omega, Nat.pow_succ, Nat.mul_assoc]), mu_lt (by omega), ⟨i64_nat (by omega), u64_two (by omega), trivial⟩, trivial⟩
    · have c := of_decide_eq_false c
      obtain ⟨z1, z2, z3⟩ := hz
      by_cases e : 1075 ≤ KeepE x
      · have : z.k = KeepE x := by omega
        exact ⟨⟨KeepE x, z.m⟩, dnm_l e (by rw [z3, this]), ⟨rfl, rfl, trivial⟩, trivial⟩
      · exact ⟨⟨KeepE x, z.m⟩, dnm_r (by omega) (Nat.le_refl _) (by omega) (by rw [z3, show z.k - 1075 = 0 by omega, Nat.sub_self, Nat.pow_zero, Nat.mul_one, Nat.div_one]), ⟨rfl, rfl, trivial⟩, trivial⟩
    · have d := of_decide_eq_true d
      rcases hy with ⟨y1, y2, y3⟩ | ⟨y1, y2, y3, y4⟩
      · omega
      · have hl : y.m < 9007199254740992 := by rw [y4]; exact Nat.lt_of_le_of_lt (Nat.div_le_self _ _) hM
        exact ⟨⟨y.k + 1, y.m / 2⟩, dnm_r y1 (by omega) (by omega) (by rw [y4, show y.k + 1 - KeepE x = y.k - KeepE x + 1 by omega, Nat.pow_succ, Nat.div_div_eq_div_mul]), mu_lt (by omega), ⟨i64_nat (by omega), u64_half (by omega), trivial⟩, trivial⟩
    · have d := of_decide_eq_false d
      have hm : y.m = (if 1075 ≤ KeepE x then KeepM x * 2 ^ (KeepE x - 1075) else if KeepE x < 1023 then 0 else KeepM x / 2 ^ (1075 - KeepE x)) ∧ y.m < 9223372036854775808 := by
        rcases hy with ⟨y1, y2, y3⟩ | ⟨y1, y2, y3, y4⟩
        · rw [if_pos y1, ← y2]
          refine ⟨y3, ?_⟩
          have p := pow_10 (k := y.k - 1075) (by omega)
          have q := Nat.mul_le_mul (show KeepM x ≤ 9007199254740991 by omega) p
          rw [y3]; omega
        · have : y.k = 1075 := by omega
          rw [if_neg (by omega), if_neg (by omega), ← this]
          refine ⟨y4, ?_⟩
          rw [y4]; exact Nat.lt_of_le_of_lt (Nat.div_le_self _ _) (by omega)
      obtain ⟨q1, q2⟩ := hm
      rw [← q1] at t
      refine br_in (fun c => ?_) fun c => ?_
      · rw [t, if_pos (of_decide_eq_true c), IntKind.wrap_i64, IntKind.wrap_i64]; omega
      · rw [t, if_neg (of_decide_eq_false c), IntKind.wrap_i64]; omega
end Go.Proofs.Ytjicbncikakhjaa
