/- Draw's chances, words and answers. No condition. -/
import Derived.Test.YthjbgidnoiedmaaRD8
namespace Go.Proofs.Ythjbgidnoiedmaa
open SY
open Go.RowKit
set_option linter.unusedSimpArgs false
set_option linter.unusedVariables false

theorem w_i64 {x : Int} (h : -9223372036854775808 ≤ x ∧ x < 9223372036854775808) : IntKind.i64.wrap x = x := by rw [IntKind.wrap_i64]; omega
theorem w_u64 {x : Int} (h : 0 ≤ x ∧ x < 18446744073709551616) : IntKind.u64.wrap x = x := by rw [IntKind.wrap_u64]; omega
theorem ex_and {x : Int} (h : KeepU x) : IntKind.i64.wrap (bAnd .u64 (sShr .u64 x 52) 2047) = x / 4503599627370496 % 2048 := by
  obtain ⟨h0, h1⟩ := h
  rw [sShr_eq]
  obtain ⟨a, rfl⟩ := Int.eq_ofNat_of_zero_le h0
  have e : ((a : Int) / 2 ^ (min (52 : Int).toNat IntKind.u64.bits)) = ((a / 4503599627370496 : Nat) : Int) := by
    rw [show min (52 : Int).toNat IntKind.u64.bits = 52 from rfl]; omega
  rw [e]
  have := bAnd_u64 (a := a / 4503599627370496) (b := 2047) (by omega) (by omega)
  rw [show ((2047 : Nat) : Int) = 2047 from rfl] at this
  rw [this, show (2047 : Nat) = 2 ^ 11 - 1 from rfl, Nat.and_two_pow_sub_one_eq_mod, w_i64 (by omega)]
  omega
theorem sg_shr {x : Int} (h : KeepU x) : decide (sShr .u64 x 63 = 1) = decide (9223372036854775808 ≤ x) := by
  obtain ⟨h0, h1⟩ := h
  rw [sShr_eq, show min (63 : Int).toNat IntKind.u64.bits = 63 from rfl]
  apply decide_eq_decide.2
  omega

theorem isN_eq {x : Int} (h : KeepU x) : isN (KeepN x) = nanI x := by
  obtain ⟨h0, h1⟩ := h
  unfold isN nanI KeepN infR
  apply decide_eq_decide.2
  omega
theorem sk_eq {x : Int} (h : KeepU x) : sk (KeepN x) = skI x := by
  obtain ⟨h0, h1⟩ := h
  unfold sk skI KeepN
  split <;> split <;> omega
theorem cl_nan (x : Int) : decide (KeepCl x = 4) = nanI x := by
  unfold KeepCl clI nanI
  apply decide_eq_decide.2
  repeat' split <;> omega
theorem cl_zero {x : Int} (h : KeepU x) : decide (KeepCl x = 0) = decide (skI x = 0) := by
  obtain ⟨h0, h1⟩ := h
  unfold KeepCl clI skI
  apply decide_eq_decide.2
  repeat' split <;> omega
theorem key_lt {x y : Int} (hx : KeepU x) (hy : KeepU y) (h : ¬ (skI x = 0 ∧ skI y = 0)) : KeepKy x < KeepKy y ↔ skI x < skI y := by
  obtain ⟨h0, h1⟩ := hx
  obtain ⟨h2, h3⟩ := hy
  unfold KeepKy skI at *
  repeat' split at * <;> omega
theorem one_ok {f : Nat} {hk : Hooks} {lh : Int → Nat → Option Hint} {F : Int → S} (hh : HookOK Try.prog hk) (hr : ∀ x, KeepU x → callT Try.prog hk tab (lh x) 10 f [uS x] (fun u => subS (F x) u)) : GOK Try.prog f (h1 (fun x => uS x) F) := by
  refine gokW mixed tab_ok hh fun vs s r hg hs => ?_
  unfold h1 at hg
  split at hg <;> try (cases hg; done)
  rename_i a
  simp only [Option.some.injEq, Prod.mk.injEq] at hg
  obtain ⟨rfl, rfl⟩ := hg
  exact ⟨lh (cI a), 10, [uS (cI a)], ⟨hs.1, trivial⟩, hr _ hs.2⟩
theorem two_ok {f : Nat} {hk : Hooks} {F : Int → Int → S} (hh : HookOK Try.prog hk) (hr : ∀ x y, KeepU x → KeepU y → callT Try.prog hk tab noL 10 f [uS x, uS y] (fun u => subS (F x y) u)) : GOK Try.prog f (h2 F) := by
  refine gokW mixed tab_ok hh fun vs s r hg hs => ?_
  unfold h2 at hg
  split at hg <;> try (cases hg; done)
  rename_i a b
  simp only [Option.some.injEq, Prod.mk.injEq] at hg
  obtain ⟨rfl, rfl⟩ := hg
  exact ⟨noL, 10, [uS (cI a), uS (cI b)], ⟨hs.1, hs.2.1, trivial⟩, hr _ _ hs.2.2.1 hs.2.2.2⟩

theorem rclass_ok : GOK Try.prog 35 hClass := by
  refine one_ok (lh := fun _ => noL) (F := fun x => iS (KeepCl x)) hkF_ok fun x hx => ?_
  rw [rclass_res, ex_and hx, Int.tmod_eq_emod_of_nonneg hx.1]
  obtain ⟨h0, h1⟩ := hx
  unfold KeepCl clI
  repeat' (refine br_in (fun h => ?_) (fun h => ?_))
  all_goals simp at *
  all_goals (repeat' split) <;> omega
theorem rkey_ok : GOK Try.prog 36 hKey := by
  refine one_ok (lh := fun _ => noL) (F := fun x => uS (KeepKy x)) hkF_ok fun x hx => ?_
  rw [rkey_res, sg_shr hx]
  obtain ⟨h0, h1⟩ := hx
  unfold KeepKy
  refine br_in (fun h => ?_) fun h => ?_ <;> simp at h
  · rw [if_pos h, w_u64 (by omega)]
  · rw [if_neg (by omega), w_u64 (by omega)]
theorem hkY_ok : HookOK Try.prog hkY := hkL_cons rclass_ok <| hkL_cons rkey_ok hkL_nil
theorem rless_ok : GOK Try.prog 30 hLess := by
  refine two_ok (F := fun x y => bS (KeepLs x y)) hkY_ok fun x y hx hy => ?_
  rw [rless_res, cl_nan, cl_nan, cl_zero hx, cl_zero hy]
  unfold KeepLs
  refine ⟨⟨rfl, hx⟩, br_in (fun h => ?_) fun h => ⟨⟨rfl, hy⟩, br_in (fun h' => ?_) fun h' => ⟨⟨rfl, hx⟩, br_in (fun c => ⟨⟨rfl, hy⟩, br_in (fun d => ?_) fun d => ⟨⟨rfl, hx⟩, ⟨rfl, hy⟩, ?_⟩⟩) fun c => ⟨⟨rfl, hx⟩, ⟨rfl, hy⟩, ?_⟩⟩⟩⟩
  · rw [h]; rfl
  · rw [h, h']; rfl
  · rw [h, h']
    have c := of_decide_eq_true c
    have d := of_decide_eq_true d
    simp; omega
  · rw [h, h']
    have c := of_decide_eq_true c
    have d := of_decide_eq_false d
    simp only [Bool.not_false, Bool.true_and]
    exact decide_eq_decide.2 (key_lt hx hy (by omega)).symm
  · rw [h, h']
    have c := of_decide_eq_false c
    simp only [Bool.not_false, Bool.true_and]
    exact decide_eq_decide.2 (key_lt hx hy (by omega)).symm
def KeepCh (w p : Int) : Bool := KeepLs (KeepUn w) p
theorem un_U {w : Int} (hw : KeepU w) : KeepU (KeepUn w) := by
  have := un_lt (m := w.toNat / 2048) (by have := hw.1; have := hw.2; omega)
  unfold KeepUn KeepU; omega
theorem hkXc_ok : HookOK Try.prog (hkXc KeepUn) := hkL_cons unit_ok <| hkL_cons runit_ok <| hkL_cons rless_ok <| hkL_cons bits_ok <| hkL_cons from_ok hkL_nil
theorem chance_ok : GOK Try.prog 19 (hChanceV KeepCh) := by
  refine two_ok (F := fun x y => bS (KeepCh x y)) hkXc_ok fun x y hx hy => ?_
  rw [chance_res]
  have c1 : ∀ x, cI (S.t (T.c (SC.v (Value.int IntKind.u64 x)))) = x := fun _ => rfl
  simp only [c1]
  rw [fo_lss, isN_eq (un_U hx), isN_eq hy, sk_eq (un_U hx), sk_eq hy]
  refine ⟨⟨trivial, hx⟩, trivial, trivial, ?_⟩; rfl
theorem rchance_ok : GOK Try.prog 20 (hChanceV KeepCh) := by
  refine two_ok (F := fun x y => bS (KeepCh x y)) hkXc_ok fun x y hx hy => ?_
  rw [rchance_res]
  have c1 : ∀ x, cI (S.t (T.c (SC.v (Value.int IntKind.u64 x)))) = x := fun _ => rfl
  simp only [c1]
  refine ⟨⟨trivial, hx⟩, ⟨trivial, trivial, un_U hx, hy⟩, ?_⟩; rfl
end Go.Proofs.Ythjbgidnoiedmaa
