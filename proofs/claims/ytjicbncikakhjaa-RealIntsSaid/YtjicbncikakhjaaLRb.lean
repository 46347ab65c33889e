/- What real's lesser and greater one, next ones, sums and products answer, and the document's: the same. No condition. -/
import Derived.Test.YtjicbncikakhjaaLRa
namespace Go.Proofs.Ytjicbncikakhjaa
open SY
open Go.RowKit
set_option linter.unusedSimpArgs false
set_option linter.unusedVariables false

theorem neg_eq {a : Nat} (h : isN a = false) : (FloatKind.f64.decode a).neg = (a / 9223372036854775808 % 2 == 1) := by
  simp only [isN, decide_eq_false_iff_not] at h
  show (Ieee.double.read a).neg = _
  by_cases h1 : a % 9223372036854775808 < infR
  · obtain ⟨m, k, e, _⟩ := read_num h1
    rw [e]; rfl
  · rw [read_inf (by omega)]; rfl
theorem neg_U {x : Int} (h : KeepU x) : ((KeepN x) / 9223372036854775808 % 2 == 1) = decide (9223372036854775808 ≤ x) := by
  obtain ⟨h0, h1⟩ := h
  rw [Bool.eq_iff_iff]
  unfold KeepN
  simp; omega
theorem mm_fr {m : Bool} {x y : Int} {r : Nat} (hx : KeepU x) (hy : KeepU y) (h : KeepFr (.mx m) (KeepN x) (KeepN y) r) :
    ((nanI x || nanI y) = true ∧ isN r = true) ∨ ((nanI x || nanI y) = false ∧ isN r = false ∧ (r : Int) = if m = true then KeepHi x y else KeepLo x y) := by
  unfold KeepFr fqBits mmBits at h
  simp only at h
  cases hn : (nanI x || nanI y)
  · refine .inr ⟨rfl, ?_⟩
    simp only [Bool.or_eq_false_iff] at hn
    have nx := isN_eq hx
    have ny := isN_eq hy
    rw [hn.1] at nx
    rw [hn.2] at ny
    rw [order_eq nx ny, sk_eq hx, sk_eq hy, neg_eq nx, neg_U hx] at h
    have vx := KeepN_nat hx
    have vy := KeepN_nat hy
    have e : r = (if m = true then (if KeepKy y ≤ KeepKy x then KeepN x else KeepN y) else (if KeepKy x ≤ KeepKy y then KeepN x else KeepN y)) := by
      rw [compare_int] at h
      obtain ⟨x0, x1⟩ := hx
      obtain ⟨y0, y1⟩ := hy
      unfold KeepKy
      cases m
      · simp only [Bool.false_eq_true, if_false] at h ⊢
        by_cases c1 : skI x < skI y
        · rw [if_pos c1] at h
          simp only at h
          unfold skI at c1
          rw [h]; (repeat' split at *) <;> first | rfl | (exfalso; omega)
        · rw [if_neg c1] at h
          by_cases c2 : skI x = skI y
          · rw [if_pos c2] at h
            simp only [decide_eq_true_eq] at h
            unfold skI at c1 c2
            rw [h]; (repeat' split at *) <;> first | rfl | (exfalso; omega) | (congr 1; omega)
          · rw [if_neg c2] at h
            simp only at h
            unfold skI at c1 c2
            rw [h]; (repeat' split at *) <;> first | rfl | (exfalso; omega)
      · simp only [if_true] at h ⊢
        by_cases c1 : skI x < skI y
        · rw [if_pos c1] at h
          simp only at h
          unfold skI at c1
          rw [h]; (repeat' split at *) <;> first | rfl | (exfalso; omega)
        · rw [if_neg c1] at h
          by_cases c2 : skI x = skI y
          · rw [if_pos c2] at h
            simp only [decide_eq_true_eq] at h
            unfold skI at c1 c2
            rw [h]; (repeat' split at *) <;> first | rfl | (exfalso; omega) | (congr 1; omega)
          · rw [if_neg c2] at h
            simp only at h
            unfold skI at c1 c2
            rw [h]; (repeat' split at *) <;> first | rfl | (exfalso; omega)
    have hno : (nanI x || nanI y) = false := by rw [hn.1, hn.2]; rfl
    unfold KeepHi KeepLo
    rw [hno, e]
    cases m <;> simp only [Bool.false_eq_true, if_false, if_true]
    · split
      · exact ⟨nx, vx⟩
      · exact ⟨ny, vy⟩
    · split
      · exact ⟨nx, vx⟩
      · exact ⟨ny, vy⟩
  · refine .inl ⟨rfl, ?_⟩
    have : Ieee.double.order (KeepN x) (KeepN y) = none := by
      apply order_nan
      rw [isN_eq hx, isN_eq hy]
      simpa using hn
    rw [this] at h
    exact nanW_isN h
theorem least_ok : GOK Try.prog 23 hLeast := by
  refine two_ok (F := fun x y => uS (KeepLo x y)) hkE_ok fun x y hx hy => ?_
  rw [least_res]
  refine ⟨rfl, rfl, fun r hr => ?_⟩
  rw [fo_self]
  rcases mm_fr hx hy hr with ⟨h1, h2⟩ | ⟨h1, h2, h3⟩
  · rw [h2, br_tt]; unfold KeepLo; rw [if_pos h1]; rfl
  · rw [h2, br_ff]; exact ⟨rfl, h3.symm⟩
theorem most_ok : GOK Try.prog 25 hMost := by
  refine two_ok (F := fun x y => uS (KeepHi x y)) hkE_ok fun x y hx hy => ?_
  rw [most_res]
  refine ⟨rfl, rfl, fun r hr => ?_⟩
  rw [fo_self]
  rcases mm_fr hx hy hr with ⟨h1, h2⟩ | ⟨h1, h2, h3⟩
  · rw [h2, br_tt]; unfold KeepHi; rw [if_pos h1]; rfl
  · rw [h2, br_ff]; exact ⟨rfl, h3.symm⟩
theorem rleast_ok : GOK Try.prog 24 hLeast := by
  refine two_ok (F := fun x y => uS (KeepLo x y)) hkC_ok fun x y hx hy => ?_
  rw [rleast_res, cl_nan, cl_nan]
  unfold KeepLo
  refine ⟨⟨rfl, hx⟩, br_in (fun h => ?_) fun h => ⟨⟨rfl, hy⟩, br_in (fun h' => ?_) fun h' => ⟨⟨rfl, hx⟩, ⟨rfl, hy⟩, br_in (fun c => ?_) fun c => ?_⟩⟩⟩
  · rw [h]; rfl
  · rw [h, h']; rfl
  · rw [h, h']; simp at c; simp [c]
  · rw [h, h']; simp at c; simp; omega
theorem rmost_ok : GOK Try.prog 26 hMost := by
  refine two_ok (F := fun x y => uS (KeepHi x y)) hkC_ok fun x y hx hy => ?_
  rw [rmost_res, cl_nan, cl_nan]
  unfold KeepHi
  refine ⟨⟨rfl, hx⟩, br_in (fun h => ?_) fun h => ⟨⟨rfl, hy⟩, br_in (fun h' => ?_) fun h' => ⟨⟨rfl, hx⟩, ⟨rfl, hy⟩, br_in (fun c => ?_) fun c => ?_⟩⟩⟩
  · rw [h]; rfl
  · rw [h, h']; rfl
  · rw [h, h']; simp at c; simp [c]
  · rw [h, h']; simp at c; simp; omega

theorem up_ok : GOK Try.prog 27 hUp := by
  refine one_ok (lh := fun _ => noL) (F := fun x => uS (KeepUp x)) hkC_ok fun x hx => ?_
  rw [up_res, cl_nan, cl_zero hx, fo_gtr, isN_eq hx, sk_eq hx, show isN 9218868437227405311 = false from by decide, show sk 9218868437227405311 = 9218868437227405311 from by decide]
  unfold KeepUp NONE
  have hk : KeepU (KeepKy x) := by obtain ⟨h0, h1⟩ := hx; unfold KeepKy KeepU; split <;> omega
  have hx' := hx
  obtain ⟨h0, h1⟩ := hx'
  refine ⟨⟨rfl, hx⟩, br_in (fun h => ?_) fun h => br_in (fun c => ?_) fun c => ⟨rfl, br_in (fun d => ?_) fun d => ?_⟩⟩
  · rw [if_pos h]
  · rw [if_neg (by rw [h]; decide), if_pos (of_decide_eq_true c)]
  · have c := of_decide_eq_false c
    rw [h] at d
    simp at d
    have e : x = 9218868437227405312 := by
      have hn : nanI x = false := h
      unfold nanI at hn
      have hn := of_decide_eq_false hn
      unfold skI at d
      split at d <;> omega
    rw [if_neg (by rw [h]; decide), if_neg c, if_pos e]
  · have c := of_decide_eq_false c
    rw [h] at d
    simp at d
    have hn := of_decide_eq_false (show decide (9218868437227405312 < x % 9223372036854775808) = false from h)
    rw [if_neg (by rw [h]; decide), if_neg c]
    have ex : ¬ x = 9218868437227405312 := fun e => by rw [e] at d; exact absurd d (by decide)
    rw [if_neg ex]
    have hk1 : IntKind.u64.wrap (KeepKy x + 1) = KeepKy x + 1 := w_u64 (by unfold KeepKy; unfold skI at c; split <;> omega)
    rw [hk1]
    refine ⟨⟨rfl, hx⟩, ⟨rfl, ?_⟩, ?_⟩
    · unfold KeepKy KeepU; split <;> omega
    · unfold KeepUk KeepKy
      unfold skI at c
      (repeat' split) <;> omega
theorem rup_ok : GOK Try.prog 28 hUp := by
  refine one_ok (lh := fun _ => noL) (F := fun x => uS (KeepUp x)) hkC_ok fun x hx => ?_
  rw [rup_res, cl_nan, cl_zero hx, sg_shr hx]
  unfold KeepUp NONE
  have hx' := hx
  obtain ⟨h0, h1⟩ := hx'
  refine ⟨⟨rfl, hx⟩, br_in (fun h => ?_) fun h => ⟨⟨rfl, hx⟩, br_in (fun c => ?_) fun c => br_in (fun d => ?_) fun d => ⟨⟨rfl, hx⟩, ?_⟩⟩⟩
  · rw [if_pos h]
  · rw [if_neg (by rw [h]; decide), if_pos (of_decide_eq_true c)]
  · have c := of_decide_eq_false c
    have d := of_decide_eq_true d
    rw [if_neg (by rw [h]; decide), if_neg c, if_neg (by omega), if_pos d, w_u64 (by omega)]
  · have c := of_decide_eq_false c
    have d := of_decide_eq_false d
    rw [cl_inf hx d]
    refine br_in (fun e => ?_) fun e => ?_
    · have e := of_decide_eq_true e
      rw [if_neg (by rw [h]; decide), if_neg c, if_pos e]
    · have e := of_decide_eq_false e
      rw [if_neg (by rw [h]; decide), if_neg c, if_neg e, if_neg d, w_u64 (by omega)]
theorem nan_flp {x : Int} (h : KeepU x) : nanI (flp x) = nanI x := by
  obtain ⟨h0, h1⟩ := h
  unfold nanI flp
  apply decide_eq_decide.2
  split <;> omega
theorem nan_none : nanI NONE = true := by decide
theorem nan_up {x : Int} (h : KeepU x) (hn : nanI x = false) : nanI (KeepUp x) = false := by
  have hn' := of_decide_eq_false (show decide (9218868437227405312 < x % 9223372036854775808) = false from hn)
  obtain ⟨h0, h1⟩ := h
  unfold KeepUp
  rw [if_neg (by rw [hn]; decide)]
  unfold nanI skI
  apply decide_eq_false
  (repeat' split) <;> omega
theorem rneg_ok : GOK Try.prog 50 hNeg := by
  refine one_ok (lh := fun _ => noL) (F := fun x => uS (KeepNg x)) (hk := hkN) (hkL_cons bits_ok <| hkL_cons from_ok <| hkL_cons rclass_ok hkL_nil) fun x hx => ?_
  rw [rneg_res, cl_nan, sg_shr hx]
  unfold KeepNg NONE flp
  obtain ⟨h0, h1⟩ := hx
  refine ⟨⟨rfl, h0, h1⟩, br_in (fun h => ?_) fun h => br_in (fun d => ?_) fun d => ?_⟩
  · rw [if_pos h]
  · have d := of_decide_eq_true d
    rw [if_neg (by rw [h]; decide), if_pos d, w_u64 (by omega)]
  · have d := of_decide_eq_false d
    rw [if_neg (by rw [h]; decide), if_neg d, w_u64 (by omega)]
theorem hkD_ok : HookOK Try.prog hkD := hkL_cons bits_ok <| hkL_cons from_ok <| hkL_cons rclass_ok <| hkL_cons rplain_ok <| hkL_cons rless_ok <| hkL_cons up_ok <| hkL_cons rup_ok <| hkL_cons rneg_ok hkL_nil
theorem down_ok : GOK Try.prog 29 hDown := by
  refine one_ok (lh := fun _ => noL) (F := fun x => uS (KeepDn x)) hkD_ok fun x hx => ?_
  rw [down_res, sgn_xor hx]
  have hf := flp_U hx
  have hu := up_U hf
  rw [sgn_xor hu]
  refine ⟨⟨rfl, hf⟩, ?_⟩
  unfold KeepDn
  cases hn : nanI x
  · have hn2 := nan_up hf (by rw [nan_flp hx, hn])
    have hne : KeepUp (flp x) ≠ 9221120237041090560 := fun e => by
      rw [e] at hn2; exact absurd hn2 (by decide)
    rw [br_t (by simp [hne])]; rfl
  · have : KeepUp (flp x) = 9221120237041090560 := by unfold KeepUp NONE; rw [nan_flp hx, hn]; rfl
    rw [br_f (by simp [this])]; rfl
theorem rdown_ok : GOK Try.prog 30 hDown := by
  refine one_ok (lh := fun _ => noL) (F := fun x => uS (KeepDn x)) hkD_ok fun x hx => ?_
  rw [rdown_res]
  have hg := ng_U hx
  have hu := up_U hg
  refine ⟨⟨rfl, hx⟩, ⟨rfl, hg⟩, ⟨rfl, hu⟩, ?_⟩
  unfold KeepDn
  cases hn : nanI x
  · have e : KeepNg x = flp x := by unfold KeepNg; rw [hn]; rfl
    have hf := flp_U hx
    have hn2 := nan_up hf (by rw [nan_flp hx, hn])
    rw [e]
    unfold KeepNg; rw [hn2]
  · have e : KeepNg x = NONE := by unfold KeepNg; rw [hn]; rfl
    rw [e, if_pos rfl]; decide
theorem rsame_ok : GOK Try.prog 22 hSame := by
  refine two_ok (F := fun x y => bS (KeepSm x y)) hkD_ok fun x y hx hy => ?_
  rw [rsame_res, cl_nan, cl_nan]
  unfold KeepSm KeepLs
  refine ⟨⟨rfl, hx⟩, ?_⟩
  cases h : nanI x
  · refine br_y rfl ⟨⟨rfl, hy⟩, ?_⟩
    cases h' : nanI y
    · refine br_y rfl ⟨⟨rfl, rfl, hx, hy⟩, br_in (fun c => ⟨⟨rfl, rfl, hy, hx⟩, ?_⟩) fun c => ?_⟩
      · simp at c ⊢
        rw [Bool.eq_iff_iff]; simp; omega
      · simp at c ⊢; omega
    · exact br_n rfl rfl
  · exact br_n rfl rfl

/-! ### Sums and products -/
theorem write_num (d : Ieee.Datum) (h : ∀ s t, d ≠ .nan s t) : isN (Ieee.double.write d) = false := by
  have e3 : Ieee.double.infRung = infR := by decide
  have key : ∀ (neg : Bool) (r : Nat), r ≤ infR → isN (Ieee.double.word neg r) = false := by
    intro neg r hr
    have e1 : Ieee.double.signWeight = 9223372036854775808 := by decide
    unfold isN Ieee.Format.word
    rw [e1]
    unfold infR at *
    apply decide_eq_false
    split <;> omega
  cases d with
  | number neg m p =>
    show isN (Ieee.double.nearest neg m p) = false
    unfold Ieee.Format.nearest
    split
    · exact key _ _ (Nat.zero_le _)
    · exact key _ _ (by rw [e3]; exact Nat.min_le_right _ _)
  | infinity s => exact key _ _ (by rw [e3]; exact Nat.le_refl _)
  | nan s t => exact absurd rfl (h s t)
theorem fb_num {op : BinOp} {a b v : Nat} (h : floatBits op .f64 a b = some v) : isN v = false ∧ v < 18446744073709551616 := by
  refine ⟨?_, ?_⟩
  · have key : ∀ {o : Option Ieee.Datum}, (∀ d, o = some d → ∀ s t, d ≠ .nan s t) → o.map Ieee.double.write = some v → isN v = false := by
      intro o ho hm
      cases o with
      | none => cases hm
      | some d =>
        simp only [Option.map_some, Option.some.injEq] at hm
        rw [← hm]; exact write_num d (ho d rfl)
    unfold floatBits at h
    split at h <;> try (cases h; done)
    · refine key (fun d hd s t e => ?_) h
      subst e
      revert hd
      generalize Ieee.double.read a = p
      generalize Ieee.double.read b = q
      intro hd
      unfold Ieee.Datum.sum at hd
      (repeat' split at hd) <;> simp at hd
    · refine key (fun d hd s t e => ?_) h
      subst e
      revert hd
      generalize Ieee.double.read a = p
      generalize (Ieee.double.read b).opposite = q
      intro hd
      unfold Ieee.Datum.sum at hd
      (repeat' split at hd) <;> simp at hd
    · refine key (fun d hd s t e => ?_) h
      subst e
      revert hd
      generalize Ieee.double.read a = p
      generalize Ieee.double.read b = q
      intro hd
      unfold Ieee.Datum.product at hd
      (repeat' split at hd) <;> simp at hd
    · refine key (fun d hd s t e => ?_) h
      subst e
      revert hd
      generalize Ieee.double.read a = p
      generalize Ieee.double.read b = q
      intro hd
      unfold Ieee.Datum.quotient at hd
      (repeat' split at hd) <;> simp at hd
  · have := floatBits_wf h
    simpa [Lit.wf] using this
theorem ar_fr {op : BinOp} {x y : Int} {r : Nat} (h : KeepFr (.ar op) (KeepN x) (KeepN y) r) : (isN r = true ∧ KeepAr op x y = NONE ∧ r < 18446744073709551616) ∨ (isN r = false ∧ KeepAr op x y = r ∧ r < 18446744073709551616) := by
  unfold KeepFr fqBits at h
  simp only at h
  unfold KeepAr arI
  show _ ∨ _
  cases hb : floatBits op .f64 (KeepN x) (KeepN y) with
  | none =>
    rw [hb] at h
    simp only at h
    refine .inl ⟨nanW_isN h, ?_, h.2⟩
    have hb' : floatBits op .f64 x.toNat y.toNat = none := hb
    rw [hb']
  | some v =>
    rw [hb] at h
    simp only at h
    subst h
    have hb' : floatBits op .f64 x.toNat y.toNat = some r := hb
    exact .inr ⟨(fb_num hb).1, by rw [hb'], (fb_num hb).2⟩
theorem ar_code {op : BinOp} {x y : Int} : ∀ r : Nat, KeepFr (.ar op) (KeepN x) (KeepN y) r → br (KeepFo .neq r r) (KeepAr op x y = 9221120237041090560) (Value.float FloatKind.f64 r = Value.float FloatKind.f64 r ∧ KeepAr op x y = (r : Int)) := by
  intro r hr
  rw [fo_self]
  rcases ar_fr hr with ⟨h1, h2, _⟩ | ⟨h1, h2, _⟩
  · rw [h1, br_tt]; exact h2
  · rw [h1, br_ff]; exact ⟨rfl, h2⟩
theorem ar_ref {op : BinOp} {x y : Int} : ∀ r : Nat, KeepFr (.ar op) (KeepN x) (KeepN y) r → Value.float FloatKind.f64 r = Value.float FloatKind.f64 r ∧ ((r : Int) = (r : Int) ∧ KeepU (r : Int)) ∧ KeepAr op x y = KeepPl (r : Int) := by
  intro r hr
  have hn : KeepN (r : Int) = r := rfl
  rcases ar_fr hr with ⟨h1, h2, h3⟩ | ⟨h1, h2, h3⟩
  · have hu : KeepU (r : Int) := ⟨by omega, by omega⟩
    have := isN_eq hu
    rw [hn, h1] at this
    refine ⟨rfl, ⟨rfl, hu⟩, ?_⟩
    rw [h2]; unfold KeepPl; rw [← this]; rfl
  · have hu : KeepU (r : Int) := ⟨by omega, by omega⟩
    have := isN_eq hu
    rw [hn, h1] at this
    refine ⟨rfl, ⟨rfl, hu⟩, ?_⟩
    rw [h2]; unfold KeepPl; rw [← this]; rfl
theorem add_ok : GOK Try.prog 31 (hAr .add) := two_ok (F := fun x y => uS (KeepAr .add x y)) hkE_ok fun x y hx hy => by rw [add_res]; exact ⟨rfl, rfl, ar_code⟩
theorem sub_ok : GOK Try.prog 33 (hAr .sub) := two_ok (F := fun x y => uS (KeepAr .sub x y)) hkE_ok fun x y hx hy => by rw [sub_res]; exact ⟨rfl, rfl, ar_code⟩
theorem mul_ok : GOK Try.prog 35 (hAr .mul) := two_ok (F := fun x y => uS (KeepAr .mul x y)) hkE_ok fun x y hx hy => by rw [mul_res]; exact ⟨rfl, rfl, ar_code⟩
theorem div_ok : GOK Try.prog 37 (hAr .quo) := two_ok (F := fun x y => uS (KeepAr .quo x y)) hkE_ok fun x y hx hy => by rw [div_res]; exact ⟨rfl, rfl, ar_code⟩
theorem radd_ok : GOK Try.prog 32 (hAr .add) := two_ok (F := fun x y => uS (KeepAr .add x y)) hkD_ok fun x y hx hy => by rw [radd_res]; exact ⟨rfl, rfl, ar_ref⟩
theorem rsub_ok : GOK Try.prog 34 (hAr .sub) := two_ok (F := fun x y => uS (KeepAr .sub x y)) hkD_ok fun x y hx hy => by rw [rsub_res]; exact ⟨rfl, rfl, ar_ref⟩
theorem rmul_ok : GOK Try.prog 36 (hAr .mul) := two_ok (F := fun x y => uS (KeepAr .mul x y)) hkD_ok fun x y hx hy => by rw [rmul_res]; exact ⟨rfl, rfl, ar_ref⟩
theorem rdiv_ok : GOK Try.prog 38 (hAr .quo) := two_ok (F := fun x y => uS (KeepAr .quo x y)) hkD_ok fun x y hx hy => by rw [rdiv_res]; exact ⟨rfl, rfl, ar_ref⟩
end Go.Proofs.Ytjicbncikakhjaa
