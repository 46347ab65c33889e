/- Layer 5's laws: the ones that are none. No condition. -/
import Derived.Test.YtjicbncikakhjaaRRn
namespace Go.Proofs.Ytjicbncikakhjaa
open SY
open Go.RowKit
set_option linter.unusedSimpArgs false
set_option linter.unusedVariables false
set_option exponentiation.threshold 2000

theorem V_zero_iff {r : Nat} (h : V r = 0) : r = 0 := by
  rcases Nat.eq_zero_or_pos r with e | e
  · exact e
  · have := V_lt e; omega
theorem shape {x : Int} (hx : KeepU x) (h : nanI x = false) : (KeepCl x = 3 ∧ Ieee.double.read x.toNat = .infinity (decide (9223372036854775808 ≤ x))) ∨ (KeepCl x = 0 ∧ ∃ e, Ieee.double.read x.toNat = .number (decide (9223372036854775808 ≤ x)) 0 e) ∨ (KeepCl x ≠ 3 ∧ KeepCl x ≠ 0 ∧ ∃ m e, m ≠ 0 ∧ Ieee.double.read x.toNat = .number (decide (9223372036854775808 ≤ x)) m e) := by
  have hs := neg_U hx
  obtain ⟨h0, h1⟩ := id hx
  unfold nanI at h
  have h := of_decide_eq_false h
  have hr : ((x.toNat % 9223372036854775808 : Nat) : Int) = x % 9223372036854775808 := by omega
  have hs : (x.toNat / 9223372036854775808 % 2 == 1) = decide (9223372036854775808 ≤ x) := hs
  unfold KeepCl clI
  by_cases c : x % 9223372036854775808 = 9218868437227405312
  · refine .inl ⟨by rw [if_neg h, if_pos c], ?_⟩
    rw [read_inf (by unfold infR; omega), hs]
  · obtain ⟨m, k, e, hv⟩ := read_num (a := x.toNat) (by unfold infR; omega)
    rw [hs] at e
    by_cases hm : m = 0
    · subst hm
      have := V_zero_iff (r := x.toNat % 9223372036854775808) (by rw [← hv, Nat.zero_mul])
      exact .inr (.inl ⟨by rw [if_neg h, if_neg c, if_neg (by omega), if_neg (by omega)], _, e⟩)
    · have : x.toNat % 9223372036854775808 ≠ 0 := fun q => by
        rw [q, V_zero] at hv
        rcases Nat.mul_eq_zero.1 hv with h | h
        · exact hm h
        · exact absurd h (Nat.ne_of_gt (Nat.two_pow_pos _))
      refine .inr (.inr ⟨?_, ?_, m, _, hm, e⟩)
      · rw [if_neg h, if_neg c]; (repeat' split) <;> omega
      · rw [if_neg h, if_neg c]; (repeat' split) <;> omega
theorem nan_read {x : Int} (hx : KeepU x) (h : nanI x = true) : ∃ s t, Ieee.double.read x.toNat = .nan s t := by
  obtain ⟨h0, h1⟩ := id hx
  unfold nanI at h
  have h := of_decide_eq_true h
  obtain ⟨s, t, e, _⟩ := read_nan (a := x.toNat) (by unfold infR; omega)
  exact ⟨s, t, e⟩
theorem ar_none {op : BinOp} {x y : Int} : KeepAr op x y = 9221120237041090560 ↔ floatBits op .f64 x.toNat y.toNat = none := by
  unfold KeepAr arI
  cases h : floatBits op .f64 x.toNat y.toNat with
  | none => simp [NONE]
  | some v =>
    have hv := (fb_num h).1
    simp only [reduceCtorEq, iff_false]
    intro e
    have : v = 9221120237041090560 := by omega
    rw [this] at hv
    exact absurd hv (by decide)
theorem ar_U (op : BinOp) (x y : Int) : KeepU (KeepAr op x y) := by
  unfold KeepAr arI
  cases h : floatBits op .f64 x.toNat y.toNat with
  | none => exact none_U
  | some v => have := (fb_num h).2; exact ⟨by simp, by simp; omega⟩
theorem ar_cl {op : BinOp} {x y : Int} (h4 : KeepCl (KeepAr op x y) = 4) : KeepAr op x y = 9221120237041090560 := by
  have hn : nanI (KeepAr op x y) = true := by rw [← cl_nan, h4]; rfl
  rw [← isN_eq (ar_U op x y)] at hn
  revert hn
  unfold KeepAr arI
  cases h : floatBits op .f64 x.toNat y.toNat with
  | none => intro _; rfl
  | some v =>
    intro hn
    have hv := (fb_num h).1
    have : isN v = true := hn
    rw [hv] at this; cases this
theorem fb_add (a b : Nat) : floatBits .add .f64 a b = ((Ieee.double.read a).sum (Ieee.double.read b)).map Ieee.double.write := rfl
theorem fb_sub (a b : Nat) : floatBits .sub .f64 a b = ((Ieee.double.read a).sum (Ieee.double.read b).opposite).map Ieee.double.write := rfl
theorem fb_mul (a b : Nat) : floatBits .mul .f64 a b = ((Ieee.double.read a).product (Ieee.double.read b)).map Ieee.double.write := rfl
theorem fb_div (a b : Nat) : floatBits .quo .f64 a b = ((Ieee.double.read a).quotient 54 (Ieee.double.read b)).map Ieee.double.write := rfl
theorem sgn_same {x y : Int} (hx : KeepU x) (hy : KeepU y) (nx : KeepCl x = 3) (ny : KeepCl y = 3) : (decide (9223372036854775808 ≤ x) = decide (9223372036854775808 ≤ y)) ↔ x = y := by
  obtain ⟨_, _⟩ := hx
  obtain ⟨_, _⟩ := hy
  have a : x % 9223372036854775808 = 9218868437227405312 := by unfold KeepCl clI at nx; (repeat' split at nx) <;> omega
  have b : y % 9223372036854775808 = 9218868437227405312 := by unfold KeepCl clI at ny; (repeat' split at ny) <;> omega
  rw [decide_eq_decide]; omega
theorem nan_all {x y : Int} (hx : KeepU x) (hy : KeepU y) (h : nanI x = true ∨ nanI y = true) : KeepAr .add x y = 9221120237041090560 ∧ KeepAr .sub x y = 9221120237041090560 ∧ KeepAr .mul x y = 9221120237041090560 ∧ KeepAr .quo x y = 9221120237041090560 := by
  rw [ar_none, ar_none, ar_none, ar_none, fb_add, fb_sub, fb_mul, fb_div]
  rcases h with h | h
  · obtain ⟨s, t, e⟩ := nan_read hx h
    rw [e]
    exact ⟨rfl, rfl, rfl, rfl⟩
  · obtain ⟨s, t, e⟩ := nan_read hy h
    rw [e]
    generalize Ieee.double.read x.toNat = d
    cases d <;> exact ⟨rfl, rfl, rfl, rfl⟩
theorem f_all {x y : Int} (hx : KeepU x) (hy : KeepU y) (nx : nanI x = false) (ny : nanI y = false) :
    (KeepAr .add x y = 9221120237041090560 ↔ KeepCl x = 3 ∧ KeepCl y = 3 ∧ x ≠ y) ∧ (KeepAr .sub x y = 9221120237041090560 ↔ KeepCl x = 3 ∧ x = y) ∧
    (KeepAr .mul x y = 9221120237041090560 ↔ KeepCl x = 3 ∧ KeepCl y = 0 ∨ KeepCl x = 0 ∧ KeepCl y = 3) ∧ (KeepAr .quo x y = 9221120237041090560 ↔ KeepCl x = 0 ∧ KeepCl y = 0 ∨ KeepCl x = 3 ∧ KeepCl y = 3) := by
  rw [ar_none, ar_none, ar_none, ar_none, fb_add, fb_sub, fb_mul, fb_div]
  simp only [Option.map_eq_none_iff]
  have hs := sgn_same hx hy
  have hxy : x = y → KeepCl x = KeepCl y := fun h => by rw [h]
  rcases shape hx nx with ⟨a, ea⟩ | ⟨a, e, ea⟩ | ⟨a, a', m, e, hm, ea⟩ <;> rcases shape hy ny with ⟨b, eb⟩ | ⟨b, f, eb⟩ | ⟨b, b', n, f, hn, eb⟩ <;> rw [ea, eb] <;> simp [Ieee.Datum.sum, Ieee.Datum.product, Ieee.Datum.quotient, Ieee.Datum.opposite, a, b, *] <;> (try (intro h; have q := hxy h; omega))
theorem sub_self {x : Int} (hx : KeepU x) (nx : nanI x = false) (h3 : KeepCl x ≠ 3) : KeepAr .sub x x = 0 := by
  have key : ∀ s m e, (((Ieee.Datum.number s m e).sum (Ieee.Datum.number s m e).opposite).map Ieee.double.write) = some 0 := by
    intro s m e
    simp only [Ieee.Datum.opposite, Ieee.Datum.sum]
    have ht : Ieee.signed s m (e - min e e).toNat + Ieee.signed (!s) m (e - min e e).toNat = 0 := by
      unfold Ieee.signed; cases s <;> simp <;> omega
    rw [ht]
    simp only [if_true, Option.map_some, Int.natAbs_zero]
    cases s <;> rfl
  have k2 : floatBits .sub .f64 x.toNat x.toNat = some 0 := by
    rw [fb_sub]
    rcases shape hx nx with ⟨a, ea⟩ | ⟨a, e, ea⟩ | ⟨a, a', m, e, hm, ea⟩
    · exact absurd a h3
    · rw [ea]; exact key _ _ _
    · rw [ea]; exact key _ _ _
  unfold KeepAr arI
  rw [k2]; rfl
theorem div_zero {x : Int} (hx : KeepU x) (nx : nanI x = false) (h3 : KeepCl x ≠ 3) (h0 : KeepCl x ≠ 0) : KeepAr .quo x 0 = bOr .u64 9218868437227405312 (bAnd .u64 x 9223372036854775808) := by
  have k2 : floatBits .quo .f64 x.toNat (0 : Int).toNat = some (if 9223372036854775808 ≤ x then 18442240474082181120 else 9218868437227405312) := by
    rw [fb_div]
    rcases shape hx nx with ⟨a, ea⟩ | ⟨a, e, ea⟩ | ⟨a, a', m, e, hm, ea⟩
    · exact absurd a h3
    · exact absurd a h0
    · rw [ea, show Ieee.double.read (0 : Int).toNat = .number false 0 (-1074) from by decide]
      simp only [Ieee.Datum.quotient, if_true, if_neg hm, Option.map_some]
      by_cases c : 9223372036854775808 ≤ x
      · rw [decide_eq_true c, if_pos c]; rfl
      · rw [decide_eq_false c, if_neg c]; rfl
  unfold KeepAr arI
  rw [k2, sgn_and hx]
  by_cases c : 9223372036854775808 ≤ x
  · rw [if_pos c, if_pos c]; decide
  · rw [if_neg c, if_neg c]; decide
theorem cl_gt {x : Int} (h : nanI x = false) : decide (KeepCl x > 2) = decide (KeepCl x = 3) := by
  unfold nanI at h
  have h := of_decide_eq_false h
  unfold KeepCl clI
  rw [if_neg h]; (repeat' split) <;> decide
theorem at4 {P : Int → Prop} {a b c d : Int} (ha : P a) (hb : P b) (hc : P c) (hd : P d) {k : Nat} (hk : k < 4) : P (gI [a, b, c, d] k) := by
  match k, hk with
  | 0, _ => exact ha
  | 1, _ => exact hb
  | 2, _ => exact hc
  | 3, _ => exact hd
theorem none_walk (W : World) (x y : Int) (hx : KeepU x) (hy : KeepU y) :
    Calls Try.prog 9 #[.int .u64 x, .int .u64 y] W fun e w' => e = .returned (.bool true) ∧ Below W.heap.size W w' := by
  refine law (vals := [.int .u64 x, .int .u64 y]) (lh := lhL [(1, hintNone x y)]) (m := 10) (args := [uS x, uS y]) mixed tab_ok hkJ_ok ?_ ⟨rfl, rfl, trivial⟩
  rw [none_res]
  refine ⟨trivial, ⟨rfl, rfl, hx, hy⟩, ⟨rfl, rfl, hx, hy⟩, ⟨rfl, rfl, hx, hy⟩, ⟨rfl, rfl, hx, hy⟩, ⟨⟨0⟩, Nat.zero_le _, by simp⟩, fun z hz => br_in (fun hk => ?_) fun _ => ?_⟩
  · have hk := of_decide_eq_true hk
    have hk : z.1 < 4 := by omega
    have hw : IntKind.i64.wrap ((z.1 : Int) + 1) = ((z.1 + 1 : Nat) : Int) := by
      have e : ((z.1 : Int) + 1) = ((z.1 + 1 : Nat) : Int) := by omega
      rw [e]; exact wrap_small _ (by omega) (by omega)
    have hu : KeepU (gI [KeepAr .add x y, KeepAr .sub x y, KeepAr .mul x y, KeepAr .quo x y] z.1) := at4 (P := KeepU) (ar_U _ _ _) (ar_U _ _ _) (ar_U _ _ _) (ar_U _ _ _) hk
    have hc : KeepCl (gI [KeepAr .add x y, KeepAr .sub x y, KeepAr .mul x y, KeepAr .quo x y] z.1) = 4 → gI [KeepAr .add x y, KeepAr .sub x y, KeepAr .mul x y, KeepAr .quo x y] z.1 = 9221120237041090560 :=
      at4 (P := fun v => KeepCl v = 4 → v = 9221120237041090560) ar_cl ar_cl ar_cl ar_cl hk
    have hn : KeepCl x = 4 ∨ KeepCl y = 4 → gI [KeepAr .add x y, KeepAr .sub x y, KeepAr .mul x y, KeepAr .quo x y] z.1 = 9221120237041090560 := fun h => by
      have h : nanI x = true ∨ nanI y = true := by
        rw [← cl_nan, ← cl_nan]; simpa using h
      obtain ⟨a, b, c, d⟩ := nan_all hx hy h
      exact at4 (P := fun v => v = 9221120237041090560) a b c d hk
    have next : ∃ z' : KN, KeepIx z' ∧ 4 - z'.1 < 4 - z.1 ∧ ((z'.1 : Int) = IntKind.i64.wrap ((z.1 : Int) + 1)) :=
      ⟨⟨z.1 + 1⟩, hk, by show 4 - (z.1 + 1) < 4 - z.1; omega, hw.symm⟩
    have b1 : decide ((z.1 : Int) < 4) = true := decide_eq_true (by omega)
    have b2 : (z.1 + 1).ble 4 = true := by simp; omega
    simp only [Int.toNat_natCast, and_true, b1, b2, br_tt, Bool.and_self, hx, hy, true_and, and_self]
    obtain ⟨v, ev⟩ : ∃ v, gI [KeepAr .add x y, KeepAr .sub x y, KeepAr .mul x y, KeepAr .quo x y] z.1 = v := ⟨_, rfl⟩
    simp only [ev] at hu hc hn ⊢
    simp only [hu, true_and]
    by_cases h4 : KeepCl x = 4
    · have hv := hn (.inl h4)
      by_cases h1 : KeepCl v = 4 <;> simp [h1, h4, hv, br_tt, br_ff, next, show KeepCl 9221120237041090560 = 4 from by decide]
    · by_cases k4 : KeepCl y = 4
      · have hv := hn (.inr k4)
        by_cases h1 : KeepCl v = 4 <;> simp [h1, h4, k4, hv, br_tt, br_ff, next, show KeepCl 9221120237041090560 = 4 from by decide]
      · by_cases h1 : KeepCl v = 4
        · have hv := hc h1
          simp [h4, k4, hv, br_tt, br_ff, next, show KeepCl 9221120237041090560 = 4 from by decide]
        · simp [h1, h4, k4, br_tt, br_ff, next]
  · have g0 : gI [KeepAr BinOp.add x y, KeepAr BinOp.sub x y, KeepAr BinOp.mul x y, KeepAr BinOp.quo x y] 0 = KeepAr .add x y := rfl
    have g1 : gI [KeepAr BinOp.add x y, KeepAr BinOp.sub x y, KeepAr BinOp.mul x y, KeepAr BinOp.quo x y] 1 = KeepAr .sub x y := rfl
    have g2 : gI [KeepAr BinOp.add x y, KeepAr BinOp.sub x y, KeepAr BinOp.mul x y, KeepAr BinOp.quo x y] 2 = KeepAr .mul x y := rfl
    have g3 : gI [KeepAr BinOp.add x y, KeepAr BinOp.sub x y, KeepAr BinOp.mul x y, KeepAr BinOp.quo x y] 3 = KeepAr .quo x y := rfl
    refine ⟨⟨rfl, hx⟩, ⟨rfl, hy⟩, br_in (fun _ => ⟨⟨rfl, none_U⟩, ⟨rfl, none_U⟩, rfl⟩) fun nx => br_in (fun _ => ⟨⟨rfl, none_U⟩, ⟨rfl, none_U⟩, rfl⟩) fun ny => ?_⟩
    rw [cl_nan] at nx ny
    obtain ⟨f0, f1, f2, f3⟩ := f_all hx hy nx ny
    have s0 := sub_self hx nx
    have d0 := div_zero hx nx
    have zu : KeepU 0 := ⟨by decide, by decide⟩
    simp only [g0, g1, g2, g3, cl_gt nx, f0, f1, f2, f3]
    clear g0 g1 g2 g3 f0 f1 f2 f3
    by_cases h3 : KeepCl x = 3 <;> by_cases h0 : KeepCl x = 0 <;> by_cases k3 : KeepCl y = 3 <;> by_cases k0 : KeepCl y = 0 <;> by_cases e : x = y <;>
      (try subst e) <;> simp [*, br_tt, br_ff]
end Go.Proofs.Ytjicbncikakhjaa
