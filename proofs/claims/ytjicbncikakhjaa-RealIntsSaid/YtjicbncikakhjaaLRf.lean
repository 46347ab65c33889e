/- What real's numbers, and the way back, and its ticks answer. No condition. -/
import Derived.Test.YtjicbncikakhjaaRRf
namespace Go.Proofs.Ytjicbncikakhjaa
open SY
open Go.RowKit
set_option linter.unusedSimpArgs false
set_option linter.unusedVariables false
set_option exponentiation.threshold 2000

theorem ceil_run {P : Program} {w : World} {x : Nat} (hn : ∀ s t, FloatKind.f64.decode x ≠ .nan s t) : (Extern.MathFloor.toIntegral "math.archCeil" .up #[.float .f64 x]).run P w = .ok (.float .f64 (KeepCeil x)) w := by
  unfold KeepCeil
  delta Extern.MathFloor.toIntegral
  revert hn
  generalize FloatKind.decode = D
  revert D
  have key : ∀ (G : (FloatKind → Nat → Ieee.Datum) → Prop), (∀ d, G (fun _ _ => d)) → (∀ D, G (fun _ _ => D .f64 x) → G D) → ∀ D, G D := fun G h1 h2 D => h2 D (h1 _)
  refine key _ ?_ ?_
  · intro d hn
    cases d with
    | nan s t => exact absurd rfl (hn s t)
    | number s m p => rfl
    | infinity s => rfl
  · intro D h hn
    exact h hn
theorem ceil_ok : GOK Try.prog 54 hCeil := by
  intro vs s r hg hs
  unfold hCeil at hg
  split at hg <;> try (cases hg; done)
  rename_i a
  simp only [Option.some.injEq, Prod.mk.injEq] at hg
  obtain ⟨rfl, rfl⟩ := hg
  refine .inr ⟨Extern.MathFloor.toIntegral "math.archCeil" .up, ⟨Try.f54, by kernel_rfl, by kernel_rfl, by kernel_rfl, by kernel_rfl, by kernel_rfl⟩, fun g w vals _ hv => ?_⟩
  obtain ⟨v, l, rfl, h1, h2⟩ := hv.cons_left
  obtain rfl := h2.nil_left
  have h1 : DS g w (fS (cF a)) v := subS_ok hs.1 h1
  have h1 : v = .float .f64 (cF a) := h1
  subst h1
  refine ⟨.float .f64 (KeepCeil (cF a)), w, ?_, rfl, Below.refl _ _⟩
  have hn : ∀ s t, FloatKind.f64.decode (cF a) ≠ .nan s t := fun s t e => by
    have hn : isN (cF a) = false := hs.2
    simp only [isN, decide_eq_false_iff_not] at hn
    have e : Ieee.double.read (cF a) = .nan s t := e
    rcases Nat.lt_or_ge (cF a % 9223372036854775808) infR with h | h
    · obtain ⟨m, k, e', _⟩ := read_num h
      rw [e'] at e; cases e
    · rw [read_inf (by omega)] at e; cases e
  exact ceil_run hn
theorem hkF_ok : HookOK Try.prog hkF := hkL_cons bits_ok <| hkL_cons from_ok <| hkL_cons ceil_ok hkL_nil
theorem fromint_ok : GOK Try.prog 39 hFromInt := by
  refine gokW mixed tab_ok hkF_ok fun vs s r hg hs => ?_
  unfold hFromInt at hg
  split at hg <;> try (cases hg; done)
  rename_i a
  simp only [Option.some.injEq, Prod.mk.injEq] at hg
  obtain ⟨rfl, rfl⟩ := hg
  refine ⟨noL, 10, [iS (cI a)], ⟨hs.1, trivial⟩, ?_⟩
  rw [fromint_res]
  exact ⟨rfl, rfl⟩

theorem whole_lt {a : Nat} {c : Nat} (h : a % 9223372036854775808 < c) (hc : V c ≤ 9223372036854775808 * 2 ^ 1074) : whole a < 9223372036854775808 := by
  unfold whole
  rw [Nat.div_lt_iff_lt_mul (Nat.two_pow_pos _)]
  exact Nat.lt_of_lt_of_le (V_lt h) hc
theorem V63 : V 4890909195324358656 = 9223372036854775808 * 2 ^ 1074 := by
  unfold V
  rw [if_neg (by decide), show 4890909195324358656 % 4503599627370496 = 0 from by decide, show 4890909195324358656 / 4503599627370496 - 1 = 1085 from by decide, Nat.add_zero, show (4503599627370496 : Nat) = 2 ^ 52 from rfl, show (9223372036854775808 : Nat) = 2 ^ 63 from rfl, ← Nat.pow_add]
theorem V40 : V 4787326403894837248 = 1099511627776 * 2 ^ 1074 := by
  unfold V
  rw [if_neg (by decide), show 4787326403894837248 % 4503599627370496 = 0 from by decide, show 4787326403894837248 / 4503599627370496 - 1 = 1062 from by decide, Nat.add_zero, show (4503599627370496 : Nat) = 2 ^ 52 from rfl, show (1099511627776 : Nat) = 2 ^ 40 from rfl, ← Nat.pow_add]
theorem sgn_eq {x : Int} (h : KeepU x) : (x.toNat / 9223372036854775808 % 2 = 1) ↔ 9223372036854775808 ≤ x := by
  obtain ⟨h0, h1⟩ := h
  omega
theorem toint_ok : GOK Try.prog 41 hToInt := by
  refine one_ok (lh := fun _ => noL) (F := fun x => iS (KeepTi x)) hkF_ok fun x hx => ?_
  rw [toint_res, fo_self, fo_geq, fo_lss, isN_eq hx, sk_eq hx, show isN 4890909195324358656 = false from by decide, show isN 14114281232179134464 = false from by decide, show sk 4890909195324358656 = 4890909195324358656 from by decide, show sk 14114281232179134464 = -4890909195324358656 from by decide]
  unfold KeepTi tiI
  refine ⟨rfl, br_in (fun h => ?_) fun h => br_in (fun c => ?_) fun c => br_in (fun d => ?_) fun d => ?_⟩
  · rw [if_pos h]
  · rw [h] at c
    simp at c
    rw [if_neg (by rw [h]; decide), if_pos c]
  · rw [h] at c d
    simp at c d
    rw [if_neg (by rw [h]; decide), if_neg (by omega), if_pos (by omega)]
  · rw [h] at c d
    simp at c d
    have hx' := hx
    obtain ⟨h0, h1⟩ := hx'
    have hr : KeepN x % 9223372036854775808 ≤ 4890909195324358656 := by
      unfold KeepN
      unfold skI at c d
      split at c <;> omega
    by_cases he : KeepN x % 9223372036854775808 = 4890909195324358656
    · have hs : skI x = -4890909195324358656 := by
        unfold KeepN at he
        unfold skI at *
        split at c <;> omega
      have hw : whole (KeepN x) = 9223372036854775808 := by
        unfold whole; rw [he, V63, Nat.mul_div_cancel _ (Nat.two_pow_pos _)]
      have hneg : 9223372036854775808 ≤ x := by
        unfold skI at hs
        split at hs <;> omega
      obtain ⟨q1, q2⟩ := f2i_num (a := KeepN x) (i := -9223372036854775808) (by rw [he]; decide) (by rw [if_pos (show KeepN x / 9223372036854775808 % 2 = 1 from (sgn_eq hx).2 hneg), hw]; rfl) (by decide) (by decide)
      rw [if_neg (by rw [h]; decide), if_neg (by omega), if_pos (by omega)]
      exact br_y q1 q2.symm
    · have hw := whole_lt (a := KeepN x) (c := 4890909195324358656) (by omega) (by rw [V63]; exact Nat.le_refl _)
      have hs : ¬ skI x ≤ -4890909195324358656 := by
        unfold KeepN at he
        unfold skI at *
        split at c <;> omega
      obtain ⟨q1, q2⟩ := f2i_num (a := KeepN x) (i := mgI x) (by unfold infR; omega) (by
        unfold mgI
        have hk : x.toNat = KeepN x := rfl
        simp only [← hk, sgn_eq hx]) (by unfold mgI; have hk : x.toNat = KeepN x := rfl; rw [hk]; split <;> omega) (by unfold mgI; have hk : x.toNat = KeepN x := rfl; rw [hk]; split <;> omega)
      rw [if_neg (by rw [h]; decide), if_neg (by omega), if_neg hs]
      exact br_y q1 q2.symm
theorem rgI_lt {m : Nat} (h : m ≤ 9007199254740992) : rgI m < infR := Nat.lt_of_le_of_lt (rgI_le (by omega)) (by decide)
theorem near_rgI {n : Nat} (h : n ≤ 9007199254740992) : Ieee.double.nearest false n 0 = rgI n := by
  have hi := i2f_eq (n : Int) (by rw [Int.natAbs_natCast]; omega)
  rw [if_neg (by omega), Int.natAbs_natCast] at hi
  rw [← hi]
  unfold KeepI2F FloatKind.nearest FloatKind.encode
  rw [Int.natAbs_natCast, decide_eq_false (by omega)]
  rfl
theorem ticks_ok : GOK Try.prog 43 hTicks := by
  refine one_ok (lh := fun _ => noL) (F := fun x => iS (KeepTk x)) hkF_ok fun x hx => ?_
  rw [ticks_res, fo_gtr, fo_gtr, isN_eq hx, sk_eq hx, show isN 4787326403894837248 = false from by decide, show isN 0 = false from by decide, show sk 4787326403894837248 = 4787326403894837248 from by decide, show sk 0 = 0 from by decide]
  unfold KeepTk
  cases h : nanI x
  · simp only [Bool.not_false, Bool.true_and, Bool.false_eq_true, if_false]
    refine ⟨trivial, br_in (fun c => ?_) fun c => br_in (fun d => ⟨⟨trivial, by unfold KeepNum; rw [isN_eq hx]; exact h⟩, ?_⟩) fun d => ?_⟩
    · rw [if_pos (of_decide_eq_true c)]
    · have c := of_decide_eq_false c
      have d := of_decide_eq_true d
      rw [if_neg c, if_pos d]
      have hx' := hx
      obtain ⟨h0, h1⟩ := hx'
      have hk : x.toNat = KeepN x := rfl
      have hsx : skI x = x := by unfold skI at *; split at d <;> first | omega | rfl
      have hlt : KeepN x % 9223372036854775808 ≤ 4787326403894837248 := by rw [hsx] at c; unfold KeepN; omega
      have hpos : (KeepN x / 9223372036854775808 % 2 == 1) = false := by rw [hsx] at c; unfold KeepN; simp; omega
      obtain ⟨m, k, e, hv⟩ := read_num (a := KeepN x) (by unfold infR; omega)
      rw [hpos] at e
      have hcl : KeepCeil (KeepN x) = rgI (upI x).toNat ∧ 0 ≤ upI x ∧ upI x ≤ 1099511627776 := by
        have hup : (whole (KeepN x) + if V (KeepN x % 9223372036854775808) % 2 ^ 1074 = 0 then 0 else 1) ≤ 1099511627776 := by
          unfold whole
          rcases Nat.lt_or_eq_of_le hlt with hl | hl
          · have hV := V_lt hl
            rw [V40] at hV
            have := Nat.div_lt_of_lt_mul (m := V (KeepN x % 9223372036854775808)) (n := 2 ^ 1074) (k := 1099511627776) (by rw [Nat.mul_comm]; exact hV)
            split <;> omega
          · rw [hl, V40, Nat.mul_div_cancel _ (Nat.two_pow_pos _), Nat.mul_mod_left, if_pos rfl]; omega
        have hu : upI x = ((whole (KeepN x) + if V (KeepN x % 9223372036854775808) % 2 ^ 1074 = 0 then 0 else 1 : Nat) : Int) := by
          unfold upI
          rw [hk]
          split <;> simp
        refine ⟨?_, by omega, by omega⟩
        rw [hu, Int.toNat_natCast]
        unfold KeepCeil FloatKind.encode
        have e' : FloatKind.f64.decode (KeepN x) = .number false m (-1074 + k) := e
        rw [e']
        simp only [Ieee.Datum.integral]
        rw [cut_up false _ _ rfl, (scale_div m k).1]
        simp only [(scale_div m k).2]
        rw [hv]
        exact near_rgI (Nat.le_trans hup (by decide))
      obtain ⟨q1, q2, q3⟩ := hcl
      have hr := rgI_lt (m := (upI x).toNat) (by omega)
      have hr' : rgI (upI x).toNat % 9223372036854775808 = rgI (upI x).toNat := Nat.mod_eq_of_lt (by unfold infR at hr; omega)
      obtain ⟨z1, z2⟩ := f2i_num (a := KeepCeil (KeepN x)) (i := upI x) (by rw [q1, hr']; exact hr) (by
        rw [q1, if_neg (by unfold infR at hr; omega)]
        unfold whole
        rw [hr', V_rgI (by omega), Nat.mul_div_cancel _ (Nat.two_pow_pos _)]
        omega) (by omega) (by omega)
      exact br_y z1 z2.symm
    · rw [if_neg (of_decide_eq_false c), if_neg (of_decide_eq_false d)]
  · exact ⟨rfl, br_n rfl <| br_n rfl rfl⟩
end Go.Proofs.Ytjicbncikakhjaa
