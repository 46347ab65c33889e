/- Layer 5's laws: the way back. No condition. -/
import Derived.Test.YtjicbncikakhjaaLRk
namespace Go.Proofs.Ytjicbncikakhjaa
open SY
open Go.RowKit
set_option linter.unusedSimpArgs false
set_option linter.unusedVariables false
set_option exponentiation.threshold 2000

theorem fi_eq {i : Int} (h : KeepI i) : KeepFi i = if i < 0 then 9223372036854775808 + (rgI i.natAbs : Int) else (rgI i.natAbs : Int) := by
  obtain ⟨h0, h1⟩ := h
  unfold KeepFi
  rw [i2f_eq i (by omega)]
  split <;> simp
theorem rg_fi {i : Int} (h : KeepI i) : (rgI i.natAbs : Int) ≤ 4895412794951729152 := by
  obtain ⟨h0, h1⟩ := h
  have := rgI_le (m := i.natAbs) (by omega)
  omega
theorem fi_U {i : Int} (h : KeepI i) : KeepU (KeepFi i) := by
  have := rg_fi h
  rw [fi_eq h]; unfold KeepU; split <;> omega
theorem nan_fi {i : Int} (h : KeepI i) : nanI (KeepFi i) = false := by
  have := rg_fi h
  unfold nanI
  rw [fi_eq h, decide_eq_false_iff_not]; split <;> omega
theorem sk_fi {i : Int} (h : KeepI i) : skI (KeepFi i) = if i < 0 then -(rgI i.natAbs : Int) else (rgI i.natAbs : Int) := by
  have := rg_fi h
  unfold skI
  rw [fi_eq h]; split <;> split <;> omega
theorem cl_fi {i : Int} (h : KeepI i) : KeepCl (KeepFi i) ≠ 4 ∧ KeepCl (KeepFi i) ≠ 3 := by
  have := rg_fi h
  unfold KeepCl clI
  rw [fi_eq h]; split <;> (repeat' split) <;> omega
theorem ls_fi {i j : Int} (hi : KeepI i) (hj : KeepI j) (h : i ≤ j) : KeepLs (KeepFi j) (KeepFi i) = false := by
  unfold KeepLs
  rw [nan_fi hi, nan_fi hj, sk_fi hi, sk_fi hj]
  simp only [Bool.not_false, Bool.true_and, decide_eq_false_iff_not]
  by_cases a : i < 0
  · by_cases b : j < 0
    · have := rgI_mono (a := j.natAbs) (b := i.natAbs) (by omega)
      rw [if_pos a, if_pos b]; omega
    · rw [if_pos a, if_neg b]; omega
  · have := rgI_mono (a := i.natAbs) (b := j.natAbs) (by omega)
    rw [if_neg a, if_neg (by omega)]; omega
theorem KeepN_fi {i : Int} (h : KeepI i) : (KeepFi i).toNat % 9223372036854775808 = rgI i.natAbs ∧ (9223372036854775808 ≤ KeepFi i ↔ i < 0) := by
  have := rg_fi h
  rw [fi_eq h]; split <;> omega
theorem whole_fi {i : Int} (h : KeepI i) (hs : i.natAbs ≤ 9007199254740992) : whole (KeepFi i).toNat = i.natAbs := by
  unfold whole
  rw [(KeepN_fi h).1, V_rgI hs, Nat.mul_div_cancel _ (Nat.two_pow_pos _)]
theorem ti_fi {i : Int} (h : KeepI i) (hs : i.natAbs ≤ 9007199254740992) : KeepTi (KeepFi i) = i := by
  have hr := rgI_mono (a := i.natAbs) (b := 9007199254740992) hs
  rw [show rgI 9007199254740992 = 4845873199050653696 by decide] at hr
  unfold KeepTi tiI mgI
  rw [nan_fi h, if_neg (by decide), whole_fi h hs, sk_fi h]
  simp only [(KeepN_fi h).2]
  split <;> (repeat' split) <;> omega
theorem rgI_pos {m : Nat} (h0 : 0 < m) (h : m ≤ 9007199254740992) : 0 < rgI m := by
  rcases Nat.eq_zero_or_pos (rgI m) with e | e
  · have := V_rgI h
    rw [e, V_zero] at this
    rcases Nat.mul_eq_zero.1 this.symm with h | h
    · omega
    · exact absurd h (Nat.ne_of_gt (Nat.two_pow_pos _))
  · exact e
theorem tk_fi {i : Int} (h : KeepI i) : (1 ≤ i → i ≤ 1099511627776 → KeepTk (KeepFi i) = i) ∧ (i ≤ 0 → KeepTk (KeepFi i) = 0) := by
  unfold KeepTk
  rw [nan_fi h, if_neg (by decide), sk_fi h]
  refine ⟨fun h1 h2 => ?_, fun h1 => ?_⟩
  · have hr := rgI_mono (a := i.natAbs) (b := 1099511627776) (by omega)
    rw [show rgI 1099511627776 = 4787326403894837248 by decide] at hr
    have hp := rgI_pos (m := i.natAbs) (by omega) (by omega)
    unfold upI
    rw [whole_fi h (by omega), (KeepN_fi h).1, V_rgI (by omega), Nat.mul_mod_left, if_pos rfl, if_neg (by omega : ¬ i < 0), if_neg (by omega), if_pos (by omega)]
    omega
  · by_cases hz : i = 0
    · subst hz; decide
    · rw [if_pos (show i < 0 by omega), if_neg (by omega), if_neg (by omega)]
theorem back_walk (W : World) (i j : Int) (hi : KeepI i) (hj : KeepI j) :
    Calls Try.prog 8 #[.int .i64 i, .int .i64 j] W fun e w' => e = .returned (.bool true) ∧ Below W.heap.size W w' := by
  refine law (vals := [.int .i64 i, .int .i64 j]) (lh := noL) (m := 10) (args := [iS i, iS j]) mixed tab_ok hkJ_ok ?_ ⟨rfl, rfl, trivial⟩
  rw [back_res]
  have h1 := fun a => ti_fi hi a
  obtain ⟨h2, h3⟩ := tk_fi hi
  obtain ⟨c1, c2⟩ := cl_fi hi
  have h4 := fun a => ls_fi hi hj a
  simp only [hi, hj, fi_U hi, fi_U hj, c1, c2, decide_false, Bool.not_false, br_tt, true_and, and_self, bt_iff]
  generalize KeepTi (KeepFi i) = a at *
  generalize KeepTk (KeepFi i) = b at *
  by_cases hij : i ≤ j
  · simp only [h4 hij, Bool.not_false, br_tt]
    simp only [br_iff, decide_eq_true_eq, decide_eq_false_iff_not, Bool.not_eq_true', Bool.not_eq_false']
    clear c1 c2 h4 hi hj
    refine ⟨fun q1 => ⟨fun q2 => ?_, fun q2 => ?_⟩, fun q1 => ?_⟩ <;> (try have := h1 (by omega)) <;> simp [br_iff] <;> omega
  · generalize KeepLs (KeepFi j) (KeepFi i) = c at *
    simp only [show decide (i > j) = true from decide_eq_true (by omega), br_tt]
    simp only [br_iff, decide_eq_true_eq, decide_eq_false_iff_not, Bool.not_eq_true', Bool.not_eq_false']
    clear c1 c2 h4 hi hj
    refine ⟨fun q1 => ⟨fun q2 => ?_, fun q2 => ?_⟩, fun q1 => ?_⟩ <;> (try have := h1 (by omega)) <;> simp [br_iff] <;> omega
end Go.Proofs.Ytjicbncikakhjaa
