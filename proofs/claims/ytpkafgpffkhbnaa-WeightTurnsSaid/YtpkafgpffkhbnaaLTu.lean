/- WeightTurns: whoever takes and gives back, the call answers true. No condition. -/
import Derived.Test.YtpkafgpffkhbnaaRTu
namespace Go.Proofs.Ytpkafgpffkhbnaa
open SY
open Go.RowKit
set_option linter.unusedSimpArgs false
set_option linter.unusedVariables false

/-! ### Lines and sums -/

theorem any_cons (u n : Int) (r : List Int) (t : Int) : anyT (u :: n :: r) t = (decide (u = t) || anyT r t) := rfl
theorem any_nil (t : Int) : anyT [] t = false := rfl
theorem ln_cons (t n : Int) (r : List Int) : lnOK (t :: n :: r) ↔ (0 ≤ t ∧ t < 10 ∧ 0 ≤ n ∧ n ≤ 255) ∧ anyT r t = false ∧ lnOK r := Iff.rfl
theorem gI_succ (a : Int) (l : List Int) (i : Nat) : gI (a :: l) (i + 1) = gI l i := rfl
theorem gI_zero (a : Int) (l : List Int) : gI (a :: l) 0 = a := rfl
theorem any_take : ∀ (k : Nat) (l : List Int) (t : Int), k < l.length / 2 → anyT (l.take (2 * (k + 1))) t = (anyT (l.take (2 * k)) t || decide (gI l (k * 2) = t))
  | _, [], _, h => by simp at h
  | _, [_], _, h => by simp at h
  | 0, u :: n :: r, t, _ => by simp [any_cons, any_nil, gI_zero]
  | k + 1, u :: n :: r, t, h => by
    have h : k < r.length / 2 := by simp at h; omega
    have := any_take k r t h
    rw [show 2 * (k + 1 + 1) = 2 * (k + 1) + 1 + 1 by omega, show 2 * (k + 1) = 2 * k + 1 + 1 by omega, show (k + 1) * 2 = k * 2 + 1 + 1 by omega]
    simp only [List.take_succ_cons, any_cons, gI_succ]
    rw [← show 2 * (k + 1) = 2 * k + 1 + 1 by omega, this, Bool.or_assoc]
    rfl
theorem any_app : ∀ (l : List Int) (t n u : Int), l.length % 2 = 0 → anyT (l ++ [t, n]) u = (anyT l u || decide (t = u))
  | [], t, n, u, _ => by simp [any_cons, any_nil]
  | [_], t, n, u, h => by simp at h
  | a :: b :: r, t, n, u, h => by
    have h : r.length % 2 = 0 := by simp at h; omega
    have := any_app r t n u h
    simp only [List.cons_append, any_cons, this, Bool.or_assoc]
theorem ln_app : ∀ (l : List Int) (t n : Int), l.length % 2 = 0 → lnOK l → anyT l t = false → 0 ≤ t → t < 10 → 0 ≤ n → n ≤ 255 → lnOK (l ++ [t, n])
  | [], t, n, _, _, _, h1, h2, h3, h4 => ⟨⟨h1, h2, h3, h4⟩, rfl, trivial⟩
  | [_], t, n, h, _, _, _, _, _, _ => by simp at h
  | a :: b :: r, t, n, h, hl, ha, h1, h2, h3, h4 => by
    have h : r.length % 2 = 0 := by simp at h; omega
    obtain ⟨q1, q2, q3⟩ := hl
    simp only [any_cons, Bool.or_eq_false_iff, decide_eq_false_iff_not] at ha
    refine ⟨q1, ?_, ln_app r t n h q3 ha.2 h1 h2 h3 h4⟩
    show anyT (r ++ [t, n]) a = false
    rw [any_app r t n a h, q2]
    simp; exact fun e => ha.1 e.symm
def cnt (l : List Int) : Nat := (anyT l 0).toNat + (anyT l 1).toNat + (anyT l 2).toNat + (anyT l 3).toNat + (anyT l 4).toNat + (anyT l 5).toNat + (anyT l 6).toNat + (anyT l 7).toNat + (anyT l 8).toNat + (anyT l 9).toNat
theorem ln_cnt : ∀ (l : List Int), lnOK l → l.length = 2 * cnt l
  | [], _ => rfl
  | [_], h => h.elim
  | t :: n :: r, h => by
    obtain ⟨⟨h1, h2, _, _⟩, h3, h4⟩ := h
    have ih := ln_cnt r h4
    have ht : t = 0 ∨ t = 1 ∨ t = 2 ∨ t = 3 ∨ t = 4 ∨ t = 5 ∨ t = 6 ∨ t = 7 ∨ t = 8 ∨ t = 9 := by omega
    simp only [List.length_cons, ih]
    rcases ht with rfl | rfl | rfl | rfl | rfl | rfl | rfl | rfl | rfl | rfl <;> simp [cnt, any_cons, h3] <;> omega
theorem ln_len (l : List Int) (h : lnOK l) : l.length ≤ 20 := by
  rw [ln_cnt l h]
  unfold cnt
  have b : ∀ x : Bool, x.toNat ≤ 1 := fun x => by cases x <;> decide
  have := b (anyT l 0); have := b (anyT l 1); have := b (anyT l 2); have := b (anyT l 3); have := b (anyT l 4)
  have := b (anyT l 5); have := b (anyT l 6); have := b (anyT l 7); have := b (anyT l 8); have := b (anyT l 9)
  omega

theorem sp_zero (a : Int) (l : List Int) (v : Int) : splice (a :: l) 0 [v] = v :: l := by simp [splice]
theorem sp_succ (a : Int) (l : List Int) (i : Nat) (v : Int) : splice (a :: l) (i + 1) [v] = a :: splice l i [v] := by simp [splice, Nat.add_right_comm]
theorem sp_len (l : List Int) (i : Nat) (v : Int) (h : i < l.length) : (splice l i [v]).length = l.length := by simp [splice]; omega
theorem sp_tot : ∀ (l : List Int) (i : Nat) (v : Int), i < l.length → tot (splice l i [v]) = tot l - gI l i + v
  | [], i, v, h => by simp at h
  | a :: l, 0, v, _ => by rw [sp_zero]; simp [tot, gI_zero]; omega
  | a :: l, i + 1, v, h => by
    rw [sp_succ, gI_succ]
    have := sp_tot l i v (by simpa using h)
    simp [tot, this]; omega
theorem sp_get : ∀ (l : List Int) (i j : Nat) (v : Int), i < l.length → gI (splice l i [v]) j = if j = i then v else gI l j
  | [], i, j, v, h => by simp at h
  | a :: l, 0, j, v, _ => by
    rw [sp_zero]
    cases j with
    | zero => simp [gI_zero]
    | succ j => simp [gI_succ]
  | a :: l, i + 1, j, v, h => by
    rw [sp_succ]
    cases j with
    | zero => simp [gI_zero]
    | succ j =>
      rw [gI_succ, gI_succ, sp_get l i j v (by simpa using h)]
      simp
theorem tot_pos : ∀ (l : List Int), (∀ j, j < l.length → 0 ≤ gI l j) → 0 ≤ tot l
  | [], _ => Int.le_refl _
  | b :: l, hp => by
    have h0 := hp 0 (by simp)
    rw [gI_zero] at h0
    have := tot_pos l fun j hj => hp (j + 1) (by simpa using hj)
    simp [tot]; omega
theorem tot_ge : ∀ (l : List Int) (i : Nat), (∀ j, j < l.length → 0 ≤ gI l j) → i < l.length → 0 ≤ tot l - gI l i ∧ 0 ≤ gI l i
  | [], i, _, h => by simp at h
  | a :: l, 0, hp, _ => by
    refine ⟨?_, hp 0 (by simp)⟩
    have : 0 ≤ tot l := tot_pos l fun j hj => hp (j + 1) (by simpa using hj)
    simp [tot, gI_zero]; omega
  | a :: l, i + 1, hp, h => by
    have h0 := hp 0 (by simp)
    rw [gI_zero] at h0
    have := tot_ge l i (fun j hj => hp (j + 1) (by simpa using hj)) (by simpa using h)
    rw [gI_succ]; simp [tot]; omega

theorem wv_sum {sz sum : Int} {hs line : List Int} (h : WV sz sum hs line) : 0 ≤ sum := by
  obtain ⟨h1, h2, h3, _⟩ := h
  have := tot_ge hs 0 (by rwa [h1]) (by omega)
  omega
/-- More, or less, for one. -/
theorem wv_put {sz sum : Int} {hs line : List Int} (h : WV sz sum hs line) {t v : Int} (h0 : 0 ≤ t) (h1 : t < 10) (hv : 0 ≤ v) (hz : sum - gI hs t.toNat + v ≤ sz) : WV sz (sum - gI hs t.toNat + v) (splice hs t.toNat [v]) line := by
  obtain ⟨q1, q2, q3, q4, q5, q6⟩ := h
  have hl : t.toNat < hs.length := by omega
  refine ⟨by rw [sp_len _ _ _ hl, q1], fun j hj => ?_, by rw [sp_tot _ _ _ hl, q3], hz, q5, q6⟩
  rw [sp_get _ _ _ _ hl]
  split
  · exact hv
  · exact q2 j hj
theorem wv_line {sz sum : Int} {hs line : List Int} (h : WV sz sum hs line) {l : List Int} (h1 : l.length % 2 = 0) (h2 : lnOK l) : WV sz sum hs l := by
  obtain ⟨q1, q2, q3, q4, q5, q6⟩ := h
  exact ⟨q1, q2, q3, q4, h1, h2⟩
end Go.Proofs.Ytpkafgpffkhbnaa
