/- Laws of bytes of numbers. No condition. -/
import Derived.Test.YtlckkciicchneaaLKw
namespace Go.Proofs.Ytlckkciicchneaa.V
open SY
open Go.RowKit
set_option linter.unusedSimpArgs false
set_option linter.unusedVariables false
theorem lbeq_self : ∀ l : List Nat, lbeq l l = true
  | [] => rfl
  | a :: l => by simp [lbeq, lbeq_self l]
theorem lbeq_eq : ∀ {l m : List Nat}, lbeq l m = true → l = m
  | [], [], _ => rfl
  | [], _ :: _, h => by simp [lbeq] at h
  | _ :: _, [], h => by simp [lbeq] at h
  | a :: l, b :: m, h => by
    simp only [lbeq, Bool.and_eq_true, Nat.beq_eq] at h
    rw [h.1, lbeq_eq h.2]
theorem strEq_self (l : List Int) : strEq l l = true := lbeq_self _
theorem by_cons {c : Int} {l : List Int} (h : KeepBy (c :: l)) : (0 ≤ c ∧ c ≤ 255) ∧ KeepBy l :=
  ⟨by have := h 0 (by simp); simpa [gI] using this, fun j hj => by have := h (j + 1) (by simp; omega); simpa [gI] using this⟩
theorem by_mk {c : Int} {l : List Int} (h : 0 ≤ c ∧ c ≤ 255) (hl : KeepBy l) : KeepBy (c :: l) := by
  intro j hj
  cases j with
  | zero => simpa [gI] using h
  | succ j => have := hl j (by simp at hj; omega); simpa [gI] using this
theorem by_app {l m : List Int} (h : KeepBy l) (hm : KeepBy m) : KeepBy (l ++ m) := by
  induction l with
  | nil => exact hm
  | cons c l ih => exact by_mk (by_cons h).1 (ih (by_cons h).2)
theorem by_take {l : List Int} (h : KeepBy l) (k : Nat) : KeepBy (l.take k) := by
  induction l generalizing k with
  | nil => simpa using h
  | cons c l ih =>
    cases k with
    | zero => intro j hj; simp at hj
    | succ k => exact by_mk (by_cons h).1 (ih (by_cons h).2 k)
theorem by_drop {l : List Int} (h : KeepBy l) (k : Nat) : KeepBy (l.drop k) := by
  intro j hj
  rw [gI_drop]
  exact h _ (by simp at hj; omega)
theorem by_map : ∀ {l m : List Int}, KeepBy l → KeepBy m → l.map m8 = m.map m8 → l = m
  | [], [], _, _, _ => rfl
  | [], _ :: _, _, _, h => by simp at h
  | _ :: _, [], _, _, h => by simp at h
  | a :: l, b :: m, hl, hm, h => by
    simp only [List.map_cons, List.cons.injEq] at h
    have h1 := (by_cons hl).1
    have h2 := (by_cons hm).1
    have h3 := h.1
    unfold m8 at h3
    rw [by_map (by_cons hl).2 (by_cons hm).2 h.2, show a = b by omega]
theorem strEq_iff {l m : List Int} (hl : KeepBy l) (hm : KeepBy m) : strEq l m = decide (l = m) := by
  by_cases h : l = m
  · subst h; simp [strEq_self]
  · rw [decide_eq_false h, Bool.eq_false_iff]
    exact fun e => h (by_map hl hm (lbeq_eq e))

theorem vb_by : ∀ (k : Nat) (x : Int), 0 ≤ x → x < 128 ^ (k + 1) → KeepBy (vbk k x)
  | 0, x, h0, h1 => by_mk (by simp at h1; omega) (fun j hj => by simp at hj)
  | k + 1, x, h0, h1 => by
    by_cases hs : x ≤ 127
    · rw [vbk_small hs]; exact by_mk (by omega) (fun j hj => by simp at hj)
    · rw [vbk_big (by omega)]
      exact by_mk (by omega) (vb_by k (x / 128) (by omega) (by rw [Int.ediv_lt_iff_lt_mul (by decide), ← Int.pow_succ]; exact h1))
theorem vbU {x : Int} (h : KeepU x) : KeepBy (KeepVb x) := vb_by 9 x h.1 (by have := h.2; have e : (128 : Int) ^ (9 + 1) = 1180591620717411303424 := by decide
                                                                             omega)

/-- What is written is read. -/
theorem rv_back : ∀ (k i : Nat) (y x : Int) (r : List Int), 0 ≤ y → (i = 0 ∨ 0 < y) → i + k = 9 → y < 128 ^ (k + 1) → (i = 9 → y ≤ 1) → (∀ j, i + j = 9 → y < 2 * 128 ^ j) → rv i x (vbk k y ++ r) = (x + y * 128 ^ i, (i : Int) + (vbk k y).length, 0)
  | 0, i, y, x, r, h0, h1, h2, h3, h4, _ => by
    have := h4 (by omega)
    show rv i x (y :: r) = _
    rw [rv_cons, if_neg (fun h => by omega), if_pos (by omega), if_neg (fun h => by omega)]
    rfl
  | k + 1, i, y, x, r, h0, h1, h2, h3, h4, h5 => by
    by_cases hs : y ≤ 127
    · rw [vbk_small hs]
      show rv i x (y :: r) = _
      rw [rv_cons, if_neg (fun h => by omega), if_pos (by omega), if_neg (fun h => by omega)]
      rfl
    · rw [vbk_big (by omega), List.cons_append, rv_cons, if_neg (fun h => by omega), if_neg (by omega)]
      have h6 : ∀ j, i + 1 + j = 9 → y / 128 < 2 * 128 ^ j := fun j hj => by
        have := h5 (j + 1) (by omega)
        rw [Int.ediv_lt_iff_lt_mul (by decide)]
        rw [Int.pow_succ] at this
        omega
      rw [rv_back k (i + 1) (y / 128) _ r (by omega) (.inr (by omega)) (by omega) (by rw [Int.ediv_lt_iff_lt_mul (by decide), ← Int.pow_succ]; exact h3) (fun h => by have := h6 0 (by omega); simp at this; omega) h6]
      have e : x + (y % 128 + 128 - 128) * 128 ^ i + y / 128 * 128 ^ (i + 1) = x + y * 128 ^ i := by
        rw [Int.pow_succ, ← Int.mul_assoc, Int.mul_right_comm, Int.add_assoc, ← Int.add_mul]
        congr 2; omega
      rw [e]
      simp
      omega
theorem rv_vb {x : Int} (h : KeepU x) (r : List Int) : rv 0 0 (KeepVb x ++ r) = (x, ((KeepVb x).length : Int), 0) := by
  have e : (128 : Int) ^ (9 + 1) = 1180591620717411303424 := by decide
  have e9 : (128 : Int) ^ 9 = 9223372036854775808 := by decide
  obtain ⟨h0, h1⟩ := h
  unfold KeepVb
  rw [rv_back 9 0 x 0 r h0 (.inl rfl) rfl (by omega) (fun h => by omega) (fun j hj => by obtain rfl : j = 9 := by omega
                                                                                         omega)]
  simp
/-- Cut, it ends too early. -/
theorem rv_cut : ∀ (k i : Nat) (y x : Int) (j : Nat), i + k = 9 → j < (vbk k y).length → rv i x ((vbk k y).take j) = (0, 0, 2)
  | 0, i, y, x, j, h2, hj => by
    obtain rfl : j = 0 := by simp [vbk] at hj; omega
    rfl
  | k + 1, i, y, x, 0, h2, hj => rfl
  | k + 1, i, y, x, j + 1, h2, hj => by
    by_cases hs : y ≤ 127
    · rw [vbk_small hs] at hj; simp at hj
    · rw [vbk_big (by omega)] at hj ⊢
      rw [List.take_succ_cons, rv_cons, if_neg (fun h => by omega), if_neg (by omega)]
      exact rv_cut k (i + 1) _ _ j (by omega) (by simp at hj; omega)
/-- What is read has just the bytes that are written of it. -/
theorem rv_short : ∀ (l : List Int) (i k : Nat) (x z n : Int), KeepBy l → i + k = 9 → rv i x l = (z, n, 0) →
    ∃ y : Int, 0 ≤ y ∧ z = x + y * 128 ^ i ∧ n = i + (vbk k y).length ∧ (vbk k y).length ≤ l.length ∧ l.take (vbk k y).length = vbk k y ∧ (0 < i → 0 < y) ∧ (i = 9 → y ≤ 1) ∧ (∀ j, i + j = 9 → y < 2 * 128 ^ j)
  | [], i, k, x, z, n, _, _, h => by simp [rv_nil] at h
  | c :: l, i, k, x, z, n, hb, hk, h => by
    obtain ⟨hc, hl⟩ := by_cons hb
    rw [rv_cons] at h
    split at h
    · simp at h
    rename_i h9
    split at h
    · rename_i h128
      split at h
      · simp at h
      · rename_i h0
        simp only [Prod.mk.injEq] at h
        refine ⟨c, hc.1, h.1.symm, by rw [vbk_small (by omega)]; simp; omega, by rw [vbk_small (by omega)]; simp, by rw [vbk_small (by omega)]; simp, fun hi => by omega, fun hi => by omega, fun j hj => ?_⟩
        rcases Nat.eq_zero_or_pos j with h' | h'
        · subst h'; simp; omega
        · obtain ⟨m, rfl⟩ : ∃ m, j = m + 1 := ⟨j - 1, by omega⟩
          have := Int.pow_pos (n := (128 : Int)) (m := m) (by decide)
          rw [Int.pow_succ]; omega
    · rename_i h128
      obtain ⟨k', rfl⟩ : ∃ k', k = k' + 1 := by
        cases k with
        | zero => exact absurd (⟨by omega, by omega⟩ : i = 9 ∧ c > 1) h9
        | succ k' => exact ⟨k', rfl⟩
      obtain ⟨y, y0, y1, y2, y3, y4, y5, y6, y7⟩ := rv_short l (i + 1) k' _ z n hl (by omega) h
      have hy := y5 (by omega)
      have hv : vbk (k' + 1) (c - 128 + 128 * y) = c :: vbk k' y := by
        rw [vbk_big (by omega), show (c - 128 + 128 * y) % 128 + 128 = c by omega, show (c - 128 + 128 * y) / 128 = y by omega]
      refine ⟨c - 128 + 128 * y, by omega, ?_, by rw [hv, y2]; simp; omega, by rw [hv]; simpa using y3, by rw [hv]; simpa using y4, fun _ => by omega, fun hi => by omega, fun j hj => ?_⟩
      · rw [y1, Int.add_assoc, Int.pow_succ]
        congr 1
        rw [Int.add_mul, Int.mul_comm 128 y, Int.mul_assoc, Int.mul_comm (128 ^ i)]
      · obtain ⟨m, rfl⟩ : ∃ m, j = m + 1 := ⟨j - 1, by omega⟩
        have := y7 m (by omega)
        rw [Int.pow_succ]; omega
theorem rv_err : ∀ (l : List Int) (i : Nat) (x : Int), (rv i x l).2.2 ≠ 0 → (rv i x l).1 = 0
  | [], i, x, _ => rfl
  | c :: l, i, x, h => by
    rw [rv_cons] at h ⊢
    by_cases h1 : i = 9 ∧ c > 1
    · rw [if_pos h1]
    rw [if_neg h1] at h ⊢
    by_cases h2 : c < 128
    · rw [if_pos h2] at h ⊢
      by_cases h3 : c = 0 ∧ i > 0
      · rw [if_pos h3]
      · rw [if_neg h3] at h; exact absurd rfl h
    · rw [if_neg h2] at h ⊢
      exact rv_err l _ _ h
theorem rx_u (b : List Int) (a : Int) (h : KeepBy b) : KeepU (KeepRx b a) := by
  have hz : KeepU 0 := ⟨by decide, by decide⟩
  have e9 : (128 : Int) ^ 9 = 9223372036854775808 := by decide
  unfold KeepRx
  split
  · exact hz
  · have hbd := by_drop h a.toNat
    generalize b.drop a.toNat = l at *
    rcases hR : rv 0 0 l with ⟨z, n, e⟩
    by_cases he : e = 0
    · subst he
      obtain ⟨y, y0, y1, _, _, _, _, _, y7⟩ := rv_short l 0 9 0 z n hbd rfl hR
      have := y7 9 rfl
      simp at y1
      exact ⟨by simp only; omega, by simp only; omega⟩
    · have := rv_err l 0 0 (by rw [hR]; exact he)
      rw [hR] at this
      simp only at this
      simp only; rw [this]; exact hz
theorem rx_zero (b : List Int) (a : Int) (h : KeepRe b a ≠ 0) : KeepRx b a = 0 := by
  unfold KeepRx KeepRe at *
  split
  · rfl
  · rename_i hc
    rw [if_neg hc] at h
    exact rv_err _ _ _ h
theorem zig_u {y : Int} (h : KeepI y) : KeepU (KeepZig y) := by
  obtain ⟨h0, h1⟩ := h
  unfold KeepZig KeepU
  split <;> omega
theorem zag_i {y : Int} (h : KeepU y) : KeepI (KeepZag y) := by
  obtain ⟨h0, h1⟩ := h
  unfold KeepZag KeepI
  split <;> omega
theorem zig_zag {y : Int} (h : KeepU y) : KeepZig (KeepZag y) = y := by
  obtain ⟨h0, h1⟩ := h
  unfold KeepZag KeepZig
  split <;> split <;> omega
theorem zag_zig {y : Int} (h : KeepI y) : KeepZag (KeepZig y) = y := by
  obtain ⟨h0, h1⟩ := h
  unfold KeepZag KeepZig
  split <;> split <;> omega
theorem wrap_i (x : Int) : KeepI (IntKind.i64.wrap x) := by
  unfold KeepI
  rw [IntKind.wrap_i64]; omega
theorem sz_len (x : Int) : KeepSz x = ((KeepVb x).length : Int) := rfl
theorem sz_mono : ∀ (k : Nat) (x y : Int), x ≤ y → (vbk k x).length ≤ (vbk k y).length
  | 0, x, y, h => by simp [vbk]
  | k + 1, x, y, h => by
    by_cases hy : y ≤ 127
    · rw [vbk_small hy, vbk_small (by omega)]; simp
    · rw [vbk_big (x := y) (by omega)]
      by_cases hx : x ≤ 127
      · rw [vbk_small hx]; simp
      · rw [vbk_big (x := x) (by omega)]
        have := sz_mono k (x / 128) (y / 128) (by omega)
        simp; omega

end Go.Proofs.Ytlckkciicchneaa.V
