/- CondNone: who waits, as it grows. No condition. -/
import Derived.Test.YtmmliaobjendoaaDoorPL8
namespace Go.Proofs.YtmmliaobjendoaaDoor
open SY
open Go.RowKit
set_option linter.unusedVariables false
set_option linter.unusedSimpArgs false
set_option maxRecDepth 100000
def sP (p b0 : Nat) : Nat → Prop := fun b => b = p ∨ b = p + 1 ∨ b = b0
theorem F3.sb {p b0 : Nat} {c m : Array Value} {fv : Value} {N i0 : Nat} {x : Int} {w0 w : World} (h : F3 p b0 c m fv N i0 x w0 w) : ∀ b, sP p b0 b → b < w.heap.size := by
  intro b hb
  rcases hb with rfl | rfl | rfl
  · exact lt_of_heap h.h7
  · exact lt_of_heap h.h8
  · exact h.lt
/-- Numbers 0 .. i-1 wait, with the tickets x, x+1 .. -/
def nsl (x : Int) : Nat → List Int
  | 0 => []
  | i + 1 => nsl x i ++ [(x + i) % 4294967296, i]
def wkl : Nat → List Int
  | 0 => []
  | i + 1 => wkl i ++ [(i : Int)]
theorem nsl_len (x : Int) : ∀ i, (nsl x i).length = 2 * i
  | 0 => rfl
  | i + 1 => by
    show (nsl x i ++ _).length = _
    rw [List.length_append, nsl_len x i]
    show 2 * i + 2 = _
    omega
theorem nsl_at (x : Int) : ∀ (i j : Nat), j < i → tkI (nsl x i) j = (x + j) % 4294967296 ∧ tsI (nsl x i) j = j
  | 0, j, h => absurd h (Nat.not_lt_zero _)
  | i + 1, j, h => by
    have hl := nsl_len x i
    unfold tkI tsI gI
    show (nsl x i ++ [(x + i) % 4294967296, (i : Int)]).getD (2 * j) 0 = _ ∧ (nsl x i ++ [(x + i) % 4294967296, (i : Int)]).getD (2 * j + 1) 0 = _
    simp only [List.getD_eq_getElem?_getD]
    rcases Nat.lt_or_ge j i with hj | hj
    · rw [List.getElem?_append_left (by omega), List.getElem?_append_left (by omega)]
      have := nsl_at x i j hj
      unfold tkI tsI gI at this
      simpa only [List.getD_eq_getElem?_getD] using this
    · obtain rfl : j = i := by omega
      rw [List.getElem?_append_right (by omega), List.getElem?_append_right (by omega), hl, show 2 * j - 2 * j = 0 by omega, show 2 * j + 1 - 2 * j = 1 by omega]
      exact ⟨rfl, rfl⟩
theorem wkl_len : ∀ i, (wkl i).length = i
  | 0 => rfl
  | i + 1 => by
    show (wkl i ++ _).length = _
    rw [List.length_append, wkl_len i]
    rfl
theorem wkl_at : ∀ (i j : Nat), j < i → (wkl i)[j]? = some (j : Int)
  | 0, j, h => absurd h (Nat.not_lt_zero _)
  | i + 1, j, h => by
    have hl := wkl_len i
    show (wkl i ++ [(i : Int)])[j]? = _
    rcases Nat.lt_or_ge j i with hj | hj
    · rw [List.getElem?_append_left (by omega)]
      exact wkl_at i j hj
    · obtain rfl : j = i := by omega
      rw [List.getElem?_append_right (by omega), hl, show j - j = 0 by omega]
      rfl
theorem nsl_in (x : Int) {i : Nat} (hi : i ≤ 5) : inW (nsl x i) := by
  have hl := nsl_len x i
  refine ⟨by omega, by omega, fun k hk => ?_⟩
  obtain ⟨e1, e2⟩ := nsl_at x i k (by omega)
  rw [e1, e2]
  exact ⟨by omega, by omega, by omega⟩
theorem nsl_ws {w x : Int} {i : Nat} (hw : 0 ≤ w ∧ w < 4294967296) (hx : KeepU x) (hi : i ≤ 5) : KeepWs ⟨w, x, nsl x i⟩ := by
  unfold KeepU at hx
  exact ⟨hw, by omega, nsl_in x hi⟩
theorem tk_ne {x : Int} {i j : Nat} (hi : i ≤ 10) (hj : j ≤ 10) (h : i ≠ j) : (x + i) % 4294967296 ≠ (x + j) % 4294967296 := by omega
theorem nsl_rn {x : Int} {N i : Nat} (hN : N ≤ 10) (hi : i ≤ N) (hi5 : i ≤ 5) : KeepRn ⟨(x + N) % 4294967296, x, nsl x i⟩ = true := by
  have hl := nsl_len x i
  unfold KeepRn KeepRt
  simp only [Bool.and_eq_true, decide_eq_true_eq, List.all_eq_true, List.mem_range]
  refine ⟨by omega, by omega, fun k hk => ?_⟩
  obtain ⟨e1, e2⟩ := nsl_at x i k (by omega)
  unfold okW
  simp only [Bool.and_eq_true, decide_eq_true_eq]
  refine ⟨by rw [e2]; omega, by rw [e1]; omega, cnt_one fun j hj => ?_, cnt_one fun j hj => ?_⟩
  · rw [(nsl_at x i j (by omega)).1, e1]
    exact tk_ne (by omega) (by omega) (by omega)
  · rw [(nsl_at x i j (by omega)).2, e2]
    omega
theorem ixF_none {φ : Nat → Bool} : ∀ (m k : Nat), (∀ j, k ≤ j → j < k + m → φ j = false) → ixF φ m k < 0
  | 0, k, _ => by unfold ixF; omega
  | m + 1, k, h => by
    unfold ixF
    rw [h k (Nat.le_refl _) (by omega)]
    exact ixF_none m (k + 1) fun j h1 h2 => h j (by omega) (by omega)
theorem nsl_pk {x : Int} {N i : Nat} (hN : N ≤ 10) (hi : i < N) (hi5 : i < 5) : KeepPk ⟨(x + N) % 4294967296, x, nsl x i⟩ ((x + i) % 4294967296) i = (⟨(x + N) % 4294967296, x, nsl x (i + 1)⟩, 0) := by
  have hl := nsl_len x i
  unfold KeepPk
  rw [if_neg (by omega), nsl_rn hN (by omega) (by omega), if_neg (by simp), if_neg (by simp; omega)]
  have hh : KeepHas (nsl x i) ((x + i) % 4294967296) i = false := by
    unfold KeepHas
    refine decide_eq_false (Int.not_le.2 (ixF_none _ _ fun j _ hj => ?_))
    obtain ⟨e1, e2⟩ := nsl_at x i j (by omega)
    have := tk_ne (x := x) (i := j) (j := i) (by omega) (by omega) (by omega)
    unfold sameF
    rw [e1, e2]
    simp
    omega
  rw [hh, if_neg (by simp), if_neg (by show ¬ (nsl x i).length / 2 = 12; omega)]
  rfl
theorem ts_wkl (x : Int) (n : Nat) : ∀ k, k ≤ n → KeepTs (nsl x n) k = wkl k
  | 0, _ => rfl
  | k + 1, h => by
    show KeepTs (nsl x n) k ++ [tsI (nsl x n) k] = wkl k ++ [(k : Int)]
    rw [ts_wkl x n k (by omega), (nsl_at x n k (by omega)).2]
theorem nsl_ak {x : Int} {N i : Nat} (hN : N ≤ 10) (hi : i ≤ N) (hi5 : i ≤ 5) : KeepAk ⟨(x + N) % 4294967296, x, nsl x i⟩ = (⟨(x + N) % 4294967296, (x + N) % 4294967296, []⟩, wkl i, 0) := by
  have hl := nsl_len x i
  unfold KeepAk
  rw [nsl_rn hN hi hi5, if_neg (by simp)]
  show (_, KeepTs (nsl x i) ((nsl x i).length / 2), _) = _
  rw [hl, show 2 * i / 2 = i by omega, ts_wkl x i i (Nat.le_refl _)]
theorem wk_at {s : Nat → Prop} {w : World} {n i e : Nat} {B : Option Addr} (h : DC (gS s) w (.sl [.int .i64] (wkl n) none) (.slice B n e)) (hi : i < n) : ∃ b o, B = some ⟨b, o, none⟩ ∧ w.cell? ⟨b, o + i, none⟩ = some (.int .i64 i) := by
  obtain ⟨A, k, c, e', hS⟩ := h
  cases e'
  cases B with
  | none =>
    have := (hS.nil rfl).1
    omega
  | some A =>
    have f := (hS.at_ A rfl).1 (by rw [wkl_len]; omega)
    have r := (hS.at_ A rfl).2 i (.int .i64 i) (by
      unfold encV
      have := wkl_at n i hi
      simp [this, kAt, Nat.mod_one, rdV])
    obtain ⟨b, o, s⟩ := A
    obtain rfl : s = none := f.spot
    rw [Addr.add_lit] at r
    exact ⟨b, o, rfl, r⟩
end Go.Proofs.YtmmliaobjendoaaDoor
