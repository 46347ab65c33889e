/- What weight.Give and torporref20.Give answer: the same. No condition. -/
import Derived.Test.YtpkafgpffkhbnaaRWt
namespace Go.Proofs.Ytpkafgpffkhbnaa
open SY
open Go.RowKit
set_option linter.unusedSimpArgs false
set_option linter.unusedVariables false

theorem gv_nil (w0 w1 : Int) : gv w0 w1 [] = (w1, [], []) := rfl
theorem gv_cons (w0 w1 t n : Int) (r : List Int) : gv w0 w1 (t :: n :: r) = if IntKind.i64.wrap (w1 + n) ≤ w0 then ((gv w0 (IntKind.i64.wrap (w1 + n)) r).1, t :: (gv w0 (IntKind.i64.wrap (w1 + n)) r).2.1, (gv w0 (IntKind.i64.wrap (w1 + n)) r).2.2) else (w1, [], t :: n :: r) := rfl
theorem gv_len (w0 : Int) : ∀ (k : Nat) (w1 : Int) (l : List Int), l.length ≤ k → (gv w0 w1 l).2.1.length ≤ l.length
  | 0, w1, l, h => by
    obtain rfl : l = [] := List.length_eq_zero_iff.1 (by omega)
    simp [gv_nil]
  | k + 1, w1, [], h => by simp [gv_nil]
  | k + 1, w1, [_], h => by simp [gv]
  | k + 1, w1, t :: n :: r, h => by
    rw [gv_cons]
    split
    · have := gv_len w0 k (IntKind.i64.wrap (w1 + n)) r (by simp at h; omega)
      simp; omega
    · simp
theorem even_split {l : List Int} (h : l.length % 2 = 0) (h0 : 0 < l.length) : ∃ t n r, l = t :: n :: r := by
  match l with
  | [] => simp at h0
  | [_] => simp at h
  | t :: n :: r => exact ⟨t, n, r, rfl⟩

theorem give_ok : GOK Try.prog 10 hGive := by
  refine gokW mixed tab_ok hkL_nil fun vs s r hg hs => ?_
  unfold hGive at hg
  split at hg <;> try (cases hg; done)
  rename_i a b
  simp only [Option.some.injEq, Prod.mk.injEq] at hg
  obtain ⟨rfl, rfl⟩ := hg
  obtain ⟨h1, h2, h3⟩ := hs
  refine ⟨lhL [(1, hintGive (objOf a) (cI b 0))], 10, [objS (objOf a), iS (cI b 0)], ⟨h1, h2, trivial⟩, ?_⟩
  generalize objOf a = x at *
  generalize cI b 0 = n at *
  obtain ⟨x1, w0, w1, x4, x5, x6, x7, x8, x9, x10, ls⟩ := x
  obtain ⟨f1, f2⟩ := h3
  simp only at f1 f2
  rw [give_res]
  simp only
  refine br_in (fun hb => ?_) fun hb => ?_
  · simp only [decide_eq_true_eq] at hb
    have : KeepGd ⟨x1, w0, w1, x4, x5, x6, x7, x8, x9, x10, ls⟩ n = false := by simp [KeepGd, hb]
    simp [KeepGw, KeepGl, KeepGf, KeepGk, this]
  refine br_in (fun hb' => ?_) fun hb' => ?_
  · simp only [decide_eq_true_eq] at hb'
    have : KeepGd ⟨x1, w0, w1, x4, x5, x6, x7, x8, x9, x10, ls⟩ n = false := by simp [KeepGd, hb']
    simp [KeepGw, KeepGl, KeepGf, KeepGk, this]
  have hd : KeepGd ⟨x1, w0, w1, x4, x5, x6, x7, x8, x9, x10, ls⟩ n = true := by
    simp only [decide_eq_false_iff_not] at hb hb'
    simp [KeepGd]; omega
  simp only [KeepGw, KeepGl, KeepGf, KeepGk, hd, if_true]
  generalize IntKind.i64.wrap (w1 - n) = w at *
  have hlen := gv_len w0 _ w ls (Nat.le_refl _)
  refine ⟨⟨⟨w, [], ls⟩, ⟨⟨f1, f2⟩, rfl, rfl, rfl⟩, by simp⟩, ?_⟩
  rintro ⟨v, wk, l⟩ hI
  obtain ⟨⟨g1, g2⟩, i1, i2, i3⟩ := hI
  simp only at g1 g2 i1 i2 i3
  have hwk : wk.length ≤ ls.length := by
    have := congrArg List.length i2
    simp only [List.length_append] at this
    omega
  simp only
  refine br_in (fun hc => ?_) fun hc => ?_
  · simp only [decide_eq_true_eq] at hc
    obtain ⟨t, m, r, rfl⟩ := even_split g2 (by omega)
    have e1 : gI (t :: m :: r) 1 = m := rfl
    have e0 : gI (t :: m :: r) 0 = t := rfl
    have hpos : (0 : Int) < ↑((t :: m :: r).length / 2) := hc
    rw [br_t (by simp only [Bool.true_and, decide_eq_true_eq]; exact hpos)]
    rw [e1, e0]
    refine ⟨trivial, ?_⟩
    rw [gv_cons] at i1 i2 i3
    refine br_in (fun hd => ?_) fun hd => ?_
    · simp only [decide_eq_true_eq] at hd
      rw [if_pos hd] at i1 i2 i3
      rw [br_t (by simp only [Bool.true_and, decide_eq_true_eq]; exact hpos), br_t (by simp only [Bool.true_and, decide_eq_true_eq]; exact hpos), br_t (by simp; omega), br_t (by simp only [Bool.true_and, decide_eq_true_eq]; omega)]
      refine ⟨⟨IntKind.i64.wrap (v + m), wk ++ [t], r⟩, ⟨⟨by simp at g1 ⊢; omega, by simp at g2 ⊢; omega⟩, i1, ?_, i3⟩, by simp; omega, by simp⟩
      rw [← i2]; simp
    · simp only [decide_eq_false_iff_not] at hd
      rw [if_neg hd] at i1 i2 i3
      simp at i1 i2 i3
      simp [i1, i2, i3]
  · simp only [decide_eq_false_iff_not] at hc
    obtain rfl : l = [] := List.length_eq_zero_iff.1 (by omega)
    rw [gv_nil] at i1 i2 i3
    simp at i1 i2 i3
    simp [i1, i2, i3]

theorem drop_split {l : List Int} {i : Nat} (h : l.length % 2 = 0) (hi : i < l.length / 2) : l.drop (2 * i) = gI l (i * 2) :: gI l (i * 2 + 1) :: l.drop (2 * (i + 1)) := by
  have h1 : 2 * i < l.length := by omega
  have h2 : 2 * i + 1 < l.length := by omega
  rw [List.drop_eq_getElem_cons h1, List.drop_eq_getElem_cons h2]
  have e1 : gI l (i * 2) = l[2 * i] := by rw [Nat.mul_comm i 2]; simp [gI, h1]
  have e2 : gI l (i * 2 + 1) = l[2 * i + 1] := by rw [Nat.mul_comm i 2]; simp [gI, h2]
  rw [e1, e2, show 2 * i + 1 + 1 = 2 * (i + 1) by omega]

theorem rgive_ok : GOK Try.prog 11 hGive := by
  refine gokW mixed tab_ok hkL_nil fun vs s r hg hs => ?_
  unfold hGive at hg
  split at hg <;> try (cases hg; done)
  rename_i a b
  simp only [Option.some.injEq, Prod.mk.injEq] at hg
  obtain ⟨rfl, rfl⟩ := hg
  obtain ⟨h1, h2, h3⟩ := hs
  refine ⟨lhL [(1, hintRGive (objOf a) (cI b 0))], 10, [objS (objOf a), iS (cI b 0)], ⟨h1, h2, trivial⟩, ?_⟩
  generalize objOf a = x at *
  generalize cI b 0 = n at *
  obtain ⟨x1, w0, w1, x4, x5, x6, x7, x8, x9, x10, ls⟩ := x
  obtain ⟨f1, f2⟩ := h3
  simp only at f1 f2
  rw [rgive_res]
  simp only
  refine br_in (fun hb => ?_) fun hb => ?_
  · simp only [decide_eq_true_eq] at hb
    have : KeepGd ⟨x1, w0, w1, x4, x5, x6, x7, x8, x9, x10, ls⟩ n = false := by simp [KeepGd, hb]
    simp [KeepGw, KeepGl, KeepGf, KeepGk, this]
  refine br_in (fun hb' => ?_) fun hb' => ?_
  · simp only [decide_eq_true_eq] at hb'
    have : KeepGd ⟨x1, w0, w1, x4, x5, x6, x7, x8, x9, x10, ls⟩ n = false := by simp [KeepGd, hb']
    simp [KeepGw, KeepGl, KeepGf, KeepGk, this]
  have hd : KeepGd ⟨x1, w0, w1, x4, x5, x6, x7, x8, x9, x10, ls⟩ n = true := by
    simp only [decide_eq_false_iff_not] at hb hb'
    simp [KeepGd]; omega
  simp only [KeepGw, KeepGl, KeepGf, KeepGk, hd, if_true]
  generalize IntKind.i64.wrap (w1 - n) = w at *
  have hlen := gv_len w0 _ w ls (Nat.le_refl _)
  refine ⟨⟨⟨0, w, []⟩, ⟨by simp, rfl, rfl, rfl⟩, by simp⟩, ?_⟩
  rintro ⟨i, v, wk⟩ hI
  obtain ⟨g1, i1, i2, i3⟩ := hI
  simp only at g1 i1 i2 i3
  have hwk : wk.length ≤ ls.length := by
    have := congrArg List.length i2
    simp only [List.length_append] at this
    omega
  simp only [Int.toNat_natCast]
  refine br_in (fun hc => ?_) fun hc => ?_
  · simp only [decide_eq_true_eq] at hc
    rw [br_t (by simp only [Bool.true_and, decide_eq_true_eq]; exact hc)]
    have hs := drop_split f2 (i := i) (by omega)
    rw [hs, gv_cons] at i1 i2 i3
    refine br_in (fun hd => ?_) fun hd => ?_
    · simp only [decide_eq_true_eq] at hd
      rw [if_pos hd] at i1 i2 i3
      rw [br_t (by simp only [Bool.true_and, decide_eq_true_eq]; exact hc), br_t (by simp only [Bool.true_and, decide_eq_true_eq]; exact hc), br_t (by simp; omega)]
      refine ⟨⟨i + 1, IntKind.i64.wrap (v + gI ls (i * 2 + 1)), wk ++ [gI ls (i * 2)]⟩, ⟨by simp; omega, i1, ?_, i3⟩, by simp; omega, ?_⟩
      · rw [← i2]; simp
      · rw [w_i64 (n := (i : Int) + 1) (by omega)]; simp
    · simp only [decide_eq_false_iff_not] at hd
      rw [if_neg hd] at i1 i2 i3
      rw [← hs] at i3
      simp at i1 i2 i3
      rw [br_t (by simp only [Bool.true_and, decide_eq_true_eq]; omega), br_t (by rw [Nat.ble_eq]; simp; omega), Nat.mul_comm i 2]
      simp [← i1, ← i2, ← i3]
  · simp only [decide_eq_false_iff_not] at hc
    have hnil : ls.drop (2 * i) = [] := List.drop_eq_nil_of_le (by omega)
    rw [hnil, gv_nil] at i1 i2 i3
    simp at i1 i2 i3
    rw [br_t (by simp only [Bool.true_and, decide_eq_true_eq]; omega), br_t (by rw [Nat.ble_eq]; simp; omega), Nat.mul_comm i 2]
    simp [← i1, ← i2, ← i3, hnil]
end Go.Proofs.Ytpkafgpffkhbnaa
