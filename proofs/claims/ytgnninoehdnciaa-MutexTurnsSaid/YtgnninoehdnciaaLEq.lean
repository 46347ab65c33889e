/- What torporref01.Ints, torporref11.Same, torporref15.Obj and Act answer: whether all is equal. No condition. -/
import Derived.Test.YtgnninoehdnciaaREq
namespace Go.Proofs.Ytgnninoehdnciaa
open SY
open Go.RowKit
set_option linter.unusedSimpArgs false
set_option linter.unusedVariables false

theorem gI_ext {xs ys : List Int} (hl : xs.length = ys.length) (h : ∀ j, j < xs.length → gI xs j = gI ys j) : xs = ys := by
  apply List.ext_getElem hl
  intro j h1 h2
  have := h j h1
  simpa [gI, h1, h2] using this
theorem ag0 {m : Nat} {xs ys : List Int} (hl : xs.length = ys.length) : KeepAg m xs ys 0 := ⟨by omega, hl, fun j hj => by omega⟩
theorem ag1 {xs ys : List Int} {i : Nat} (h : KeepAg 1 xs ys i) (hi : i < xs.length) (e : gI xs i = gI ys i) : KeepAg 1 xs ys (i + 1) := by
  refine ⟨by omega, h.2.1, fun j hj => ?_⟩
  rcases Nat.lt_or_ge j i with h' | h'
  · exact h.2.2 j (by omega)
  · obtain rfl : j = i := by omega
    exact e
theorem ag2 {xs ys : List Int} {i : Nat} (h : KeepAg 2 xs ys i) (hi : i < xs.length / 2) (e : gI xs (i * 2) = gI ys (i * 2)) (e' : gI xs (i * 2 + 1) = gI ys (i * 2 + 1)) : KeepAg 2 xs ys (i + 1) := by
  refine ⟨by omega, h.2.1, fun j hj => ?_⟩
  rcases Nat.lt_or_ge j (2 * i) with h' | h'
  · exact h.2.2 j h'
  · obtain rfl | rfl : j = i * 2 ∨ j = i * 2 + 1 := by omega
    · exact e
    · exact e'

theorem ints_ok : GOK Try.prog 23 hInts := by
  refine gokW mixed tab_ok hkL_nil fun vs s r hg hs => ?_
  unfold hInts at hg
  split at hg <;> try (cases hg; done)
  rename_i a b
  simp only [Option.some.injEq, Prod.mk.injEq] at hg
  obtain ⟨rfl, rfl⟩ := hg
  obtain ⟨h1, h2, h3⟩ := hs
  refine ⟨lhL [(1, hintInts (cL a 0) (cL b 0))], 10, [.t (.c (slI (cL a 0))), .t (.c (slI (cL b 0)))], ⟨h1, h2, trivial⟩, ?_⟩
  generalize cL a 0 = xs at *
  generalize cL b 0 = ys at *
  obtain ⟨h3, _⟩ := h3
  rw [ints_res]
  refine br_in (fun hb => ?_) (fun hb => ⟨⟨0, ?_, by simp⟩, ?_⟩)
  · simp at hb ⊢; intro e; exact hb (by rw [e])
  · simp at hb; exact ag0 (by omega)
  · intro i hI
    simp (disch := omega) only [w_i64, w_u64, w_u32, w_u8, w_i32, w_u16, Int.toNat_natCast]
    have hI0 := hI
    obtain ⟨i1, i2, i3⟩ := hI
    refine br_in (fun hb => ?_) (fun hb => ?_)
    · simp only [decide_eq_true_eq] at hb
      rw [br_t (by simp; omega), br_t (by simp; omega)]
      refine br_in (fun hc => ?_) (fun hc => ⟨i + 1, ?_⟩)
      · simp at hc ⊢; intro e; exact hc (by rw [e])
      · simp at hc
        exact ⟨ag1 hI0 (by omega) hc, by omega, ⟨by rw [w_i64 (by omega)]; omega, trivial⟩, trivial⟩
    · simp only [decide_eq_false_iff_not] at hb
      exact decide_eq_true (gI_ext i2 fun j hj => i3 j (by omega))

theorem same_ok : GOK Try.prog 22 hSame := by
  refine gokW mixed tab_ok hkL_nil fun vs s r hg hs => ?_
  unfold hSame at hg
  split at hg <;> try (cases hg; done)
  rename_i a b
  simp only [Option.some.injEq, Prod.mk.injEq] at hg
  obtain ⟨rfl, rfl⟩ := hg
  obtain ⟨h1, h2, h3, h4⟩ := hs
  refine ⟨lhL [(1, hintSame (ntOf a) (ntOf b))], 10, [ntS (ntOf a), ntS (ntOf b)], ⟨h1, h2, trivial⟩, ?_⟩
  generalize ntOf a = x at *
  generalize ntOf b = y at *
  obtain ⟨x1, x2, xs⟩ := x
  obtain ⟨y1, y2, ys⟩ := y
  obtain ⟨h3, h3'⟩ := h3
  obtain ⟨h4, h4'⟩ := h4
  simp only at h3 h3' h4 h4'
  rw [same_res]
  simp only
  refine br_in (fun hb => by simp at hb; simp [hb]) fun hb => ?_
  refine br_in (fun hb => by simp at hb; simp [hb]) fun hb' => ?_
  simp only [Bool.not_eq_false', decide_eq_true_eq] at hb hb'
  subst hb; subst hb'
  refine br_in (fun hb => ?_) (fun hb => ⟨⟨0, ?_, by simp⟩, ?_⟩)
  · simp at hb ⊢; intro e; exact hb (by rw [e])
  · simp at hb; exact ag0 (by omega)
  · intro i hI
    simp (disch := omega) only [w_i64, w_u64, w_u32, w_u8, w_i32, w_u16, Int.toNat_natCast]
    have hI0 := hI
    obtain ⟨i1, i2, i3⟩ := hI
    refine br_in (fun hb => ?_) (fun hb => ?_)
    · simp only [decide_eq_true_eq] at hb
      rw [br_t (by simp; omega), br_t (by simp; omega)]
      refine br_in (fun hc => ?_) (fun hc => ⟨i + 1, ?_⟩)
      · simp at hc ⊢; intro e; subst e; simp at hc
      · simp at hc
        exact ⟨ag2 hI0 (by omega) hc.1 hc.2, by omega, by simp; rw [w_i64 (by omega)], by simp⟩
    · simp only [decide_eq_false_iff_not] at hb
      have : xs = ys := gI_ext i2 fun j hj => i3 j (by omega)
      simp [this]

theorem obj_ok : GOK Try.prog 12 hObj := by
  refine gokW mixed tab_ok (hkL_cons same_ok hkL_nil) fun vs s r hg hs => ?_
  unfold hObj at hg
  split at hg <;> try (cases hg; done)
  rename_i a b
  simp only [Option.some.injEq, Prod.mk.injEq] at hg
  obtain ⟨rfl, rfl⟩ := hg
  obtain ⟨h1, h2, h3, h4, h5, h6⟩ := hs
  refine ⟨lhL [(1, hintObj (objOf a) (objOf b))], 10, [objS (objOf a), objS (objOf b)], ⟨h1, h2, trivial⟩, ?_⟩
  generalize objOf a = x at *
  generalize objOf b = y at *
  obtain ⟨x1, x2, x3, x4, x5, x6, x7, x8, x9, x10, xs⟩ := x
  obtain ⟨y1, y2, y3, y4, y5, y6, y7, y8, y9, y10, ys⟩ := y
  obtain ⟨g5, g5'⟩ := h5
  obtain ⟨g6, g6'⟩ := h6
  simp only at g5 g5' g6 g6' h3 h4
  rw [obj_res]
  simp only
  refine br_in (fun hb => by simp at hb; simp [hb]) fun hb => ?_
  simp only [Bool.not_eq_false', decide_eq_true_eq] at hb
  subst hb
  refine br_in (fun hb => ?_) fun hb => ?_
  · rw [Bool.eq_false_iff]; intro hc; simp at hb hc; omega
  simp only [Bool.not_eq_false', decide_eq_true_eq, Bool.and_eq_true] at hb
  obtain ⟨rfl, rfl, rfl, rfl, rfl, rfl, _⟩ := hb
  refine ⟨⟨by simp, by simp, h3, h4⟩, br_in (fun hb => ?_) fun hb => ?_⟩
  · rw [Bool.eq_false_iff]; intro hc; simp at hb hc; simp_all
  simp only [Bool.not_eq_false', decide_eq_true_eq, Bool.and_eq_true] at hb
  obtain ⟨rfl, rfl, rfl⟩ := hb
  refine br_in (fun hb => ?_) (fun hb => ⟨⟨0, ?_, by simp⟩, ?_⟩)
  · simp at hb ⊢; intro e; exact hb (by rw [e])
  · simp at hb; exact ag0 (by omega)
  · intro i hI
    simp (disch := omega) only [w_i64, w_u64, w_u32, w_u8, w_i32, w_u16, Int.toNat_natCast]
    have hI0 := hI
    obtain ⟨i1, i2, i3⟩ := hI
    refine br_in (fun hb => ?_) (fun hb => ?_)
    · simp only [decide_eq_true_eq] at hb
      rw [br_t (by simp; omega), br_t (by simp; omega)]
      refine br_in (fun hc => ?_) (fun hc => ⟨i + 1, ?_⟩)
      · simp at hc ⊢; intro e; subst e; simp at hc
      · simp at hc
        exact ⟨ag2 hI0 (by omega) hc.1 hc.2, by omega, by simp; rw [w_i64 (by omega)], by simp⟩
    · simp only [decide_eq_false_iff_not] at hb
      have : xs = ys := gI_ext i2 fun j hj => i3 j (by omega)
      simp [this]

theorem act_ok : GOK Try.prog 13 hAct := by
  refine gokW mixed tab_ok (hkL_cons ints_ok hkL_nil) fun vs s r hg hs => ?_
  unfold hAct at hg
  split at hg <;> try (cases hg; done)
  rename_i a b
  simp only [Option.some.injEq, Prod.mk.injEq] at hg
  obtain ⟨rfl, rfl⟩ := hg
  obtain ⟨h1, h2, h3⟩ := hs
  refine ⟨noL, 10, [actS (actOf a), actS (actOf b)], ⟨h1, h2, trivial⟩, ?_⟩
  generalize actOf a = x at *
  generalize actOf b = y at *
  rw [act_res]
  refine br_in (fun b1 => ?_) fun b1 => by simp [b1]
  refine br_in (fun b2 => ?_) fun b2 => by simp [b2]
  refine br_in (fun b3 => ?_) fun b3 => by simp [b3]
  refine br_in (fun b4 => ?_) fun b4 => by simp at b4; simp [b4]
  refine br_in (fun b5 => ?_) fun b5 => by simp at b5; simp [b5]
  refine br_in (fun b6 => ?_) fun b6 => by simp at b6; simp [b6]
  refine ⟨⟨rfl, rfl, h3⟩, ?_⟩
  rw [b1, b2, b3, b4, b5, b6]
  simp
end Go.Proofs.Ytgnninoehdnciaa
