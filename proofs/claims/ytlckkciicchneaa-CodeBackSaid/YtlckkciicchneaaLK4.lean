/- The same programs. No condition. -/
import Derived.Test.YtlckkciicchneaaRK4
namespace Go.Proofs.Ytlckkciicchneaa
open SY
open Go.RowKit
set_option linter.unusedSimpArgs false
set_option linter.unusedVariables false
set_option maxRecDepth 100000
theorem eq_law {x y : List Int} {p f : Nat} (h3 : KeepFew x) (hr : ∀ r, callT Try.prog (hkL []) tab (lhL [(1, hintEq p x y)]) 10 f [slI x, slI y] (fun u => subS (bS r) u) = callT Try.prog (hkL []) tab (lhL [(1, hintEq 5 x y)]) 10 33 [slI x, slI y] (fun u => subS (bS r) u)) :
    callT Try.prog (hkL []) tab (lhL [(1, hintEq p x y)]) 10 f [slI x, slI y] (fun u => subS (bS (KeepEq x y)) u) := by
  unfold KeepFew at h3
  rw [hr, ints_res]
  unfold KeepEq
  refine br_in (fun c => ?_) fun c => ⟨⟨⟨0⟩, ⟨Nat.zero_le _, by rw [List.take_zero, List.take_zero]⟩, ⟨rfl, trivial⟩, trivial⟩, fun z hz => br_in (fun d => ?_) fun d => ?_⟩
  · apply decide_eq_false
    intro e; subst e; simp at c
  · have d := of_decide_eq_true d
    obtain ⟨z1, z2⟩ := hz
    have hl : x.length = y.length := by simp at c; omega
    have hx : z.i < x.length := by omega
    have hy : z.i < y.length := by omega
    have ex : gI x z.i = x[z.i] := by simp [gI, hx]
    have ey : gI y z.i = y[z.i] := by simp [gI, hy]
    refine br_y (by simp; omega) <| br_y (by simp; omega) <| br_in (fun e => ?_) fun e => ?_
    · apply decide_eq_false
      intro h; subst h; simp at e
    · have e : gI x z.i = gI y z.i := by simpa using e
      rw [ex, ey] at e
      refine ⟨⟨z.i + 1⟩, ⟨hx, ?_⟩, by show x.length - (z.i + 1) < x.length - z.i; omega, ⟨i64_nat (by omega), trivial⟩, trivial⟩
      show x.take (z.i + 1) = y.take (z.i + 1)
      rw [← List.take_append_getElem hx, ← List.take_append_getElem hy, z2, e]
  · have d := of_decide_eq_false d
    obtain ⟨z1, z2⟩ := hz
    have hl : x.length = y.length := by simp at c; omega
    apply decide_eq_true
    rw [List.take_of_length_le (by omega), List.take_of_length_le (by omega)] at z2
    exact z2
theorem ints_ok : GOK Try.prog 33 (hEqV KeepEq) := by
  refine gokW mixed tab_ok hkL_nil fun vs s r hg hs => ?_
  unfold hEqV at hg
  split at hg <;> try (cases hg; done)
  rename_i a b
  simp only [Option.some.injEq, Prod.mk.injEq] at hg
  obtain ⟨rfl, rfl⟩ := hg
  exact ⟨lhL [(1, hintEq 5 (cL a) (cL b))], 10, [slI (cL a), slI (cL b)], ⟨hs.1, hs.2.1, trivial⟩, eq_law hs.2.2 fun r => rfl⟩
theorem equal_ok : GOK Try.prog 32 (hEqV KeepEq) := by
  refine gokW mixed tab_ok hkL_nil fun vs s r hg hs => ?_
  unfold hEqV at hg
  split at hg <;> try (cases hg; done)
  rename_i a b
  simp only [Option.some.injEq, Prod.mk.injEq] at hg
  obtain ⟨rfl, rfl⟩ := hg
  exact ⟨lhL [(1, hintEq 13 (cL a) (cL b))], 10, [slI (cL a), slI (cL b)], ⟨hs.1, hs.2.1, trivial⟩, eq_law hs.2.2 fun r => (equal_res _ _ r).trans (ints_res _ _ r).symm⟩
theorem take4 {xs : List Int} {k : Nat} (h : 4 * k + 4 ≤ xs.length) : xs.take (4 * (k + 1)) = xs.take (4 * k) ++ [gI xs (k * 4), gI xs (k * 4 + 1), gI xs (k * 4 + 2), gI xs (k * 4 + 3)] := by
  have e : 4 * (k + 1) = 4 * k + 1 + 1 + 1 + 1 := by omega
  have m : k * 4 = 4 * k := Nat.mul_comm _ _
  rw [e, List.take_succ_eq_append_getElem (by omega), List.take_succ_eq_append_getElem (by omega), List.take_succ_eq_append_getElem (by omega), List.take_succ_eq_append_getElem (by omega), List.append_assoc, List.append_assoc, List.append_assoc, m]
  simp [gI, List.getD_eq_getElem?_getD, List.getElem?_eq_getElem (show 4 * k < xs.length by omega), List.getElem?_eq_getElem (show 4 * k + 1 < xs.length by omega), List.getElem?_eq_getElem (show 4 * k + 2 < xs.length by omega), List.getElem?_eq_getElem (show 4 * k + 3 < xs.length by omega)]
/-- What a round of a comparison comes to. -/
theorem four_eq {a b : List Int} {k : Nat} (ha : 4 * k + 4 ≤ a.length) (hb : 4 * k + 4 ≤ b.length) (h : a.take (4 * k) = b.take (4 * k)) (e : (!(decide (gI a (k * 4) = gI b (k * 4)) && (decide (gI a (k * 4 + 1) = gI b (k * 4 + 1)) && (decide (gI a (k * 4 + 2) = gI b (k * 4 + 2)) && (decide (gI a (k * 4 + 3) = gI b (k * 4 + 3)) && true))))) = false) : a.take (4 * (k + 1)) = b.take (4 * (k + 1)) := by
  rw [take4 ha, take4 hb, h]
  simp only [Bool.not_eq_false', Bool.and_eq_true, decide_eq_true_eq, and_true] at e
  rw [e.1, e.2.1, e.2.2.1, e.2.2.2]
theorem four_ne {a b : List Int} {k : Nat} (e : (!(decide (gI a (k * 4) = gI b (k * 4)) && (decide (gI a (k * 4 + 1) = gI b (k * 4 + 1)) && (decide (gI a (k * 4 + 2) = gI b (k * 4 + 2)) && (decide (gI a (k * 4 + 3) = gI b (k * 4 + 3)) && true))))) = true) : a ≠ b := fun h => by subst h; simp at e
theorem equal4_ok : GOK Try.prog 31 (hEq4 KeepEq) := by
  refine gokW mixed tab_ok hkL_nil fun vs s r hg hs => ?_
  unfold hEq4 at hg
  split at hg <;> try (cases hg; done)
  rename_i a b
  simp only [Option.some.injEq, Prod.mk.injEq] at hg
  obtain ⟨rfl, rfl⟩ := hg
  obtain ⟨h1, h2, h3, h4⟩ := hs
  refine ⟨lhL [(1, hintE4 13 (cL a) (cL b))], 10, [sl4 (cL a), sl4 (cL b)], ⟨h1, h2, trivial⟩, ?_⟩
  generalize cL a = x at *
  generalize cL b = y at *
  obtain ⟨x1, x2⟩ := h3
  obtain ⟨y1, y2⟩ := h4
  rw [equal4_res]
  simp only [Int.toNat_natCast, p2, p3, true_and, and_true]
  unfold KeepEq
  refine br_in (fun c => ?_) fun c => ⟨⟨⟨0⟩, ⟨Nat.zero_le _, by simp⟩, rfl⟩, fun z hz => br_in (fun d => ?_) fun d => ?_⟩
  · exact decide_eq_false fun h => by subst h; simp at c
  · have c : (!decide (((x.length / 4 : Nat) : Int) = ((y.length / 4 : Nat) : Int))) = false := c
    simp only [Bool.not_eq_false', decide_eq_true_eq] at c
    have d := of_decide_eq_true d
    have d : ((z.i : Nat) : Int) < ((x.length / 4 : Nat) : Int) := d
    refine br_y (by simp; omega) <| br_y (by simp; omega) <| br_in (fun e => decide_eq_false (four_ne e)) fun e => ⟨⟨z.i + 1⟩, ⟨by show 4 * (z.i + 1) ≤ _; omega, four_eq (by omega) (by omega) hz.2 e⟩, by show x.length - (z.i + 1) < x.length - z.i; omega, i64_nat (by omega)⟩
  · have c : (!decide (((x.length / 4 : Nat) : Int) = ((y.length / 4 : Nat) : Int))) = false := c
    simp only [Bool.not_eq_false', decide_eq_true_eq] at c
    have d := of_decide_eq_false d
    have d : ¬ ((z.i : Nat) : Int) < ((x.length / 4 : Nat) : Int) := d
    obtain ⟨z1, z2⟩ := hz
    rw [List.take_of_length_le (by omega), List.take_of_length_le (by omega)] at z2
    exact decide_eq_true z2
theorem hkE_ok : HookOK Try.prog (hkE KeepEq KeepEq) := hkL_cons equal4_ok (hkL_cons equal_ok (hkL_cons ints_ok hkL_nil))
def KeepSm (p q : PF) : Bool := KeepEq p.cd q.cd && (KeepEq p.ks q.ks && (KeepEq p.sz q.sz && (decide (p.cl = q.cl) && (decide (p.rc = q.rc) && decide (p.pt = q.pt)))))
def KeepPf (p : PF) : Prop := KeepF4 p.cd ∧ KeepFew p.ks ∧ KeepFew p.sz
noncomputable def hSm (f : PF → PF → Bool) : Hk := fun vs => match vs with
  | [a, b] => some (subS (prgV (cP a)) a ∧ subS (prgV (cP b)) b ∧ KeepPf (cP a) ∧ KeepPf (cP b), bS (f (cP a) (cP b)))
  | _ => none
theorem cL4 (l : List Int) : cL (S.t (T.c (SC.sl [CK.int IntKind.i64, CK.int IntKind.i64, CK.int IntKind.i64, CK.int IntKind.i64] l none))) = l := rfl
theorem cL1 (l : List Int) : cL (S.t (T.c (SC.sl [CK.int IntKind.i64] l none))) = l := rfl
theorem same_ok : GOK Try.prog 15 (hSm KeepSm) := by
  refine gokW mixed tab_ok hkE_ok fun vs s r hg hs => ?_
  unfold hSm at hg
  split at hg <;> try (cases hg; done)
  rename_i a b
  simp only [Option.some.injEq, Prod.mk.injEq] at hg
  obtain ⟨rfl, rfl⟩ := hg
  obtain ⟨h1, h2, ⟨h3, h4, h5⟩, ⟨h6, h7, h8⟩⟩ := hs
  refine ⟨noL, 10, [prgV (cP a), prgV (cP b)], ⟨h1, h2, trivial⟩, ?_⟩
  generalize cP a = p at *
  generalize cP b = q at *
  rw [same_res]
  simp only [cL4, cL1, h3, h4, h5, h6, true_and, br_sel]
  rfl
theorem rsame_ok : GOK Try.prog 16 (hSm KeepSm) := by
  refine gokW mixed tab_ok hkE_ok fun vs s r hg hs => ?_
  unfold hSm at hg
  split at hg <;> try (cases hg; done)
  rename_i a b
  simp only [Option.some.injEq, Prod.mk.injEq] at hg
  obtain ⟨rfl, rfl⟩ := hg
  obtain ⟨h1, h2, ⟨h3, h4, h5⟩, ⟨h6, h7, h8⟩⟩ := hs
  refine ⟨lhL [(1, hintSm (cP a) (cP b))], 10, [prgV (cP a), prgV (cP b)], ⟨h1, h2, trivial⟩, ?_⟩
  generalize cP a = p at *
  generalize cP b = q at *
  obtain ⟨x1, x2⟩ := h3
  obtain ⟨y1, y2⟩ := h6
  rw [rsame_res]
  simp only [cL4, cL1, h4, h5, Int.toNat_natCast, p2, p3, true_and, and_true, br_sel]
  have no : ∀ {P : Prop}, ¬ P → (KeepSm p q = true → P) → KeepSm p q = false := fun hn hp => by
    cases h : KeepSm p q
    · rfl
    · exact absurd (hp h) hn
  have sp : KeepSm p q = true → p.cd = q.cd ∧ p.ks = q.ks ∧ p.sz = q.sz ∧ p.cl = q.cl ∧ p.rc = q.rc ∧ p.pt = q.pt := fun h => by
    unfold KeepSm KeepEq at h
    simpa using h
  refine br_in (fun c => ?_) fun c => br_in (fun c1 => ?_) fun c1 => br_in (fun c2 => ?_) fun c2 => br_in (fun c3 => ?_) fun c3 => ⟨⟨⟨0⟩, ⟨Nat.zero_le _, by simp⟩, rfl⟩, fun z hz => br_in (fun d => ?_) fun d => ?_⟩
  all_goals simp only [Bool.not_eq_true', Bool.not_eq_false', decide_eq_true_eq, decide_eq_false_iff_not] at c
  · exact no c fun h => by rw [(sp h).1]
  all_goals simp only [Bool.not_eq_true', Bool.not_eq_false', decide_eq_true_eq, decide_eq_false_iff_not] at c1
  · exact no c1 fun h => (sp h).2.2.2.1
  all_goals simp only [Bool.not_eq_true', Bool.not_eq_false', decide_eq_true_eq, decide_eq_false_iff_not] at c2
  · exact no c2 fun h => (sp h).2.2.2.2.1
  all_goals simp only [Bool.not_eq_true', Bool.not_eq_false', decide_eq_true_eq, decide_eq_false_iff_not] at c3
  · exact no c3 fun h => (sp h).2.2.2.2.2
  · have d := of_decide_eq_true d
    have d : ((z.i : Nat) : Int) < ((p.cd.length / 4 : Nat) : Int) := d
    refine br_y (by simp; omega) <| br_y (by simp; omega) <| br_in (fun e => no (four_ne e) fun h => (sp h).1) fun e => ⟨⟨z.i + 1⟩, ⟨by show 4 * (z.i + 1) ≤ _; omega, four_eq (by omega) (by omega) hz.2 e⟩, by show p.cd.length - (z.i + 1) < p.cd.length - z.i; omega, i64_nat (by omega)⟩
  · have d := of_decide_eq_false d
    have d : ¬ ((z.i : Nat) : Int) < ((p.cd.length / 4 : Nat) : Int) := d
    obtain ⟨z1, z2⟩ := hz
    rw [List.take_of_length_le (by omega), List.take_of_length_le (by omega)] at z2
    show KeepSm p q = _
    unfold KeepSm
    simp [KeepEq, z2, c1, c2, c3]
end Go.Proofs.Ytlckkciicchneaa
