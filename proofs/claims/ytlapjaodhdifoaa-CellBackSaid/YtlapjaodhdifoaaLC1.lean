/- Cells: what the document's functions answer. No condition. -/
import Derived.Test.YtlapjaodhdifoaaRC1
namespace Go.Proofs.Ytlapjaodhdifoaa
open SY
open Go.RowKit Go.Maps
set_option linter.unusedSimpArgs false
set_option linter.unusedVariables false
theorem i64_nat {k : Nat} (h : k < 9223372036854775807) : ((k + 1 : Nat) : Int) = IntKind.i64.wrap ((k : Int) + 1) := by rw [IntKind.wrap_i64]; omega
theorem ble_of {a b : Nat} (h : a ≤ b) : a.ble b = true := Nat.ble_eq ▸ h
theorem eq_law {x y : List Int} {p f : Nat} (h3 : KeepFew x) (hr : ∀ r, callT Try.prog (hkL []) tab (lhL [(1, hintEq p x y)]) 10 f [slU x, slU y] (fun u => subS (bS r) u) = callT Try.prog (hkL []) tab (lhL [(1, hintEq 5 x y)]) 10 14 [slU x, slU y] (fun u => subS (bS r) u)) :
    callT Try.prog (hkL []) tab (lhL [(1, hintEq p x y)]) 10 f [slU x, slU y] (fun u => subS (bS (KeepEq x y)) u) := by
  unfold KeepFew at h3
  rw [hr, words_res]
  unfold KeepEq
  refine br_in (fun c => ?_) fun c => ⟨⟨⟨0⟩, ⟨Nat.zero_le _, by rw [List.take_zero, List.take_zero]⟩, ⟨rfl, trivial⟩, trivial⟩, fun z hz => br_in (fun d => ?_) fun d => ?_⟩
  · apply decide_eq_false
    intro e; subst e; simp at c
  · have d := of_decide_eq_true d
    obtain ⟨z1, z2⟩ := hz
    have hl : x.length = y.length := by simp at c; omega
    have hx : z.i < x.length := by omega
    have hy : z.i < y.length := by omega
    have ex : gI x z.i = x[z.i] := by simp [gI, hx]
    have ey : gI y z.i = y[z.i] := by simp [gI, hy]
    refine br_y (by simp; omega) <| br_y (by simp; omega) <| br_in (fun e => ?_) fun e => ?_
    · apply decide_eq_false
      intro h; subst h; simp at e
    · have e : gI x z.i = gI y z.i := by simpa using e
      rw [ex, ey] at e
      refine ⟨⟨z.i + 1⟩, ⟨hx, ?_⟩, by show x.length - (z.i + 1) < x.length - z.i; omega, ⟨i64_nat (by omega), trivial⟩, trivial⟩
      show x.take (z.i + 1) = y.take (z.i + 1)
      rw [← List.take_append_getElem hx, ← List.take_append_getElem hy, z2, e]
  · have d := of_decide_eq_false d
    obtain ⟨z1, z2⟩ := hz
    have hl : x.length = y.length := by simp at c; omega
    apply decide_eq_true
    rw [List.take_of_length_le (by omega), List.take_of_length_le (by omega)] at z2
    exact z2
theorem words_ok : GOK Try.prog 14 (hEqV KeepEq) := by
  refine gokW mixed tab_ok hkL_nil fun vs s r hg hs => ?_
  unfold hEqV at hg
  split at hg <;> try (cases hg; done)
  rename_i a b
  simp only [Option.some.injEq, Prod.mk.injEq] at hg
  obtain ⟨rfl, rfl⟩ := hg
  exact ⟨lhL [(1, hintEq 5 (cL a) (cL b))], 10, [slU (cL a), slU (cL b)], ⟨hs.1, hs.2.1, trivial⟩, eq_law hs.2.2 fun r => rfl⟩
theorem equal_ok : GOK Try.prog 21 (hEqV KeepEq) := by
  refine gokW mixed tab_ok hkL_nil fun vs s r hg hs => ?_
  unfold hEqV at hg
  split at hg <;> try (cases hg; done)
  rename_i a b
  simp only [Option.some.injEq, Prod.mk.injEq] at hg
  obtain ⟨rfl, rfl⟩ := hg
  exact ⟨lhL [(1, hintEq 13 (cL a) (cL b))], 10, [slU (cL a), slU (cL b)], ⟨hs.1, hs.2.1, trivial⟩, eq_law hs.2.2 fun r => (equal_res _ _ r).trans (words_res _ _ r).symm⟩
theorem in_no1 {xs : List Int} {i : Int} (h : i < 0) : KeepIn xs i = false := by unfold KeepIn; rw [decide_eq_false (by omega)]; rfl
theorem in_no2 {xs : List Int} {i : Int} (h : (xs.length : Int) ≤ i) : KeepIn xs i = false := by unfold KeepIn; rw [decide_eq_false (show ¬ i < (xs.length : Int) by omega)]; simp
theorem in_yes {xs : List Int} {i : Int} (h : 0 ≤ i) (h' : i < xs.length) : KeepIn xs i = true := by unfold KeepIn; rw [decide_eq_true h, decide_eq_true h']; rfl
theorem in_split {xs : List Int} {i : Int} (h : KeepIn xs i = true) : 0 ≤ i ∧ i < xs.length := by unfold KeepIn at h; simpa using h
theorem rload_ok : GOK Try.prog 7 (hLd KeepAt KeepIn) := by
  refine gokW mixed tab_ok hkL_nil fun vs s r hg hs => ?_
  unfold hLd at hg
  split at hg <;> try (cases hg; done)
  rename_i a b
  simp only [Option.some.injEq, Prod.mk.injEq] at hg
  obtain ⟨rfl, rfl⟩ := hg
  refine ⟨noL, 10, [slU (cL a), iS (cI b)], ⟨hs.1, hs.2.1, trivial⟩, ?_⟩
  generalize cL a = xs at *
  generalize cI b = i at *
  rw [rload_res]
  unfold KeepAt
  refine br_in (fun c => ?_) fun c => br_in (fun d => ?_) fun d => ?_
  · have e := in_no1 (xs := xs) (of_decide_eq_true c)
    simp [e]
  · have e := in_no2 (xs := xs) (of_decide_eq_true d)
    simp [e]
  · have c := of_decide_eq_false c
    have d := of_decide_eq_false d
    have e := in_yes (xs := xs) (i := i) (by omega) (by omega)
    exact br_y (by simp; omega) (by simp [e])
theorem set_cut {xs : List Int} {k : Nat} {y : Int} (h : k < xs.length) : [] ++ xs.take k ++ [y] ++ xs.drop (k + 1) = xs.set k y := by
  rw [List.set_eq_take_append_cons_drop, if_pos h]; simp
theorem rstore_ok : GOK Try.prog 9 (hSt KeepSt KeepIn) := by
  refine gokW mixed tab_ok hkL_nil fun vs s r hg hs => ?_
  unfold hSt at hg
  split at hg <;> try (cases hg; done)
  rename_i a b c
  simp only [Option.some.injEq, Prod.mk.injEq] at hg
  obtain ⟨rfl, rfl⟩ := hg
  refine ⟨noL, 10, [slU (cL a), iS (cI b), uS (cI c)], ⟨hs.1, hs.2.1, hs.2.2.1, trivial⟩, ?_⟩
  have hN := hs.2.2.2
  unfold KeepLe at hN
  clear hs
  generalize cL a = xs at *
  generalize cI b = i at *
  generalize cI c = y at *
  rw [rstore_res]
  unfold KeepSt
  refine br_in (fun c => ?_) fun c => br_in (fun d => ?_) fun d => ?_
  · have e := in_no1 (xs := xs) (of_decide_eq_true c)
    simp [e]
  · have e := in_no2 (xs := xs) (of_decide_eq_true d)
    simp [e]
  · have c := of_decide_eq_false c
    have d := of_decide_eq_false d
    have e := in_yes (xs := xs) (i := i) (by omega) (by omega)
    obtain ⟨k, rfl⟩ : ∃ k : Nat, i = k := ⟨i.toNat, by omega⟩
    have hk : k < xs.length := by omega
    have e1 : IntKind.i64.wrap ((k : Int) + 1) = ((k + 1 : Nat) : Int) := (i64_nat (by omega)).symm
    rw [e1, Int.toNat_natCast, Int.toNat_natCast]
    refine br_y (by simp; omega) <| br_y (ble_of (by simp; omega)) <| br_y (ble_of (by simp; omega)) <| br_y (by simp; omega) <| br_y (ble_of (by simp; omega)) ?_
    rw [e, set_cut hk]
    exact ⟨rfl, rfl, trivial⟩
theorem hkR_ok : HookOK Try.prog (hkR KeepAt KeepSt KeepIn) := hkL_cons rload_ok (hkL_cons rstore_ok hkL_nil)
theorem cL_eq (l : List Int) : cL (S.t (T.c (SC.sl [CK.int IntKind.u64] l none))) = l := rfl
theorem cI_i (a : Int) : cI (S.t (T.c (SC.v (Value.int IntKind.i64 a)))) = a := rfl
theorem cI_u (a : Int) : cI (S.t (T.c (SC.v (Value.int IntKind.u64 a)))) = a := rfl
theorem st_self {xs : List Int} {i : Int} (h : KeepIn xs i = true) : KeepSt xs i (KeepAt xs i) = xs := by
  have h' := in_split h
  have hk : i.toNat < xs.length := by omega
  unfold KeepSt KeepAt
  rw [if_pos h, if_pos h]
  have : gI xs i.toNat = xs[i.toNat] := by simp [gI, hk]
  rw [this, List.set_getElem_self]
theorem rswap_ok : GOK Try.prog 11 (hSw KeepSw KeepWs KeepIn) := by
  refine gokW mixed tab_ok hkR_ok fun vs s r hg hs => ?_
  unfold hSw at hg
  split at hg <;> try (cases hg; done)
  rename_i a b c d
  simp only [Option.some.injEq, Prod.mk.injEq] at hg
  obtain ⟨rfl, rfl⟩ := hg
  refine ⟨noL, 10, [slU (cL a), iS (cI b), uS (cI c), uS (cI d)], ⟨hs.1, hs.2.1, hs.2.2.1, hs.2.2.2.1, trivial⟩, ?_⟩
  have hN := hs.2.2.2.2
  clear hs
  generalize cL a = xs at *
  generalize cI b = i at *
  generalize cI c = old at *
  generalize cI d = y at *
  rw [rswap_res]
  simp only [cL_eq, cI_i, cI_u]
  have hN' := hN
  unfold KeepLe at hN'
  refine ⟨⟨trivial, trivial, hN⟩, br_in (fun c => ?_) fun c => br_in (fun d => br_y (ble_of (by omega)) ?_) fun d => ⟨⟨trivial, trivial, trivial, hN⟩, ?_⟩⟩
  · simp only [Bool.not_eq_true'] at c
    unfold KeepSw KeepSt KeepWs
    simp [c]
  · simp only [Bool.not_eq_false'] at c
    have d : (!decide (KeepAt xs i = old)) = true := d
    simp only [Bool.not_eq_true', decide_eq_false_iff_not] at d
    unfold KeepSw KeepWs
    rw [if_neg d, st_self c, c, decide_eq_false d]
    exact ⟨by simp, rfl, rfl, trivial⟩
  · simp only [Bool.not_eq_false'] at c
    have d : (!decide (KeepAt xs i = old)) = false := d
    simp only [Bool.not_eq_false', decide_eq_true_eq] at d
    unfold KeepSw KeepWs
    rw [if_pos d, c, decide_eq_true d]
    exact ⟨rfl, rfl, rfl, trivial⟩
theorem rmore_ok : GOK Try.prog 13 (hMo KeepMo KeepMx KeepIn) := by
  refine gokW mixed tab_ok hkR_ok fun vs s r hg hs => ?_
  unfold hMo at hg
  split at hg <;> try (cases hg; done)
  rename_i a b c
  simp only [Option.some.injEq, Prod.mk.injEq] at hg
  obtain ⟨rfl, rfl⟩ := hg
  refine ⟨noL, 10, [slU (cL a), iS (cI b), uS (cI c)], ⟨hs.1, hs.2.1, hs.2.2.1, trivial⟩, ?_⟩
  have hN := hs.2.2.2
  clear hs
  generalize cL a = xs at *
  generalize cI b = i at *
  generalize cI c = y at *
  rw [rmore_res]
  simp only [cL_eq, cI_i, cI_u]
  refine ⟨⟨trivial, trivial, hN⟩, br_in (fun c => ?_) fun c => ⟨⟨trivial, trivial, trivial, hN⟩, ?_⟩⟩
  · simp only [Bool.not_eq_true'] at c
    unfold KeepMo KeepMx KeepSt
    simp [c]
  · simp only [Bool.not_eq_false'] at c
    unfold KeepMo KeepMx
    rw [if_pos c, c]
    exact ⟨rfl, rfl, rfl, trivial⟩
end Go.Proofs.Ytlapjaodhdifoaa
