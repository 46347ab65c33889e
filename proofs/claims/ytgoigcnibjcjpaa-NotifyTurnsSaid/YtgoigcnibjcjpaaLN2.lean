/- Waiters: what the others answer. No condition. -/
import Derived.Test.YtgoigcnibjcjpaaLN1
namespace Go.Proofs.Ytgoigcnibjcjpaa
open SY
open Go.RowKit Go.Maps
set_option linter.unusedSimpArgs false
set_option linter.unusedVariables false

theorem take_step {xs : List Int} {k : Nat} (h : 2 * k + 2 ≤ xs.length) : xs.take (2 * (k + 1)) = xs.take (2 * k) ++ [tkI xs k, tsI xs k] := by
  have e : 2 * (k + 1) = 2 * k + 1 + 1 := by omega
  rw [e, List.take_succ_eq_append_getElem (by omega), List.take_succ_eq_append_getElem (by omega), List.append_assoc]
  simp [tkI, tsI, gI, List.getD_eq_getElem?_getD, List.getElem?_eq_getElem (show 2 * k < xs.length by omega), List.getElem?_eq_getElem (show 2 * k + 1 < xs.length by omega)]
theorem hk_right : HookOK Try.prog (hkR KeepRn) := hkL_cons right_ok (hkL_cons rright_ok hkL_nil)
theorem hk_one : HookOK Try.prog (hkO KeepRn) := hkL_cons right_ok (hkL_cons concat_ok hkL_nil)
theorem xh_A : XHookOK Try.prog xhA := xhL_cons xHas_ok (xhL_cons xIx_ok xhL_nil)
theorem ixF_ge {φ : Nat → Bool} : ∀ (m k j : Nat), k ≤ j → j < k + m → φ j = true → (k : Int) ≤ ixF φ m k
  | 0, k, j, h1, h2, _ => by omega
  | m + 1, k, j, h1, h2, h3 => by
    unfold ixF
    split
    · exact Int.le_refl _
    · rename_i hk
      rcases Nat.eq_or_lt_of_le h1 with rfl | h
      · exact absurd h3 hk
      · have := ixF_ge m (k + 1) j h (by omega) h3
        omega
theorem ixF_in {φ : Nat → Bool} : ∀ (m k : Nat), 0 ≤ ixF φ m k → k ≤ (ixF φ m k).toNat ∧ (ixF φ m k).toNat < k + m ∧ φ (ixF φ m k).toNat = true ∧ ∀ i, k ≤ i → i < (ixF φ m k).toNat → φ i = false
  | 0, k, h => by unfold ixF at h; omega
  | m + 1, k, h => by
    unfold ixF at h ⊢
    split
    · rename_i hk
      rw [Int.toNat_natCast]
      exact ⟨Nat.le_refl _, by omega, hk, fun i a b => by omega⟩
    · rename_i hk
      rw [if_neg hk] at h
      obtain ⟨h1, h2, h3, h4⟩ := ixF_in m (k + 1) h
      refine ⟨by omega, by omega, h3, fun i a b => ?_⟩
      rcases Nat.eq_or_lt_of_le a with rfl | a
      · simpa using hk
      · exact h4 i a b
theorem rt_split {n : NF} (h : KeepRn n = true) : (n.wt - n.td) % 4294967296 ≤ 1000 ∧ n.ns.length ≤ 24 ∧ ∀ k, k < n.ns.length / 2 → okW n.wt n.td n.ns k = true := by
  unfold KeepRn KeepRt at h
  simp only [Bool.and_eq_true, decide_eq_true_eq, List.all_eq_true, List.mem_range] at h
  exact h
theorem ok_split {wt td : Int} {xs : List Int} {k : Nat} (h : okW wt td xs k = true) : 0 ≤ tsI xs k ∧ (tkI xs k - td) % 4294967296 < (wt - td) % 4294967296 ∧ (∀ j, j < k → tkI xs j ≠ tkI xs k) ∧ ∀ j, j < k → tsI xs j ≠ tsI xs k := by
  unfold okW at h
  simp only [Bool.and_eq_true, decide_eq_true_eq] at h
  obtain ⟨h1, h2, h3, h4⟩ := h
  refine ⟨h1, h2, fun j hj e => ?_, fun j hj e => ?_⟩
  · have := cnt_two hj e; omega
  · have := cnt_two hj e; omega

/-! Same -/
theorem same_ok : GOK Try.prog 13 (hSe KeepSe) := by
  refine gokW mixed tab_ok hkL_nil fun vs s r hg hs => ?_
  unfold hSe at hg
  split at hg <;> try (cases hg; done)
  rename_i a b
  simp only [Option.some.injEq, Prod.mk.injEq] at hg
  obtain ⟨rfl, rfl⟩ := hg
  obtain ⟨h1, h2, h3, h4⟩ := hs
  refine ⟨lhL [(1, hintSe (cN a) (cN b))], 10, [notV (cN a), notV (cN b)], ⟨h1, h2, trivial⟩, ?_⟩
  generalize cN a = x at *
  generalize cN b = y at *
  obtain ⟨l1, e1⟩ := h3
  obtain ⟨l2, e2⟩ := h4
  rw [same_res]
  simp only [Int.toNat_natCast, g0k, g1k]
  unfold KeepSe
  refine br_in (fun c => ?_) fun c => br_in (fun c' => ?_) fun c' => br_in (fun c2 => ?_) fun c2 => ⟨⟨⟨0⟩, ⟨Nat.zero_le _, by simp⟩, by simp, by simp, by simp, trivial⟩, fun z hz => br_in (fun d => ?_) fun d => ?_⟩
  · have c : (!decide (x.wt = y.wt)) = true := c
    simp only [Bool.not_eq_true', decide_eq_false_iff_not] at c
    simp [c]
  · have c' : (!decide (x.td = y.td)) = true := c'
    simp only [Bool.not_eq_true', decide_eq_false_iff_not] at c'
    simp [c']
  · have c2 : (!decide (((x.ns.length / 2 : Nat) : Int) = ((y.ns.length / 2 : Nat) : Int))) = true := c2
    simp only [Bool.not_eq_true', decide_eq_false_iff_not] at c2
    have : x.ns ≠ y.ns := fun h => c2 (by rw [h])
    simp [this]
  · have c2 : (!decide (((x.ns.length / 2 : Nat) : Int) = ((y.ns.length / 2 : Nat) : Int))) = false := c2
    simp only [Bool.not_eq_false', decide_eq_true_eq] at c2
    have d := of_decide_eq_true d
    have d : ((z.i : Nat) : Int) < ((x.ns.length / 2 : Nat) : Int) := d
    refine br_y (by simp; omega) <| br_y (by simp; omega) <| br_in (fun e => ?_) fun e => ⟨⟨z.i + 1⟩, ?_, ?_, by simp [← i64_nat (show z.i < 9223372036854775807 by omega)], by simp, by simp, trivial⟩
    · have : x.ns ≠ y.ns := fun h => by rw [h] at e; simp at e
      simp [this]
    · refine ⟨by show 2 * (z.i + 1) ≤ _; omega, ?_⟩
      show x.ns.take (2 * (z.i + 1)) = y.ns.take (2 * (z.i + 1))
      rw [take_step (by omega), take_step (by omega), hz.2]
      simp only [Bool.not_eq_false', Bool.and_eq_true, decide_eq_true_eq, and_true] at e
      rw [e.1, e.2]
    · show x.ns.length - (z.i + 1) < x.ns.length - z.i; omega
  · have c : (!decide (x.wt = y.wt)) = false := c
    have c' : (!decide (x.td = y.td)) = false := c'
    have c2 : (!decide (((x.ns.length / 2 : Nat) : Int) = ((y.ns.length / 2 : Nat) : Int))) = false := c2
    simp only [Bool.not_eq_false', decide_eq_true_eq] at c c' c2
    have d := of_decide_eq_false d
    have d : ¬ ((z.i : Nat) : Int) < ((x.ns.length / 2 : Nat) : Int) := d
    obtain ⟨hz1, hz2⟩ := hz
    rw [List.take_of_length_le (by omega), List.take_of_length_le (by omega)] at hz2
    simp [c, c', hz2]

/-! Park -/
def KeepPk (n : NF) (t s : Int) : NF × Int :=
  if s < 0 then (n, 1) else if KeepRn n = false then (n, 1) else if ¬ (t - n.td) % 4294967296 < (n.wt - n.td) % 4294967296 then (n, 1) else if KeepHas n.ns t s = true then (n, 8) else if n.ns.length / 2 = 12 then (n, 6) else (⟨n.wt, n.td, n.ns ++ [t, s]⟩, 0)
def KeepPn (n : NF) (t s : Int) : NF := (KeepPk n t s).1
def KeepPe (n : NF) (t s : Int) : Int := (KeepPk n t s).2
theorem pk_out (n : NF) (t s : Int) (p : NF × Int) (h : KeepPk n t s = p) : ((KeepPn n t s).1 = p.1.1 ∧ (KeepPn n t s).2 = p.1.2 ∧ (KeepPn n t s).3 = p.1.3 ∧ True) ∧ KeepPe n t s = p.2 ∧ True := by
  unfold KeepPn KeepPe; rw [h]; exact ⟨⟨rfl, rfl, rfl, trivial⟩, rfl, trivial⟩
theorem ble_of {a b : Nat} (h : a ≤ b) : a.ble b = true := Nat.ble_eq ▸ h
theorem park_ok : GOK Try.prog 11 (hPark KeepPn KeepPe) := by
  refine gokX mixed tab_ok fun vs s r hg hs => ?_
  unfold hPark at hg
  split at hg <;> try (cases hg; done)
  rename_i a b c
  simp only [Option.some.injEq, Prod.mk.injEq] at hg
  obtain ⟨rfl, rfl⟩ := hg
  obtain ⟨h1, h2, h3, hw, hu, hi⟩ := hs
  refine ⟨hkR KeepRn, xhA, noL, 10, [notV (cN a), uS (cI b), iS (cI c)], hk_right, xh_A, ⟨h1, h2, h3, trivial⟩, ?_⟩
  generalize cN a = n at *
  generalize cI b = t at *
  generalize cI c = s at *
  have out := pk_out n t s
  rw [park_res]
  simp only [IntKind.wrap_u32]
  obtain ⟨hwt, htd, he, hlen, hin⟩ := hw
  refine br_in (fun c => ?_) fun c => ⟨⟨⟨trivial, trivial, trivial, trivial⟩, hwt, htd, he, hlen, hin⟩, br_in (fun c1 => ?_) fun c1 => ⟨trivial, br_in (fun c2 => ?_) fun c2 => ⟨hlen, br_in (fun c3 => ?_) fun c3 => br_in (fun c4 => ?_) fun c4 => ?_⟩⟩⟩
  · exact out (n, 1) (by unfold KeepPk; rw [if_pos (of_decide_eq_true c)])
  · have c := of_decide_eq_false c
    have c1 : (!KeepRn n) = true := c1
    exact out (n, 1) (by unfold KeepPk; rw [if_neg c, if_pos (by simpa using c1)])
  · have c := of_decide_eq_false c
    have c1 : (!KeepRn n) = false := c1
    simp only [Bool.not_eq_true', decide_eq_false_iff_not] at c2
    exact out (n, 1) (by unfold KeepPk; rw [if_neg c, if_neg (by simpa using c1), if_pos c2])
  · have c := of_decide_eq_false c
    have c1 : (!KeepRn n) = false := c1
    simp only [Bool.not_eq_false', decide_eq_true_eq] at c2
    exact out (n, 8) (by unfold KeepPk; rw [if_neg c, if_neg (by simpa using c1), if_neg (fun h => h c2), if_pos c3])
  · have c := of_decide_eq_false c
    have c1 : (!KeepRn n) = false := c1
    simp only [Bool.not_eq_false', decide_eq_true_eq] at c2
    have c4 := of_decide_eq_true c4
    exact out (n, 6) (by unfold KeepPk; rw [if_neg c, if_neg (by simpa using c1), if_neg (fun h => h c2), if_neg (by simpa using c3), if_pos (by omega)])
  · have c := of_decide_eq_false c
    have c1 : (!KeepRn n) = false := c1
    simp only [Bool.not_eq_false', decide_eq_true_eq] at c2
    have c4 := of_decide_eq_false c4
    have tk : List.take (((n.ns.length / 2 : Nat) : Int).toNat * 2) n.ns = n.ns := List.take_of_length_le (by rw [Int.toNat_natCast]; omega)
    refine br_y (by simp) ⟨br_y (by simp) trivial, br_y (ble_of (by rw [tk]; omega)) ?_⟩
    rw [tk]
    exact out (⟨n.wt, n.td, n.ns ++ [t, s]⟩, 0) (by unfold KeepPk; rw [if_neg c, if_neg (by simpa using c1), if_neg (fun h => h c2), if_neg (by simpa using c3), if_neg (by omega)])
theorem rpark_ok : GOK Try.prog 12 (hPark KeepPn KeepPe) := by
  refine gokW mixed tab_ok hk_right fun vs s r hg hs => ?_
  unfold hPark at hg
  split at hg <;> try (cases hg; done)
  rename_i a b c
  simp only [Option.some.injEq, Prod.mk.injEq] at hg
  obtain ⟨rfl, rfl⟩ := hg
  obtain ⟨h1, h2, h3, hw, hu, hi⟩ := hs
  refine ⟨lhL [(1, hintP (cN a) (cI b) (cI c))], 10, [notV (cN a), uS (cI b), iS (cI c)], ⟨h1, h2, h3, trivial⟩, ?_⟩
  generalize cN a = n at *
  generalize cI b = t at *
  generalize cI c = s at *
  have out := pk_out n t s
  rw [rpark_res]
  obtain ⟨hwt, htd, he, hlen, hin⟩ := hw
  rw [far_eq hu htd, far_eq hwt htd]
  simp only [Int.toNat_natCast, g0k, g1k]
  refine ⟨⟨⟨trivial, trivial, trivial, trivial⟩, hwt, htd, he, hlen, hin⟩, br_in (fun c1 => ?_) fun c1 => br_in (fun c => ?_) fun c => ⟨trivial, trivial, br_in (fun c2 => ?_) fun c2 => ⟨⟨⟨0⟩, ⟨Nat.zero_le _, fun j hj => absurd hj (Nat.not_lt_zero _)⟩, by simp, by simp, by simp, trivial⟩, fun x hx => br_in (fun d => ?_) fun d => ?_⟩⟩⟩
  · have c1 : (!KeepRn n) = true := c1
    refine out (n, 1) ?_
    unfold KeepPk
    split
    · rfl
    · rw [if_pos (by simpa using c1)]
  · exact out (n, 1) (by unfold KeepPk; rw [if_pos (of_decide_eq_true c)])
  · have c := of_decide_eq_false c
    have c1 : (!KeepRn n) = false := c1
    simp only [Bool.not_eq_true', decide_eq_false_iff_not] at c2
    exact out (n, 1) (by unfold KeepPk; rw [if_neg c, if_neg (by simpa using c1), if_pos c2])
  · have c := of_decide_eq_false c
    have c1 : (!KeepRn n) = false := c1
    simp only [Bool.not_eq_false', decide_eq_true_eq] at c2
    have d := of_decide_eq_true d
    have d : ((x.i : Nat) : Int) < ((n.ns.length / 2 : Nat) : Int) := d
    have eight : sameF n.ns t s x.i = true → KeepPk n t s = (n, 8) := fun h => by
      have : KeepHas n.ns t s = true := decide_eq_true (ixF_ge (n.ns.length / 2) 0 x.i (Nat.zero_le _) (by omega) h)
      unfold KeepPk; rw [if_neg c, if_neg (by simpa using c1), if_neg (fun h => h c2), if_pos this]
    refine br_y (by simp; omega) <| br_in (fun e => ?_) fun e => br_y (by simp; omega) <| br_in (fun f => ?_) fun f => ⟨⟨x.i + 1⟩, ⟨by show x.i + 1 ≤ _; omega, fun j hj => ?_⟩, by show n.ns.length - (x.i + 1) < n.ns.length - x.i; omega, by simp [← i64_nat (show x.i < 9223372036854775807 by omega)], by simp, by simp, trivial⟩
    · exact out (n, 8) (eight (by unfold sameF; rw [e]; rfl))
    · exact out (n, 8) (eight (by unfold sameF; rw [f]; simp))
    · rcases Nat.lt_or_ge j x.i with h | h
      · exact hx.2 j h
      · have hj : j < x.i + 1 := hj
        obtain rfl : j = x.i := by omega
        unfold sameF; rw [e, f]; rfl
  · have c := of_decide_eq_false c
    have c1 : (!KeepRn n) = false := c1
    simp only [Bool.not_eq_false', decide_eq_true_eq] at c2
    have d := of_decide_eq_false d
    have d : ¬ ((x.i : Nat) : Int) < ((n.ns.length / 2 : Nat) : Int) := d
    have hr := rt_split (n := n) (by simpa using c1)
    have no : ¬ KeepHas n.ns t s = true := by
      unfold KeepHas
      rw [ixF_end _ 0 fun j _ h => hx.2 j (by omega)]; decide
    refine br_in (fun f => ?_) fun f => br_y (ble_of (by omega)) <| br_y (ble_of (by simp; omega)) ?_
    · have f := of_decide_eq_true f
      exact out (n, 6) (by unfold KeepPk; rw [if_neg c, if_neg (by simpa using c1), if_neg (fun h => h c2), if_neg no, if_pos (by omega)])
    · have f := of_decide_eq_false f
      exact out (⟨n.wt, n.td, n.ns ++ [t, s]⟩, 0) (by unfold KeepPk; rw [if_neg c, if_neg (by simpa using c1), if_neg (fun h => h c2), if_neg no, if_neg (by omega)])
end Go.Proofs.Ytgoigcnibjcjpaa
