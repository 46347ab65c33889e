/- Waiters: what the others answer. No condition. -/
import Derived.Test.YtmmliaobjendoaaDoorPL1
namespace Go.Proofs.YtmmliaobjendoaaDoor
open SY
open Go.RowKit Go.Maps
set_option linter.unusedSimpArgs false
set_option linter.unusedVariables false

theorem take_step {xs : List Int} {k : Nat} (h : 2 * k + 2 ≤ xs.length) : xs.take (2 * (k + 1)) = xs.take (2 * k) ++ [tkI xs k, tsI xs k] := by
  have e : 2 * (k + 1) = 2 * k + 1 + 1 := by omega
  rw [e, List.take_succ_eq_append_getElem (by omega), List.take_succ_eq_append_getElem (by omega), List.append_assoc]
  simp [tkI, tsI, gI, List.getD_eq_getElem?_getD, List.getElem?_eq_getElem (show 2 * k < xs.length by omega), List.getElem?_eq_getElem (show 2 * k + 1 < xs.length by omega)]
theorem hk_right : HookOK Tryd.prog (hkR KeepRn) := hkL_cons right_ok hkL_nil
theorem hk_one : HookOK Tryd.prog (hkO KeepRn) := hkL_cons right_ok (hkL_cons concat_ok hkL_nil)
theorem xh_A : XHookOK Tryd.prog xhA := xhL_cons xHas_ok (xhL_cons xIx_ok xhL_nil)
theorem ixF_ge {φ : Nat → Bool} : ∀ (m k j : Nat), k ≤ j → j < k + m → φ j = true → (k : Int) ≤ ixF φ m k
  | 0, k, j, h1, h2, _ => by omega
  | m + 1, k, j, h1, h2, h3 => by
    unfold ixF
    split
    · exact Int.le_refl _
    · rename_i hk
      rcases Nat.eq_or_lt_of_le h1 with rfl | h
      · exact absurd h3 hk
      · have := ixF_ge m (k + 1) j h (by omega) h3
        omega
theorem ixF_in {φ : Nat → Bool} : ∀ (m k : Nat), 0 ≤ ixF φ m k → k ≤ (ixF φ m k).toNat ∧ (ixF φ m k).toNat < k + m ∧ φ (ixF φ m k).toNat = true ∧ ∀ i, k ≤ i → i < (ixF φ m k).toNat → φ i = false
  | 0, k, h => by unfold ixF at h; omega
  | m + 1, k, h => by
    unfold ixF at h ⊢
    split
    · rename_i hk
      rw [Int.toNat_natCast]
      exact ⟨Nat.le_refl _, by omega, hk, fun i a b => by omega⟩
    · rename_i hk
      rw [if_neg hk] at h
      obtain ⟨h1, h2, h3, h4⟩ := ixF_in m (k + 1) h
      refine ⟨by omega, by omega, h3, fun i a b => ?_⟩
      rcases Nat.eq_or_lt_of_le a with rfl | a
      · simpa using hk
      · exact h4 i a b
theorem rt_split {n : NF} (h : KeepRn n = true) : (n.wt - n.td) % 4294967296 ≤ 1000 ∧ n.ns.length ≤ 24 ∧ ∀ k, k < n.ns.length / 2 → okW n.wt n.td n.ns k = true := by
  unfold KeepRn KeepRt at h
  simp only [Bool.and_eq_true, decide_eq_true_eq, List.all_eq_true, List.mem_range] at h
  exact h
theorem ok_split {wt td : Int} {xs : List Int} {k : Nat} (h : okW wt td xs k = true) : 0 ≤ tsI xs k ∧ (tkI xs k - td) % 4294967296 < (wt - td) % 4294967296 ∧ (∀ j, j < k → tkI xs j ≠ tkI xs k) ∧ ∀ j, j < k → tsI xs j ≠ tsI xs k := by
  unfold okW at h
  simp only [Bool.and_eq_true, decide_eq_true_eq] at h
  obtain ⟨h1, h2, h3, h4⟩ := h
  refine ⟨h1, h2, fun j hj e => ?_, fun j hj e => ?_⟩
  · have := cnt_two hj e; omega
  · have := cnt_two hj e; omega

/-! Same -/
def KeepPk (n : NF) (t s : Int) : NF × Int :=
  if s < 0 then (n, 1) else if KeepRn n = false then (n, 1) else if ¬ (t - n.td) % 4294967296 < (n.wt - n.td) % 4294967296 then (n, 1) else if KeepHas n.ns t s = true then (n, 8) else if n.ns.length / 2 = 12 then (n, 6) else (⟨n.wt, n.td, n.ns ++ [t, s]⟩, 0)
def KeepPn (n : NF) (t s : Int) : NF := (KeepPk n t s).1
def KeepPe (n : NF) (t s : Int) : Int := (KeepPk n t s).2
theorem pk_out (n : NF) (t s : Int) (p : NF × Int) (h : KeepPk n t s = p) : ((KeepPn n t s).1 = p.1.1 ∧ (KeepPn n t s).2 = p.1.2 ∧ (KeepPn n t s).3 = p.1.3 ∧ True) ∧ KeepPe n t s = p.2 ∧ True := by
  unfold KeepPn KeepPe; rw [h]; exact ⟨⟨rfl, rfl, rfl, trivial⟩, rfl, trivial⟩
theorem ble_of {a b : Nat} (h : a ≤ b) : a.ble b = true := Nat.ble_eq ▸ h
theorem park_ok : GOK Tryd.prog 22 (hPark KeepPn KeepPe) := by
  refine gokX mixed tab_ok fun vs s r hg hs => ?_
  unfold hPark at hg
  split at hg <;> try (cases hg; done)
  rename_i a b c
  simp only [Option.some.injEq, Prod.mk.injEq] at hg
  obtain ⟨rfl, rfl⟩ := hg
  obtain ⟨h1, h2, h3, hw, hu, hi⟩ := hs
  refine ⟨hkR KeepRn, xhA, noL, 10, [notV (cN a), uS (cI b), iS (cI c)], hk_right, xh_A, ⟨h1, h2, h3, trivial⟩, ?_⟩
  generalize cN a = n at *
  generalize cI b = t at *
  generalize cI c = s at *
  have out := pk_out n t s
  rw [park_res]
  simp only [IntKind.wrap_u32]
  obtain ⟨hwt, htd, he, hlen, hin⟩ := hw
  refine br_in (fun c => ?_) fun c => ⟨⟨⟨trivial, trivial, trivial, trivial⟩, hwt, htd, he, hlen, hin⟩, br_in (fun c1 => ?_) fun c1 => ⟨trivial, br_in (fun c2 => ?_) fun c2 => ⟨hlen, br_in (fun c3 => ?_) fun c3 => br_in (fun c4 => ?_) fun c4 => ?_⟩⟩⟩
  · exact out (n, 1) (by unfold KeepPk; rw [if_pos (of_decide_eq_true c)])
  · have c := of_decide_eq_false c
    have c1 : (!KeepRn n) = true := c1
    exact out (n, 1) (by unfold KeepPk; rw [if_neg c, if_pos (by simpa using c1)])
  · have c := of_decide_eq_false c
    have c1 : (!KeepRn n) = false := c1
    simp only [Bool.not_eq_true', decide_eq_false_iff_not] at c2
    exact out (n, 1) (by unfold KeepPk; rw [if_neg c, if_neg (by simpa using c1), if_pos c2])
  · have c := of_decide_eq_false c
    have c1 : (!KeepRn n) = false := c1
    simp only [Bool.not_eq_false', decide_eq_true_eq] at c2
    exact out (n, 8) (by unfold KeepPk; rw [if_neg c, if_neg (by simpa using c1), if_neg (fun h => h c2), if_pos c3])
  · have c := of_decide_eq_false c
    have c1 : (!KeepRn n) = false := c1
    simp only [Bool.not_eq_false', decide_eq_true_eq] at c2
    have c4 := of_decide_eq_true c4
    exact out (n, 6) (by unfold KeepPk; rw [if_neg c, if_neg (by simpa using c1), if_neg (fun h => h c2), if_neg (by simpa using c3), if_pos (by omega)])
  · have c := of_decide_eq_false c
    have c1 : (!KeepRn n) = false := c1
    simp only [Bool.not_eq_false', decide_eq_true_eq] at c2
    have c4 := of_decide_eq_false c4
    have tk : List.take (((n.ns.length / 2 : Nat) : Int).toNat * 2) n.ns = n.ns := List.take_of_length_le (by rw [Int.toNat_natCast]; omega)
    refine br_y (by simp) ⟨br_y (by simp) trivial, br_y (ble_of (by rw [tk]; omega)) ?_⟩
    rw [tk]
    exact out (⟨n.wt, n.td, n.ns ++ [t, s]⟩, 0) (by unfold KeepPk; rw [if_neg c, if_neg (by simpa using c1), if_neg (fun h => h c2), if_neg (by simpa using c3), if_neg (by omega)])
end Go.Proofs.YtmmliaobjendoaaDoor
