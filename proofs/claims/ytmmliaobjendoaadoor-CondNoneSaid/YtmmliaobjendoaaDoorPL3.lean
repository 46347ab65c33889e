/- Waiters: who is told. No condition. -/
import Derived.Test.YtmmliaobjendoaaDoorPL2
namespace Go.Proofs.YtmmliaobjendoaaDoor
open SY
open Go.RowKit Go.Maps
set_option linter.unusedSimpArgs false
set_option linter.unusedVariables false

/-! One -/
noncomputable def KeepOk (n : NF) : NF × Int × Int :=
  if KeepRn n = false then (n, 0, 1) else if (n.wt - n.td) % 4294967296 = 0 then (n, 0, 7)
  else if 0 ≤ KeepIx n.ns n.td then (⟨n.wt, (n.td + 1) % 4294967296, n.ns.take ((KeepIx n.ns n.td).toNat * 2) ++ n.ns.drop (((KeepIx n.ns n.td).toNat + 1) * 2)⟩, tsI n.ns (KeepIx n.ns n.td).toNat, 0)
  else (⟨n.wt, (n.td + 1) % 4294967296, n.ns⟩, -1, 0)
noncomputable def KeepOn (n : NF) : NF := (KeepOk n).1
noncomputable def KeepOt (n : NF) : Int := (KeepOk n).2.1
noncomputable def KeepOe (n : NF) : Int := (KeepOk n).2.2
theorem ok_out (n : NF) (p : NF × Int × Int) (h : KeepOk n = p) : ((KeepOn n).1 = p.1.1 ∧ (KeepOn n).2 = p.1.2 ∧ (KeepOn n).3 = p.1.3 ∧ True) ∧ KeepOt n = p.2.1 ∧ KeepOe n = p.2.2 ∧ True := by
  unfold KeepOn KeepOt KeepOe; rw [h]; exact ⟨⟨rfl, rfl, rfl, trivial⟩, rfl, rfl, trivial⟩
theorem one_ok : GOK Tryd.prog 16 (hOne KeepOn KeepOt KeepOe) := by
  refine gokX mixed tab_ok fun vs s r hg hs => ?_
  unfold hOne at hg
  split at hg <;> try (cases hg; done)
  rename_i a
  simp only [Option.some.injEq, Prod.mk.injEq] at hg
  obtain ⟨rfl, rfl⟩ := hg
  obtain ⟨h1, hw⟩ := hs
  refine ⟨hkO KeepRn, xhA, noL, 10, [notV (cN a)], hk_one, xh_A, ⟨h1, trivial⟩, ?_⟩
  generalize cN a = n at *
  have out := ok_out n
  rw [one_res]
  simp only [IntKind.wrap_u32]
  obtain ⟨hwt, htd, he, hlen, hin⟩ := hw
  refine ⟨⟨⟨trivial, trivial, trivial, trivial⟩, hwt, htd, he, hlen, hin⟩, br_in (fun c1 => ?_) fun c1 => br_in (fun c2 => ?_) fun c2 => ⟨hlen, br_in (fun c3 => ?_) fun c3 => ?_⟩⟩
  · have c1 : (!KeepRn n) = true := c1
    exact out (n, 0, 1) (by unfold KeepOk; rw [if_pos (by simpa using c1)])
  · have c1 : (!KeepRn n) = false := c1
    exact out (n, 0, 7) (by unfold KeepOk; rw [if_neg (by simpa using c1), if_pos (of_decide_eq_true c2)])
  · have c1 : (!KeepRn n) = false := c1
    have c3 : 0 ≤ KeepIx n.ns n.td := of_decide_eq_true c3
    obtain ⟨_, i2, i3, i4⟩ := ixF_in _ _ c3
    have e : KeepIx n.ns n.td = ((KeepIx n.ns n.td).toNat : Int) := (Int.toNat_of_nonneg c3).symm
    have i2 : (KeepIx n.ns n.td).toNat < 0 + n.ns.length / 2 := i2
    have e1 : IntKind.i64.wrap (KeepIx n.ns n.td + 1) = KeepIx n.ns n.td + 1 := w_i64 (by omega)
    have e2 : (KeepIx n.ns n.td + 1).toNat = (KeepIx n.ns n.td).toNat + 1 := by omega
    rw [e1, e2, g1k]
    refine br_y (by simp; omega) <| br_y (by simp; omega) <| br_y (by simp; omega) ⟨⟨trivial, trivial, ?_⟩, ?_⟩
    · unfold KeepSh; simp only [List.length_take, List.length_drop]; have := (rt_split (n := n) (by simpa using c1)).2.1; omega
    · refine out (⟨n.wt, (n.td + 1) % 4294967296, n.ns.take ((KeepIx n.ns n.td).toNat * 2) ++ n.ns.drop (((KeepIx n.ns n.td).toNat + 1) * 2)⟩, tsI n.ns (KeepIx n.ns n.td).toNat, 0) ?_
      unfold KeepOk
      rw [if_neg (by simpa using c1), if_neg (of_decide_eq_false c2), if_pos c3]
  · have c1 : (!KeepRn n) = false := c1
    have c3 : ¬ 0 ≤ KeepIx n.ns n.td := of_decide_eq_false c3
    refine out (⟨n.wt, (n.td + 1) % 4294967296, n.ns⟩, -1, 0) ?_
    unfold KeepOk
    rw [if_neg (by simpa using c1), if_neg (of_decide_eq_false c2), if_neg c3]
def KeepAk (n : NF) : NF × List Int × Int := if KeepRn n = false then (n, [], 1) else (⟨n.wt, n.wt, []⟩, KeepTs n.ns (n.ns.length / 2), 0)
def KeepAn (n : NF) : NF := (KeepAk n).1
def KeepAl (n : NF) : List Int := (KeepAk n).2.1
def KeepAe (n : NF) : Int := (KeepAk n).2.2
theorem ak_out (n : NF) (p : NF × List Int × Int) (h : KeepAk n = p) : ((KeepAn n).1 = p.1.1 ∧ (KeepAn n).2 = p.1.2 ∧ (KeepAn n).3 = p.1.3 ∧ True) ∧ KeepAl n = p.2.1 ∧ KeepAe n = p.2.2 ∧ True := by
  unfold KeepAn KeepAl KeepAe; rw [h]; exact ⟨⟨rfl, rfl, rfl, trivial⟩, rfl, rfl, trivial⟩
theorem ts_len (ns : List Int) : ∀ k, (KeepTs ns k).length = k
  | 0 => rfl
  | k + 1 => by show (KeepTs ns k ++ _).length = _; simp [ts_len ns k]
theorem all_ok : GOK Tryd.prog 15 (hAll KeepAn KeepAl KeepAe) := by
  refine gokW mixed tab_ok hk_right fun vs s r hg hs => ?_
  unfold hAll at hg
  split at hg <;> try (cases hg; done)
  rename_i a
  simp only [Option.some.injEq, Prod.mk.injEq] at hg
  obtain ⟨rfl, rfl⟩ := hg
  obtain ⟨h1, hw⟩ := hs
  refine ⟨lhL [(1, hintA (cN a) 15)], 10, [notV (cN a)], ⟨h1, trivial⟩, ?_⟩
  generalize cN a = n at *
  have out := ak_out n
  rw [all_res]
  simp only [IntKind.wrap_u32, Int.toNat_natCast, g0k, g1k]
  obtain ⟨hwt, htd, he, hlen, hin⟩ := hw
  refine ⟨⟨⟨trivial, trivial, trivial, trivial⟩, hwt, htd, he, hlen, hin⟩, br_in (fun c1 => ?_) fun c1 => ⟨⟨⟨0⟩, Nat.zero_le _, by simp [KeepTs], by simp, by simp, by simp⟩, fun x hx => br_in (fun d => ?_) fun d => ?_⟩⟩
  · have c1 : (!KeepRn n) = true := c1
    exact out (n, [], 1) (by unfold KeepAk; rw [if_pos (by simpa using c1)])
  · have d := of_decide_eq_true d
    have d : ((x.i : Nat) : Int) < ((n.ns.length / 2 : Nat) : Int) := d
    refine br_y (by simp; omega) <| br_y (ble_of (by rw [ts_len]; omega)) ⟨⟨x.i + 1⟩, by show x.i + 1 ≤ _; omega, by show n.ns.length - (x.i + 1) < n.ns.length - x.i; omega, by simp [← i64_nat (show x.i < 9223372036854775807 by omega), KeepTs], by simp, by simp, by simp⟩
  · have c1 : (!KeepRn n) = false := c1
    have d := of_decide_eq_false d
    have d : ¬ ((x.i : Nat) : Int) < ((n.ns.length / 2 : Nat) : Int) := d
    have hx : x.i ≤ n.ns.length / 2 := hx
    have q : x.i = n.ns.length / 2 := by omega
    refine out (⟨n.wt, n.wt, []⟩, KeepTs n.ns x.i, 0) ?_
    unfold KeepAk
    rw [if_neg (by simpa using c1), q]
end Go.Proofs.YtmmliaobjendoaaDoor
