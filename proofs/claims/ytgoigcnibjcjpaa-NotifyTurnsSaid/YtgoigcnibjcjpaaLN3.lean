/- Waiters: who is told. No condition. -/
import Derived.Test.YtgoigcnibjcjpaaLN2
namespace Go.Proofs.Ytgoigcnibjcjpaa
open SY
open Go.RowKit Go.Maps
set_option linter.unusedSimpArgs false
set_option linter.unusedVariables false

/-! One -/
noncomputable def KeepOk (n : NF) : NF × Int × Int :=
  if KeepRn n = false then (n, 0, 1) else if (n.wt - n.td) % 4294967296 = 0 then (n, 0, 7)
  else if 0 ≤ KeepIx n.ns n.td then (⟨n.wt, (n.td + 1) % 4294967296, n.ns.take ((KeepIx n.ns n.td).toNat * 2) ++ n.ns.drop (((KeepIx n.ns n.td).toNat + 1) * 2)⟩, tsI n.ns (KeepIx n.ns n.td).toNat, 0)
  else (⟨n.wt, (n.td + 1) % 4294967296, n.ns⟩, -1, 0)
noncomputable def KeepOn (n : NF) : NF := (KeepOk n).1
noncomputable def KeepOt (n : NF) : Int := (KeepOk n).2.1
noncomputable def KeepOe (n : NF) : Int := (KeepOk n).2.2
theorem ok_out (n : NF) (p : NF × Int × Int) (h : KeepOk n = p) : ((KeepOn n).1 = p.1.1 ∧ (KeepOn n).2 = p.1.2 ∧ (KeepOn n).3 = p.1.3 ∧ True) ∧ KeepOt n = p.2.1 ∧ KeepOe n = p.2.2 ∧ True := by
  unfold KeepOn KeepOt KeepOe; rw [h]; exact ⟨⟨rfl, rfl, rfl, trivial⟩, rfl, rfl, trivial⟩
theorem one_ok : GOK Try.prog 18 (hOne KeepOn KeepOt KeepOe) := by
  refine gokX mixed tab_ok fun vs s r hg hs => ?_
  unfold hOne at hg
  split at hg <;> try (cases hg; done)
  rename_i a
  simp only [Option.some.injEq, Prod.mk.injEq] at hg
  obtain ⟨rfl, rfl⟩ := hg
  obtain ⟨h1, hw⟩ := hs
  refine ⟨hkO KeepRn, xhA, noL, 10, [notV (cN a)], hk_one, xh_A, ⟨h1, trivial⟩, ?_⟩
  generalize cN a = n at *
  have out := ok_out n
  rw [one_res]
  simp only [IntKind.wrap_u32]
  obtain ⟨hwt, htd, he, hlen, hin⟩ := hw
  refine ⟨⟨⟨trivial, trivial, trivial, trivial⟩, hwt, htd, he, hlen, hin⟩, br_in (fun c1 => ?_) fun c1 => br_in (fun c2 => ?_) fun c2 => ⟨hlen, br_in (fun c3 => ?_) fun c3 => ?_⟩⟩
  · have c1 : (!KeepRn n) = true := c1
    exact out (n, 0, 1) (by unfold KeepOk; rw [if_pos (by simpa using c1)])
  · have c1 : (!KeepRn n) = false := c1
    exact out (n, 0, 7) (by unfold KeepOk; rw [if_neg (by simpa using c1), if_pos (of_decide_eq_true c2)])
  · have c1 : (!KeepRn n) = false := c1
    have c3 : 0 ≤ KeepIx n.ns n.td := of_decide_eq_true c3
    obtain ⟨_, i2, i3, i4⟩ := ixF_in _ _ c3
    have e : KeepIx n.ns n.td = ((KeepIx n.ns n.td).toNat : Int) := (Int.toNat_of_nonneg c3).symm
    have i2 : (KeepIx n.ns n.td).toNat < 0 + n.ns.length / 2 := i2
    have e1 : IntKind.i64.wrap (KeepIx n.ns n.td + 1) = KeepIx n.ns n.td + 1 := w_i64 (by omega)
    have e2 : (KeepIx n.ns n.td + 1).toNat = (KeepIx n.ns n.td).toNat + 1 := by omega
    rw [e1, e2, g1k]
    refine br_y (by simp; omega) <| br_y (by simp; omega) <| br_y (by simp; omega) ⟨⟨trivial, trivial, ?_⟩, ?_⟩
    · unfold KeepSh; simp only [List.length_take, List.length_drop]; have := (rt_split (n := n) (by simpa using c1)).2.1; omega
    · refine out (⟨n.wt, (n.td + 1) % 4294967296, n.ns.take ((KeepIx n.ns n.td).toNat * 2) ++ n.ns.drop (((KeepIx n.ns n.td).toNat + 1) * 2)⟩, tsI n.ns (KeepIx n.ns n.td).toNat, 0) ?_
      unfold KeepOk
      rw [if_neg (by simpa using c1), if_neg (of_decide_eq_false c2), if_pos c3]
  · have c1 : (!KeepRn n) = false := c1
    have c3 : ¬ 0 ≤ KeepIx n.ns n.td := of_decide_eq_false c3
    refine out (⟨n.wt, (n.td + 1) % 4294967296, n.ns⟩, -1, 0) ?_
    unfold KeepOk
    rw [if_neg (by simpa using c1), if_neg (of_decide_eq_false c2), if_neg c3]
theorem filt_no {ns : List Int} {t : Int} : ∀ {k : Nat}, 2 * k ≤ ns.length → (∀ j, j < k → tkI ns j ≠ t) → filt ns t k = ns.take (2 * k) ∧ tkOf ns t k = -1
  | 0, _, _ => ⟨by simp [filt], rfl⟩
  | k + 1, h, hn => by
    obtain ⟨h1, h2⟩ := filt_no (k := k) (by omega) fun j hj => hn j (by omega)
    rw [take_step (by omega)]
    refine ⟨?_, ?_⟩
    · show filt ns t k ++ (if tkI ns k = t then [] else _) = _
      rw [h1, if_neg (hn k (by omega))]
    · show (if tkI ns k = t then _ else tkOf ns t k) = _
      rw [h2, if_neg (hn k (by omega))]
theorem filt_at {ns : List Int} {t : Int} {j : Nat} (hj : tkI ns j = t) : ∀ {k : Nat}, j < k → 2 * k ≤ ns.length → (∀ i, i < k → i ≠ j → tkI ns i ≠ t) → filt ns t k = ns.take (2 * j) ++ (ns.take (2 * k)).drop (2 * j + 2) ∧ tkOf ns t k = tsI ns j
  | 0, h, _, _ => by omega
  | k + 1, h, hl, hn => by
    rw [take_step (by omega)]
    rcases Nat.eq_or_lt_of_le (Nat.le_of_lt_succ h) with rfl | h'
    · obtain ⟨h1, h2⟩ := filt_no (k := j) (t := t) (by omega) fun i hi => hn i (by omega) (by omega)
      refine ⟨?_, ?_⟩
      · show filt ns t j ++ (if tkI ns j = t then [] else _) = _
        rw [h1, if_pos hj, List.drop_of_length_le (by simp; omega)]
      · show (if tkI ns j = t then _ else _) = _
        rw [if_pos hj]
    · obtain ⟨h1, h2⟩ := filt_at hj (k := k) h' (by omega) fun i hi => hn i (by omega)
      refine ⟨?_, ?_⟩
      · show filt ns t k ++ (if tkI ns k = t then [] else _) = _
        rw [h1, if_neg (hn k (by omega) (by omega)), List.append_assoc, List.drop_append_of_le_length (by simp; omega)]
      · show (if tkI ns k = t then _ else tkOf ns t k) = _
        rw [h2, if_neg (hn k (by omega) (by omega))]
theorem one_filt {n : NF} (h : KeepRn n = true) (he : n.ns.length % 2 = 0) : filt n.ns n.td (n.ns.length / 2) = (if 0 ≤ KeepIx n.ns n.td then n.ns.take ((KeepIx n.ns n.td).toNat * 2) ++ n.ns.drop (((KeepIx n.ns n.td).toNat + 1) * 2) else n.ns) ∧
    tkOf n.ns n.td (n.ns.length / 2) = (if 0 ≤ KeepIx n.ns n.td then tsI n.ns (KeepIx n.ns n.td).toNat else -1) := by
  obtain ⟨_, _, hr⟩ := rt_split h
  by_cases c : 0 ≤ KeepIx n.ns n.td
  · obtain ⟨_, i2, i3, i4⟩ := ixF_in _ _ c
    rw [if_pos c, if_pos c]
    generalize hq : (KeepIx n.ns n.td).toNat = q
    have i2 : (KeepIx n.ns n.td).toNat < 0 + n.ns.length / 2 := i2
    have i3 : toldF n.ns n.td (KeepIx n.ns n.td).toNat = true := i3
    have i4 : ∀ i, 0 ≤ i → i < (KeepIx n.ns n.td).toNat → toldF n.ns n.td i = false := i4
    rw [hq] at i2 i3 i4
    have i3 := of_decide_eq_true i3
    obtain ⟨f1, f2⟩ := filt_at (k := n.ns.length / 2) i3 (by omega) (by omega) fun i hi hne e => by
      rcases Nat.lt_or_ge i q with h' | h'
      · exact absurd e (of_decide_eq_false (i4 i (Nat.zero_le _) h'))
      · exact (ok_split (hr i hi)).2.2.1 q (by omega) (i3.trans e.symm)
    rw [f1, f2, show n.ns.take (2 * (n.ns.length / 2)) = n.ns from List.take_of_length_le (by omega), Nat.mul_comm 2 q, show (q + 1) * 2 = q * 2 + 2 by omega]
    exact ⟨rfl, rfl⟩
  · rw [if_neg c, if_neg c]
    obtain ⟨f1, f2⟩ := filt_no (ns := n.ns) (t := n.td) (k := n.ns.length / 2) (by omega) fun j hj e => c (ixF_ge _ 0 j (Nat.zero_le _) (by omega) (by unfold toldF; rw [e]; simp))
    rw [f1, f2, List.take_of_length_le (by omega)]
    exact ⟨rfl, rfl⟩
theorem filt_len (ns : List Int) (t : Int) : ∀ k, (filt ns t k).length ≤ 2 * k
  | 0 => Nat.le_refl _
  | k + 1 => by
    have := filt_len ns t k
    show (filt ns t k ++ if tkI ns k = t then [] else _).length ≤ _
    split <;> simp <;> omega
theorem rone_ok : GOK Try.prog 19 (hOne KeepOn KeepOt KeepOe) := by
  refine gokW mixed tab_ok hk_right fun vs s r hg hs => ?_
  unfold hOne at hg
  split at hg <;> try (cases hg; done)
  rename_i a
  simp only [Option.some.injEq, Prod.mk.injEq] at hg
  obtain ⟨rfl, rfl⟩ := hg
  obtain ⟨h1, hw⟩ := hs
  refine ⟨lhL [(1, hintO (cN a))], 10, [notV (cN a)], ⟨h1, trivial⟩, ?_⟩
  generalize cN a = n at *
  have out := ok_out n
  rw [rone_res]
  simp only [IntKind.wrap_u32, Int.toNat_natCast, g0k, g1k]
  obtain ⟨hwt, htd, he, hlen, hin⟩ := hw
  refine ⟨⟨⟨trivial, trivial, trivial, trivial⟩, hwt, htd, he, hlen, hin⟩, br_in (fun c1 => ?_) fun c1 => br_in (fun c2 => ?_) fun c2 => ⟨⟨⟨0, -1, []⟩, ⟨Nat.zero_le _, rfl, rfl⟩, by simp, by simp, by simp, by simp, by simp⟩, fun x hx => br_in (fun d => ?_) fun d => ?_⟩⟩
  · have c1 : (!KeepRn n) = true := c1
    exact out (n, 0, 1) (by unfold KeepOk; rw [if_pos (by simpa using c1)])
  · have c1 : (!KeepRn n) = false := c1
    have c2 : n.td = n.wt := of_decide_eq_true c2
    exact out (n, 0, 7) (by unfold KeepOk; rw [if_neg (by simpa using c1), if_pos (by rw [c2, Int.sub_self]; rfl)])
  · have d := of_decide_eq_true d
    have d : ((x.i : Nat) : Int) < ((n.ns.length / 2 : Nat) : Int) := d
    obtain ⟨x1, x2, x3⟩ := hx
    have fl := filt_len n.ns n.td x.i
    refine br_y (by simp; omega) <| br_in (fun e => br_y (by simp; omega) ⟨⟨x.i + 1, tsI n.ns x.i, x.out⟩, ⟨by show x.i + 1 ≤ _; omega, ?_, ?_⟩, by show n.ns.length - (x.i + 1) < n.ns.length - x.i; omega, by simp [← i64_nat (show x.i < 9223372036854775807 by omega)], by simp, by simp, by simp, by simp⟩) fun e =>
      br_y (by simp; omega) <| br_y (ble_of (by rw [x2]; omega)) ⟨⟨x.i + 1, x.tk, x.out ++ [tkI n.ns x.i, tsI n.ns x.i]⟩, ⟨by show x.i + 1 ≤ _; omega, ?_, ?_⟩, by show n.ns.length - (x.i + 1) < n.ns.length - x.i; omega, by simp [← i64_nat (show x.i < 9223372036854775807 by omega)], by simp, by simp, by simp, by simp⟩
    · show x.out = filt n.ns n.td x.i ++ (if tkI n.ns x.i = n.td then [] else _)
      rw [if_pos (of_decide_eq_true e), List.append_nil]; exact x2
    · show tsI n.ns x.i = (if tkI n.ns x.i = n.td then _ else _)
      rw [if_pos (of_decide_eq_true e)]
    · show x.out ++ _ = filt n.ns n.td x.i ++ (if tkI n.ns x.i = n.td then [] else _)
      rw [if_neg (of_decide_eq_false e), x2]
    · show x.tk = (if tkI n.ns x.i = n.td then _ else tkOf n.ns n.td x.i)
      rw [if_neg (of_decide_eq_false e), x3]
  · have c1 : (!KeepRn n) = false := c1
    have c2 : ¬ n.td = n.wt := of_decide_eq_false c2
    have d := of_decide_eq_false d
    have d : ¬ ((x.i : Nat) : Int) < ((n.ns.length / 2 : Nat) : Int) := d
    obtain ⟨x1, x2, x3⟩ := hx
    have q : x.i = n.ns.length / 2 := by omega
    rw [q] at x2 x3
    obtain ⟨f1, f2⟩ := one_filt (n := n) (by simpa using c1) he
    refine out (⟨n.wt, (n.td + 1) % 4294967296, x.out⟩, x.tk, 0) ?_
    unfold KeepOk
    rw [if_neg (by simpa using c1), if_neg (by omega), x2, x3, f1, f2]
    split <;> rfl

/-! All -/
def KeepAk (n : NF) : NF × List Int × Int := if KeepRn n = false then (n, [], 1) else (⟨n.wt, n.wt, []⟩, KeepTs n.ns (n.ns.length / 2), 0)
def KeepAn (n : NF) : NF := (KeepAk n).1
def KeepAl (n : NF) : List Int := (KeepAk n).2.1
def KeepAe (n : NF) : Int := (KeepAk n).2.2
theorem ak_out (n : NF) (p : NF × List Int × Int) (h : KeepAk n = p) : ((KeepAn n).1 = p.1.1 ∧ (KeepAn n).2 = p.1.2 ∧ (KeepAn n).3 = p.1.3 ∧ True) ∧ KeepAl n = p.2.1 ∧ KeepAe n = p.2.2 ∧ True := by
  unfold KeepAn KeepAl KeepAe; rw [h]; exact ⟨⟨rfl, rfl, rfl, trivial⟩, rfl, rfl, trivial⟩
theorem ts_len (ns : List Int) : ∀ k, (KeepTs ns k).length = k
  | 0 => rfl
  | k + 1 => by show (KeepTs ns k ++ _).length = _; simp [ts_len ns k]
theorem all_ok : GOK Try.prog 20 (hAll KeepAn KeepAl KeepAe) := by
  refine gokW mixed tab_ok hk_right fun vs s r hg hs => ?_
  unfold hAll at hg
  split at hg <;> try (cases hg; done)
  rename_i a
  simp only [Option.some.injEq, Prod.mk.injEq] at hg
  obtain ⟨rfl, rfl⟩ := hg
  obtain ⟨h1, hw⟩ := hs
  refine ⟨lhL [(1, hintA (cN a) 15)], 10, [notV (cN a)], ⟨h1, trivial⟩, ?_⟩
  generalize cN a = n at *
  have out := ak_out n
  rw [all_res]
  simp only [IntKind.wrap_u32, Int.toNat_natCast, g0k, g1k]
  obtain ⟨hwt, htd, he, hlen, hin⟩ := hw
  refine ⟨⟨⟨trivial, trivial, trivial, trivial⟩, hwt, htd, he, hlen, hin⟩, br_in (fun c1 => ?_) fun c1 => ⟨⟨⟨0⟩, Nat.zero_le _, by simp [KeepTs], by simp, by simp, by simp⟩, fun x hx => br_in (fun d => ?_) fun d => ?_⟩⟩
  · have c1 : (!KeepRn n) = true := c1
    exact out (n, [], 1) (by unfold KeepAk; rw [if_pos (by simpa using c1)])
  · have d := of_decide_eq_true d
    have d : ((x.i : Nat) : Int) < ((n.ns.length / 2 : Nat) : Int) := d
    refine br_y (by simp; omega) <| br_y (ble_of (by rw [ts_len]; omega)) ⟨⟨x.i + 1⟩, by show x.i + 1 ≤ _; omega, by show n.ns.length - (x.i + 1) < n.ns.length - x.i; omega, by simp [← i64_nat (show x.i < 9223372036854775807 by omega), KeepTs], by simp, by simp, by simp⟩
  · have c1 : (!KeepRn n) = false := c1
    have d := of_decide_eq_false d
    have d : ¬ ((x.i : Nat) : Int) < ((n.ns.length / 2 : Nat) : Int) := d
    have hx : x.i ≤ n.ns.length / 2 := hx
    have q : x.i = n.ns.length / 2 := by omega
    refine out (⟨n.wt, n.wt, []⟩, KeepTs n.ns x.i, 0) ?_
    unfold KeepAk
    rw [if_neg (by simpa using c1), q]
theorem rall_ok : GOK Try.prog 21 (hAll KeepAn KeepAl KeepAe) := by
  refine gokW mixed tab_ok hk_right fun vs s r hg hs => ?_
  unfold hAll at hg
  split at hg <;> try (cases hg; done)
  rename_i a
  simp only [Option.some.injEq, Prod.mk.injEq] at hg
  obtain ⟨rfl, rfl⟩ := hg
  obtain ⟨h1, hw⟩ := hs
  refine ⟨lhL [(1, hintA (cN a) 6)], 10, [notV (cN a)], ⟨h1, trivial⟩, ?_⟩
  generalize cN a = n at *
  have out := ak_out n
  rw [rall_res]
  simp only [IntKind.wrap_u32, Int.toNat_natCast, g0k, g1k]
  obtain ⟨hwt, htd, he, hlen, hin⟩ := hw
  refine ⟨⟨⟨trivial, trivial, trivial, trivial⟩, hwt, htd, he, hlen, hin⟩, br_in (fun c1 => ?_) fun c1 => ⟨⟨⟨0⟩, Nat.zero_le _, by simp [KeepTs], by simp, by simp, by simp⟩, fun x hx => br_in (fun d => ?_) fun d => ?_⟩⟩
  · have c1 : (!KeepRn n) = true := c1
    exact out (n, [], 1) (by unfold KeepAk; rw [if_pos (by simpa using c1)])
  · have d := of_decide_eq_true d
    have d : ((x.i : Nat) : Int) < ((n.ns.length / 2 : Nat) : Int) := d
    refine br_y (by simp; omega) <| br_y (ble_of (by rw [ts_len]; omega)) ⟨⟨x.i + 1⟩, by show x.i + 1 ≤ _; omega, by show n.ns.length - (x.i + 1) < n.ns.length - x.i; omega, by simp [← i64_nat (show x.i < 9223372036854775807 by omega), KeepTs], by simp, by simp, by simp⟩
  · have c1 : (!KeepRn n) = false := c1
    have d := of_decide_eq_false d
    have d : ¬ ((x.i : Nat) : Int) < ((n.ns.length / 2 : Nat) : Int) := d
    have hx : x.i ≤ n.ns.length / 2 := hx
    have q : x.i = n.ns.length / 2 := by omega
    refine out (⟨n.wt, n.wt, []⟩, KeepTs n.ns x.i, 0) ?_
    unfold KeepAk
    rw [if_neg (by simpa using c1), q]
end Go.Proofs.Ytgoigcnibjcjpaa
