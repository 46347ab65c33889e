/- MutexTurns: whoever has it is alone. No condition. -/
import Derived.Test.YtgnninoehdnciaaRMt
namespace Go.Proofs.Ytgnninoehdnciaa
open SY
open Go.RowKit
set_option linter.unusedSimpArgs false
set_option linter.unusedVariables false

theorem hkT_ok : HookOK Try.prog hkT := hkL_cons alive_ok <| hkL_cons lock_ok <| hkL_cons unlock_ok hkL_nil
theorem minv_start : MInv 0 0 [0, 0, 0, 0, 0, 0, 0, 0, 0, 0, 0, 0, 0, 0, 0, 0, 0, 0, 0, 0, 0, 0, 0, 0, 0, 0, 0, 0, 0, 0, 0, 0, 0, 0, 0, 0, 0, 0, 0, 0, 0, 0, 0, 0, 0, 0, 0, 0, 0, 0, 0, 0, 0, 0, 0, 0, 0, 0, 0, 0] [0, 0, 0, 0, 0, 0] [0, 0, 0, 0, 0, 0] [] := by
  refine ⟨rfl, rfl, rfl, ⟨List.nodup_nil, fun u hu => by simp at hu⟩, fun t ht => ?_, by decide, by decide, by decide, fun c => ?_, by decide, by decide, fun _ => by decide, fun h => absurd h (by decide)⟩
  · have hh : t = 0 ∨ t = 1 ∨ t = 2 ∨ t = 3 ∨ t = 4 ∨ t = 5 := by omega
    rcases hh with rfl | rfl | rfl | rfl | rfl | rfl <;> exact ⟨(fun h => by cases h), fun _ => .inl rfl⟩
  · have n := fun k => dl_nn k c
    unfold cn
    have := n (md [0, 0, 0, 0, 0, 0, 0, 0, 0, 0, 0, 0, 0, 0, 0, 0, 0, 0, 0, 0, 0, 0, 0, 0, 0, 0, 0, 0, 0, 0, 0, 0, 0, 0, 0, 0, 0, 0, 0, 0, 0, 0, 0, 0, 0, 0, 0, 0, 0, 0, 0, 0, 0, 0, 0, 0, 0, 0, 0, 0] [0, 0, 0, 0, 0, 0] 0)
    have e : ∀ k, k < 6 → md [0, 0, 0, 0, 0, 0, 0, 0, 0, 0, 0, 0, 0, 0, 0, 0, 0, 0, 0, 0, 0, 0, 0, 0, 0, 0, 0, 0, 0, 0, 0, 0, 0, 0, 0, 0, 0, 0, 0, 0, 0, 0, 0, 0, 0, 0, 0, 0, 0, 0, 0, 0, 0, 0, 0, 0, 0, 0, 0, 0] [0, 0, 0, 0, 0, 0] k = 0 := by decide
    rw [e 0 (by omega), e 1 (by omega), e 2 (by omega), e 3 (by omega), e 4 (by omega), e 5 (by omega)]
    have := n 0
    omega

theorem turns_walk (W : World) (v1 v2 : Value) (n : Int) (ps qs : List Int) (h1 : SlD g0 W [.int .u8] ps none v1) (h2 : SlD g0 W [.int .u8] qs none v2) (hr : InR [.int .u8] ps) (hn : 0 ≤ n ∧ n ≤ 255) :
    Calls Try.prog 7 #[.int .u8 n, v1, v2] W fun e w' => e = .returned (.bool true) ∧ Below W.heap.size W w' := by
  refine law (vals := [.int .u8 n, v1, v2]) (lh := lhM ps) (m := 10) (args := [u8S n, slB ps, slB qs]) mixed tab_ok hkT_ok ?_ ⟨rfl, h1, h2, trivial⟩
  rw [turns_res]
  refine ⟨trivial, br_in (fun _ => rfl) fun g1 => br_in (fun _ => rfl) fun g2 => ?_⟩
  simp only [decide_eq_false_iff_not] at g1 g2
  obtain ⟨m, hm, m1, m6⟩ : ∃ m : Int, IntKind.i64.wrap ((1 : Int) + (IntKind.i64.wrap n).tmod (6 : Int)) = m ∧ 1 ≤ m ∧ m ≤ 6 := by
    rw [w_i64 (n := n) (by omega), Int.tmod_eq_emod_of_nonneg hn.1, w_i64 (by omega)]
    exact ⟨_, rfl, by omega, by omega⟩
  simp only [hm]
  refine ⟨⟨⟨⟨0, 0, _, _, _, _⟩, 0, 0⟩, ⟨Nat.zero_le _, minv_start⟩, by simp⟩, ?_⟩
  rintro ⟨⟨w, s, fs, ins, wts, row⟩, i, clk⟩ ⟨i1, hM⟩
  simp only at i1
  simp only [Int.toNat_natCast]
  refine br_in (fun c1 => ?_) fun c1 => ?_
  · simp only [decide_eq_true_eq] at c1
    have hi1 : IntKind.i64.wrap ((i : Int) + 1) = ((i + 1 : Nat) : Int) := by rw [w_i64 (by omega)]; omega
    simp only [hi1]
    refine ⟨br_in (fun c2 => br_y (by rw [Bool.true_and]; exact c2) ?_) fun c2 => ?_, ?_⟩
    · exact ⟨⟨⟨w, s, fs, ins, wts, row⟩, _⟩, hM, by (repeat' (first | exact trivial | exact rfl | refine And.intro ?_ ?_))⟩
    · exact ⟨⟨⟨w, s, fs, ins, wts, row⟩, _⟩, hM, by (repeat' (first | exact trivial | exact rfl | refine And.intro ?_ ?_))⟩
    clear hM
    rintro ⟨⟨w, s, fs, ins, wts, row⟩, clk⟩ hM
    have hp := in_u8 (at_in1 hr (i := i) (by omega))
    have ht : ∃ t : Int, (IntKind.i64.wrap (gI ps i)).tmod m = t ∧ 0 ≤ t ∧ t < 6 := by
      rw [w_i64 (by omega), Int.tmod_eq_emod_of_nonneg hp.1]
      have := Int.emod_nonneg (gI ps i) (show m ≠ 0 by omega)
      have := Int.emod_lt_of_pos (gI ps i) (show 0 < m by omega)
      exact ⟨_, rfl, by omega, by omega⟩
    obtain ⟨t, ht, t0, t6⟩ := ht
    simp only [ht]
    refine ⟨br_y (by simp; omega) (br_y (by simp; omega) ⟨⟨⟨w, s, fs, ins, wts, row⟩, t⟩, ⟨⟨t0, t6⟩, hM⟩, by (repeat' (first | exact trivial | exact rfl | refine And.intro ?_ ?_))⟩), ?_⟩
    clear hM ht hp
    rintro ⟨⟨w, s, fs, ins, wts, row⟩, t⟩ ⟨⟨t0, t6⟩, hM⟩
    simp only at t0 t6
    have hM : MInv w s fs ins wts row := hM
    dsimp only
    have hh := hM
    obtain ⟨l1, l2, l3, h4, h5, h6⟩ := hh
    have tn : t.toNat < 6 := by omega
    have bt : (decide ((0 : Int) ≤ t) && decide (t < 6)) = true := by simp; omega
    have bw : (t.toNat + 1).ble wts.length = true := by rw [Nat.ble_eq]; omega
    have bf : (t.toNat * 10 + 10).ble fs.length = true := by rw [Nat.ble_eq]; omega
    refine br_y bt <| br_y bw <| br_in (fun c2 => ?_) fun c2 => ⟨br_y bt <| br_y bf <| br_in (fun c3 => ?_) fun c3 => ?_, ?_⟩
    · exact ⟨⟨⟨w, s, fs, ins, wts, row⟩, i + 1, clk⟩, ⟨by simp only; omega, hM⟩, by simp only; omega, by (repeat' (first | exact trivial | exact rfl | refine And.intro ?_ ?_))⟩
    · have e0 : frAt fs t.toNat = F0 := by
        simp only [Bool.and_eq_true, decide_eq_true_eq, beq_iff_eq] at c3
        obtain ⟨q0, q1, q2, q3, q4, q5, q6, q7, q8, q9, _⟩ := c3
        unfold frAt F0
        rw [q0, q1, q2, q3, q4, q5, q6, q7, q8, q9]
      have hi : i2b (gI ins t.toNat) = false := by
        cases hi : i2b (gI ins t.toNat)
        · rfl
        · have := ((h5 _ tn).1 hi).2
          rw [e0] at this; exact absurd this (by decide)
      refine br_y bt <| br_y bf ⟨⟨⟨w, s, splice fs (t.toNat * 10) (cellsF (fB 26)), ins, wts, row⟩, t⟩, ⟨⟨t0, t6⟩, c2, fun _ => ?_, st_begin hM tn hi c2 e0⟩, by (repeat' (first | exact trivial | exact rfl | refine And.intro ?_ ?_))⟩
      show okL (frAt (splice fs (t.toNat * 10) (cellsF (fB 26))) t.toNat) ∧ (frAt (splice fs (t.toNat * 10) (cellsF (fB 26))) t.toNat).op = 26
      rw [put_same l1 tn]
      exact ⟨⟨by simp, by simp, by simp, by simp⟩, rfl⟩
    · refine ⟨⟨⟨w, s, fs, ins, wts, row⟩, t⟩, ⟨⟨t0, t6⟩, c2, fun hi => ?_, hM⟩, by (repeat' (first | exact trivial | exact rfl | refine And.intro ?_ ?_))⟩
      rcases (h5 _ tn).2 hi with h | h
      · exfalso
        have c3' : (decide ((frAt fs t.toNat).op = 0) && (decide ((frAt fs t.toNat).st = 0) && (decide ((frAt fs t.toNat).ph = 0) && (decide ((frAt fs t.toNat).od = 0) && (decide ((frAt fs t.toNat).si = 0) && (decide ((frAt fs t.toNat).le = 0) && ((frAt fs t.toNat).aw == false && ((frAt fs t.toNat).sv == false && (decide ((frAt fs t.toNat).ne = 0) && ((frAt fs t.toNat).fr == false && true)))))))))) = false := c3
        rw [h] at c3'
        revert c3'; decide
      · exact h
    clear hM h4 h5 h6 l1 l2 l3 bw bf bt
    rintro ⟨⟨w, s, fs, ins, wts, row⟩, t⟩ ⟨⟨t0, t6⟩, hw, hl, hM⟩
    simp only at t0 t6 hw hl
    have hM : MInv w s fs ins wts row := hM
    dsimp only
    have hh := hM
    obtain ⟨l1, l2, l3, h4, h5, h6⟩ := hh
    obtain ⟨s0, s1, w0, w1⟩ := inv_s h6
    have hrl := row_len h4
    have tn : t.toNat < 6 := by omega
    have bt : (decide ((0 : Int) ≤ t) && decide (t < 6)) = true := by simp; omega
    have bw : (t.toNat + 1).ble wts.length = true := by rw [Nat.ble_eq]; omega
    have bi : (t.toNat + 1).ble ins.length = true := by rw [Nat.ble_eq]; omega
    have bf : (t.toNat * 10 + 10).ble fs.length = true := by rw [Nat.ble_eq]; omega
    have bf8 : (t.toNat * 10 + 8 + 1).ble fs.length = true := by rw [Nat.ble_eq]; omega
    have bf9 : (t.toNat * 10 + 9 + 1).ble fs.length = true := by rw [Nat.ble_eq]; omega
    refine br_y bt <| br_y bf8 <| br_in (fun c4 => ?_) fun c4 => ?_
    · -- it wants a unit
      have c4 : 0 < (frAt fs t.toNat).ne := of_decide_eq_true c4
      refine br_in (fun c5 => ?_) fun c5 => ?_
      · simp only [decide_eq_true_eq] at c5
        refine br_y bt <| br_y bf8 ⟨⟨⟨w, s - 1, splice fs (t.toNat * 10 + 8) [0], ins, wts, row⟩, i + 1, clk⟩, ⟨by simp only; omega, st_take hM tn hw c4 c5⟩, by simp only; omega, ?_⟩
        rw [w_i64 (n := s - 1) (by omega)]
        (repeat' (first | exact trivial | exact rfl | refine And.intro ?_ ?_))
      · refine br_y bt <| br_y bf9 <| br_in (fun c6 => ?_) fun c6 => ?_
        · exact br_y (by rw [Nat.ble_eq]; omega) <| br_y bt <| br_y bw ⟨⟨⟨w, s, fs, ins, splice wts t.toNat [1], t :: row⟩, i + 1, clk⟩, ⟨by simp only; omega, st_wait hM t0 t6 hw c4 (.inr rfl)⟩, by simp only; omega, by (repeat' (first | exact trivial | exact rfl | refine And.intro ?_ ?_))⟩
        · exact br_y (by rw [Nat.ble_eq]; omega) <| br_y bt <| br_y bw ⟨⟨⟨w, s, fs, ins, splice wts t.toNat [1], row ++ [t]⟩, i + 1, clk⟩, ⟨by simp only; omega, st_wait hM t0 t6 hw c4 (.inl rfl)⟩, by simp only; omega, by (repeat' (first | exact trivial | exact rfl | refine And.intro ?_ ?_))⟩
    have c4 : ¬ 0 < (frAt fs t.toNat).ne := of_decide_eq_false c4
    refine br_y bt <| br_y bi <| br_in (fun c5 => br_y bt <| br_y bf ⟨?_, ?_, ?_⟩) fun c5 => br_y bt <| br_y bf ⟨?_, ?_, ?_⟩
    · (repeat' (first | exact trivial | exact rfl | refine And.intro ?_ ?_)) <;> omega
    · -- it unlocks
      obtain ⟨q1, q2⟩ := st_unlock hM tn c5 hw
      refine br_y bt <| br_y bf ?_
      refine ⟨⟨⟨(KeepUn w (frAt fs t.toNat)).w, s, splice fs (t.toNat * 10) (cellsF (KeepUn w (frAt fs t.toNat)).f), ins, wts, row⟩, t, (KeepUn w (frAt fs t.toNat)).dn, (KeepUn w (frAt fs t.toNat)).hd, (KeepUn w (frAt fs t.toNat)).gv, (KeepUn w (frAt fs t.toNat)).ft⟩, ⟨⟨t0, t6⟩, q1, s0, l2, q2⟩, by (repeat' (first | exact trivial | exact rfl | refine And.intro ?_ ?_))⟩
    · clear hM hw hl l1 l2 l3 h4 h5 h6 s0 s1 w0 w1 hrl bt bw bi bf bf8 bf9 c4 c5 tn
      rintro ⟨⟨w, s, fs, ins, wts, row⟩, t, dn, hd, gv, ft⟩ ⟨⟨t0, t6⟩, q1, s2, l2, q2⟩
      simp only at t0 t6 q1 s2 l2 q2
      subst q1
      dsimp only
      have tn : t.toNat < 6 := by omega
      have bt : (decide ((0 : Int) ≤ t) && decide (t < 6)) = true := by simp; omega
      refine br_n rfl ⟨br_in (fun c6 => ?_) fun c6 => ?_, ?_⟩
      · simp only [decide_eq_true_eq] at c6
        rcases q2 with ⟨e, _⟩ | ⟨_, hd1, hM⟩
        · exfalso; omega
        have hh := hM
        obtain ⟨l1, l2', l3, h4, h5, h6⟩ := hh
        obtain ⟨s0', s1, w0, w1⟩ := inv_s h6
        have hrl := row_len h4
        have hs1 : IntKind.i64.wrap (s + 1) = s + 1 := w_i64 (by omega)
        simp only [hs1]
        refine br_in (fun c7 => ?_) fun c7 => ?_
        · simp only [decide_eq_true_eq] at c7
          cases row with
          | nil => exact absurd c7 (by simp)
          | cons u row =>
            obtain ⟨r1, ⟨u0, u6⟩, r3, r4, r5⟩ := row_tail h4
            have hs2 : IntKind.i64.wrap (s + 1 - 1) = s := by rw [w_i64 (by omega)]; omega
            have e0 : gI (u :: row) 0 = u := rfl
            have e1 : ([] : List Int) ++ List.drop 1 (u :: row) = row := rfl
            simp only [e0, e1, hs2]
            refine br_y (by simp) <| br_y (by simp; omega) <| br_y (by rw [Nat.ble_eq]; simp; simp at hrl; omega) <| br_y (by simp; omega) <| br_y (by rw [Nat.ble_eq]; omega) <| br_in (fun c8 => br_y (by simp; omega) <| br_y (by rw [Nat.ble_eq]; omega) ?_) fun c8 => ?_
            · have := st_hand hM (by omega)
              rw [show s + 1 - 1 = s by omega] at this
              exact ⟨⟨⟨w, s, splice fs (u.toNat * 10 + 8) [0], ins, splice wts u.toNat [0], row⟩, t, dn, hd, gv, 0⟩, ⟨⟨t0, t6⟩, l2, this⟩, by (repeat' (first | exact trivial | exact rfl | refine And.intro ?_ ?_))⟩
            · exact ⟨⟨⟨w, s + 1, fs, ins, splice wts u.toNat [0], row⟩, t, dn, hd, gv, 0⟩, ⟨⟨t0, t6⟩, l2, st_give hM⟩, by (repeat' (first | exact trivial | exact rfl | refine And.intro ?_ ?_))⟩
        · simp only [decide_eq_false_iff_not] at c7
          obtain rfl : row = [] := List.length_eq_zero_iff.1 (by omega)
          exact ⟨⟨⟨w, s + 1, fs, ins, wts, []⟩, t, dn, hd, gv, 0⟩, ⟨⟨t0, t6⟩, l2, hM⟩, by (repeat' (first | exact trivial | exact rfl | refine And.intro ?_ ?_))⟩
      · simp only [decide_eq_false_iff_not] at c6
        rcases q2 with ⟨_, hM⟩ | ⟨e, _⟩
        · exact ⟨⟨⟨w, s, fs, ins, wts, row⟩, t, dn, hd, gv, 0⟩, ⟨⟨t0, t6⟩, l2, hM⟩, by (repeat' (first | exact trivial | exact rfl | refine And.intro ?_ ?_))⟩
        · exact absurd e c6
      · clear q2 l2 s2 bt tn t0 t6
        rintro ⟨⟨w, s, fs, ins, wts, row⟩, t, dn, hd, gv, ft⟩ ⟨⟨t0, t6⟩, l2, hM⟩
        simp only at t0 t6 l2 hM
        dsimp only
        have tn : t.toNat < 6 := by omega
        refine br_in (fun c6 => ?_) fun c6 => ?_
        · subst c6
          exact br_y (by simp; omega) <| br_y (by rw [Nat.ble_eq]; omega) ⟨⟨⟨w, s, fs, splice ins t.toNat [0], wts, row⟩, i + 1, clk⟩, ⟨by simp only; omega, hM⟩, by simp only; omega, by (repeat' (first | exact trivial | exact rfl | refine And.intro ?_ ?_))⟩
        · subst c6
          exact ⟨⟨⟨w, s, fs, ins, wts, row⟩, i + 1, clk⟩, ⟨by simp only; omega, hM⟩, by simp only; omega, by (repeat' (first | exact trivial | exact rfl | refine And.intro ?_ ?_))⟩
    · (repeat' (first | exact trivial | exact rfl | refine And.intro ?_ ?_))
    · -- it locks
      have hl := hl c5
      refine br_y bt <| br_y bf ?_
      refine ⟨⟨⟨(KeepLk w (frAt fs t.toNat) clk 20).w, s, splice fs (t.toNat * 10) (cellsF (KeepLk w (frAt fs t.toNat) clk 20).f), ins, wts, row⟩, t, (KeepLk w (frAt fs t.toNat) clk 20).dn, false, 0, 0⟩, ⟨⟨t0, t6⟩, ?_⟩, by (repeat' (first | exact trivial | exact rfl | refine And.intro ?_ ?_))⟩
      rcases st_lock (now := clk) (pat := 20) hM tn c5 hw hl.1 hl.2 c4 with ⟨d1, d2⟩ | ⟨d1, d2⟩
      · exact .inl ⟨d1, d2⟩
      · exact .inr ⟨d1, d2⟩
    · clear hM hw hl l1 l2 l3 h4 h5 h6 s0 s1 w0 w1 hrl bt bw bi bf bf8 bf9 c4 c5 tn
      rintro ⟨⟨w, s, fs, ins, wts, row⟩, t, dn, hd, gv, ft⟩ ⟨⟨t0, t6⟩, hF⟩
      simp only at t0 t6 hF
      dsimp only
      have tn : t.toNat < 6 := by omega
      have bt : (decide ((0 : Int) ≤ t) && decide (t < 6)) = true := by simp; omega
      refine br_in (fun c6 => ?_) fun c6 => ?_
      · rcases hF with ⟨e, _⟩ | ⟨_, l1, l2, hM⟩
        · rw [c6] at e; cases e
        refine br_y bt <| br_y (by rw [Nat.ble_eq]; omega) <| br_y bt <| br_y (by rw [Nat.ble_eq]; omega) ⟨⟨⟨⟨w, s, splice fs (t.toNat * 10) (cellsF (fB 27)), splice ins t.toNat [1], wts, row⟩, t, 0⟩, ⟨Nat.zero_le _, ⟨t0, t6⟩, ?_, ?_, hM⟩, by (repeat' (first | exact trivial | exact rfl | refine And.intro ?_ ?_))⟩, ?_⟩
        · show i2b (gI (splice ins t.toNat [1]) t.toNat) = true
          rw [bit_same l2 tn]; rfl
        · show gI (splice fs (t.toNat * 10) (cellsF (fB 27))) (t.toNat * 10 + 2) = 0
          have := put_same l1 tn (fB 27)
          exact congrArg Fr.ph this
        clear hM l1 l2 bt tn t0 t6 c6
        rintro ⟨⟨w, s, fs, ins, wts, row⟩, t, k⟩ ⟨k6, ⟨t0, t6⟩, hi, hp, hM⟩
        simp only at k6 t0 t6 hi hp
        have hM : MInv w s fs ins wts row := hM
        dsimp only
        have hk1 : IntKind.i64.wrap ((k : Int) + 1) = ((k + 1 : Nat) : Int) := by rw [w_i64 (by omega)]; omega
        simp only [Int.toNat_natCast, hk1]
        have leaf : k < 6 → ∃ x' : M3, KeepM3 x' ∧ 6 - x'.k < 6 - k ∧ x'.t = t ∧ x'.k = k + 1 ∧ x'.z = ⟨w, s, fs, ins, wts, row⟩ := fun h => ⟨⟨⟨w, s, fs, ins, wts, row⟩, t, k + 1⟩, ⟨by simp only; omega, ⟨t0, t6⟩, hi, hp, hM⟩, by simp only; omega, rfl, rfl, rfl⟩
        refine br_in (fun c7 => ?_) fun c7 => ?_
        · simp only [decide_eq_true_eq] at c7
          obtain ⟨x', e1, e2, e3, e4, e5⟩ := leaf (by omega)
          have hh := hM
          obtain ⟨l1, l2, l3, h4, h5, h6⟩ := hh
          refine br_in (fun c8 => ?_) fun c8 => ?_
          · have hne : k ≠ t.toNat := by
              simp only [Bool.not_eq_true', decide_eq_false_iff_not] at c8
              omega
            refine br_y (by simp; omega) <| br_y (by rw [Nat.ble_eq]; omega) <| br_in (fun c9 => br_y (by simp; omega) <| br_y (by rw [Nat.ble_eq]; omega) <| br_in (fun c10 => ?_) fun c10 => ?_) fun c9 => ?_
            · exact (alone hM (by omega) (by omega) hne hi hp c9 (of_decide_eq_true c10)).elim
            · exact ⟨x', e1, e2, by rw [e3, e4, e5]; (repeat' (first | exact trivial | exact rfl | refine And.intro ?_ ?_))⟩
            · exact ⟨x', e1, e2, by rw [e3, e4, e5]; (repeat' (first | exact trivial | exact rfl | refine And.intro ?_ ?_))⟩
          · exact ⟨x', e1, e2, by rw [e3, e4, e5]; (repeat' (first | exact trivial | exact rfl | refine And.intro ?_ ?_))⟩
        · exact ⟨⟨⟨w, s, fs, ins, wts, row⟩, i + 1, clk⟩, ⟨by simp only; omega, hM⟩, by simp only; omega, by (repeat' (first | exact trivial | exact rfl | refine And.intro ?_ ?_))⟩
      · rcases hF with ⟨_, hM⟩ | ⟨e, _⟩
        · exact ⟨⟨⟨w, s, fs, ins, wts, row⟩, i + 1, clk⟩, ⟨by simp only; omega, hM⟩, by simp only; omega, by (repeat' (first | exact trivial | exact rfl | refine And.intro ?_ ?_))⟩
        · rw [c6] at e; cases e
  · have hM : MInv w s fs ins wts row := hM
    obtain ⟨s0, s1, w0, w1⟩ := inv_s hM.2.2.2.2.2
    exact br_y (by simp; omega) (by simp; omega)
end Go.Proofs.Ytgnninoehdnciaa
