/- OnceTurns: one is told to do it, and nobody else goes on till it is done. No condition. -/
import Derived.Test.YtegdbpbafdpkfaaROt
namespace Go.Proofs.Ytegdbpbafdpkfaa
open SY
open Go.RowKit
set_option linter.unusedSimpArgs false
set_option linter.unusedVariables false

theorem alive_ok : GOK Try.prog 5 hAlive := by
  refine gok mixed tab_ok hkL_nil fun vs s r hg hs => ?_
  unfold hAlive at hg
  split at hg <;> try (cases hg; done)
  simp only [Option.some.injEq, Prod.mk.injEq] at hg
  obtain ⟨rfl, rfl⟩ := hg
  refine ⟨noL, 10, ?_⟩
  show callT Try.prog _ tab noL 10 _ [] tru
  rw [alive_res 0]
  (repeat' (first | exact trivial | exact rfl | refine And.intro ?_ ?_))
theorem hkT_ok : HookOK Try.prog hkT := hkL_cons alive_ok <| hkL_cons lock_ok <| hkL_cons unlock_ok <| hkL_cons locked_ok hkL_nil
theorem minv_start : MInv 0 0 0 0 0 [0, 0, 0, 0, 0, 0, 0, 0, 0, 0, 0, 0, 0, 0, 0, 0, 0, 0, 0, 0, 0, 0, 0, 0, 0, 0, 0, 0, 0, 0, 0, 0, 0, 0, 0, 0, 0, 0, 0, 0, 0, 0, 0, 0, 0, 0, 0, 0, 0, 0] [0, 0, 0, 0, 0] [0, 0, 0, 0, 0] [] := by
  have five : ∀ t : Nat, t < 5 → t = 0 ∨ t = 1 ∨ t = 2 ∨ t = 3 ∨ t = 4 := fun t ht => by omega
  refine ⟨rfl, rfl, rfl, ⟨List.nodup_nil, fun u hu => by simp at hu⟩, fun t ht => ?_, ⟨by decide, by decide, by decide, fun c => ?_, by decide, by decide, fun _ => by decide, fun h => absurd h (by decide)⟩, .inl ⟨rfl, rfl, rfl, fun t ht => ?_⟩, fun t ht _ e => ?_⟩
  · rcases five t ht with rfl | rfl | rfl | rfl | rfl <;> exact .inl rfl
  · have n := fun k => dl_nn k c
    unfold cn
    have e : ∀ k, k < 5 → md [0, 0, 0, 0, 0, 0, 0, 0, 0, 0, 0, 0, 0, 0, 0, 0, 0, 0, 0, 0, 0, 0, 0, 0, 0, 0, 0, 0, 0, 0, 0, 0, 0, 0, 0, 0, 0, 0, 0, 0, 0, 0, 0, 0, 0, 0, 0, 0, 0, 0] [0, 0, 0, 0, 0] k = 0 := by decide
    rw [e 0 (by omega), e 1 (by omega), e 2 (by omega), e 3 (by omega), e 4 (by omega)]
    have := n 0
    omega
  · rcases five t ht with rfl | rfl | rfl | rfl | rfl <;> rfl
  · rcases five t ht with rfl | rfl | rfl | rfl | rfl <;> exact absurd e (by decide)

theorem jj_end {v told over : Int} {fs ins : List Int} (h : JJ v told over fs ins) : (0 ≤ told ∧ told ≤ 1) ∧ (0 ≤ over ∧ over ≤ told) ∧ (over = 0 ∨ v = 1) ∧ (told = 1 ∨ v ≠ 1) := by
  rcases h with ⟨h1, h2, h3, _⟩ | ⟨h1, h2, h3, _⟩ | ⟨h1, h2, h3, _⟩ | ⟨h1, h2, h3, _⟩ <;> omega
/-- Behind what gives a unit. -/
theorem fin_any {w s v told over : Int} {fs ins wts row : List Int} {t : Nat} (h : Fin w s v told over fs ins wts row t true 0) : ∃ over' ins', MInv w s v told over' fs ins' wts row := by
  cases hi : i2b (gI ins t)
  · exact ⟨_, _, (h.2.2.2 rfl hi (by decide)).2⟩
  · exact ⟨_, _, h.2.1 rfl hi⟩
theorem fin_give {w s v told over : Int} {fs ins wts row : List Int} {t : Nat} {u : Int} (h : Fin w s v told over fs ins wts (u :: row) t true 0) : Fin w s v told over fs ins (splice wts u.toNat [0]) row t true 0 :=
  ⟨(fun e => nomatch e), fun e hi => st_give (h.2.1 e hi), (fun _ _ e => absurd e (by decide)), fun e hi hl => ⟨(h.2.2.2 e hi hl).1, st_give (h.2.2.2 e hi hl).2⟩⟩
theorem fin_hand {w s v told over : Int} {fs ins wts row : List Int} {t : Nat} {u : Int} (h : Fin w s v told over fs ins wts (u :: row) t true 0) (hs : 0 < s) : Fin w (s - 1) v told over (splice fs (u.toNat * 10 + 8) [0]) ins (splice wts u.toNat [0]) row t true 0 :=
  ⟨(fun e => nomatch e), fun e hi => st_hand (h.2.1 e hi) hs, (fun _ _ e => absurd e (by decide)), fun e hi hl => ⟨(h.2.2.2 e hi hl).1, st_hand (h.2.2.2 e hi hl).2 hs⟩⟩

theorem turns_walk (W : World) (v1 v2 : Value) (n : Int) (ps qs : List Int) (h1 : SlD g0 W [.int .u8] ps none v1) (h2 : SlD g0 W [.int .u8] qs none v2) (hr : InR [.int .u8] ps) (hn : 0 ≤ n ∧ n ≤ 255) :
    Calls Try.prog 4 #[.int .u8 n, v1, v2] W fun e w' => e = .returned (.bool true) ∧ Below W.heap.size W w' := by
  refine law (vals := [.int .u8 n, v1, v2]) (lh := lhM ps) (m := 10) (args := [u8S n, slB ps, slB qs]) mixed tab_ok hkT_ok ?_ ⟨rfl, h1, h2, trivial⟩
  rw [turns_res]
  refine ⟨trivial, br_in (fun _ => rfl) fun g1 => br_in (fun _ => rfl) fun g2 => ?_⟩
  simp only [decide_eq_false_iff_not] at g1 g2
  obtain ⟨m, hm, m1, m6⟩ : ∃ m : Int, IntKind.i64.wrap ((1 : Int) + (IntKind.i64.wrap n).tmod (5 : Int)) = m ∧ 1 ≤ m ∧ m ≤ 5 := by
    rw [w_i64 (n := n) (by omega), Int.tmod_eq_emod_of_nonneg hn.1, w_i64 (by omega)]
    exact ⟨_, rfl, by omega, by omega⟩
  simp only [hm]
  refine ⟨⟨⟨⟨0, 0, 0, 0, 0, _, _, _, _⟩, 0, 0⟩, ⟨Nat.zero_le _, minv_start⟩, by simp⟩, ?_⟩
  rintro ⟨⟨w, s, v, told, over, fs, ins, wts, row⟩, i, clk⟩ ⟨i1, hM⟩
  simp only at i1
  simp only [Int.toNat_natCast]
  refine br_in (fun c1 => ?_) fun c1 => ?_
  · simp only [decide_eq_true_eq] at c1
    have hi1 : IntKind.i64.wrap ((i : Int) + 1) = ((i + 1 : Nat) : Int) := by rw [w_i64 (by omega)]; omega
    simp only [hi1]
    refine ⟨br_in (fun c2 => br_y (by rw [Bool.true_and]; exact c2) ?_) fun c2 => ?_, ?_⟩
    · exact ⟨⟨⟨w, s, v, told, over, fs, ins, wts, row⟩, _⟩, hM, by (repeat' (first | exact trivial | exact rfl | refine And.intro ?_ ?_))⟩
    · exact ⟨⟨⟨w, s, v, told, over, fs, ins, wts, row⟩, _⟩, hM, by (repeat' (first | exact trivial | exact rfl | refine And.intro ?_ ?_))⟩
    clear hM
    rintro ⟨⟨w, s, v, told, over, fs, ins, wts, row⟩, clk⟩ hM
    have hp := in_u8 (at_in1 hr (i := i) (by omega))
    have ht : ∃ t : Int, (IntKind.i64.wrap (gI ps i)).tmod m = t ∧ 0 ≤ t ∧ t < 5 := by
      rw [w_i64 (by omega), Int.tmod_eq_emod_of_nonneg hp.1]
      have := Int.emod_nonneg (gI ps i) (show m ≠ 0 by omega)
      have := Int.emod_lt_of_pos (gI ps i) (show 0 < m by omega)
      exact ⟨_, rfl, by omega, by omega⟩
    obtain ⟨t, ht, t0, t6⟩ := ht
    simp only [ht]
    refine ⟨br_y (by simp; omega) (br_y (by simp; omega) ⟨⟨⟨w, s, v, told, over, fs, ins, wts, row⟩, t⟩, ⟨⟨t0, t6⟩, hM⟩, by (repeat' (first | exact trivial | exact rfl | refine And.intro ?_ ?_))⟩), ?_⟩
    clear hM ht hp
    rintro ⟨⟨w, s, v, told, over, fs, ins, wts, row⟩, t⟩ ⟨⟨t0, t6⟩, hM⟩
    simp only at t0 t6
    have hM : MInv w s v told over fs ins wts row := hM
    dsimp only
    have hh := hM
    obtain ⟨l1, l2, l3, h4, h5, h6, h7, h8⟩ := hh
    have tn : t.toNat < 5 := by omega
    have bt : (decide ((0 : Int) ≤ t) && decide (t < 5)) = true := by simp; omega
    have bw : (t.toNat + 1).ble wts.length = true := by rw [Nat.ble_eq]; omega
    have bf : (t.toNat * 10 + 10).ble fs.length = true := by rw [Nat.ble_eq]; omega
    refine br_y bt <| br_y bw <| br_in (fun c2 => ?_) fun c2 => br_y bt <| br_y bf ⟨br_in (fun c3 => ?_) fun c3 => ?_, ?_⟩
    · exact ⟨⟨⟨w, s, v, told, over, fs, ins, wts, row⟩, i + 1, clk⟩, ⟨by simp only; omega, hM⟩, by simp only; omega, by (repeat' (first | exact trivial | exact rfl | refine And.intro ?_ ?_))⟩
    · have e0 : frAt fs t.toNat = F0 := by
        simp only [Bool.and_eq_true, decide_eq_true_eq, beq_iff_eq] at c3
        obtain ⟨q0, q1, q2, q3, q4, q5, q6, q7, q8, q9, _⟩ := c3
        unfold frAt F0
        rw [q0, q1, q2, q3, q4, q5, q6, q7, q8, q9]
      have hi := idle_out hM tn (by rw [e0]; rfl)
      exact ⟨⟨⟨w, s, v, told, over, fs, ins, wts, row⟩, t, fB 34⟩, ⟨⟨t0, t6⟩, l1, c2, by show (34 : Int) ≠ 0; decide, st_begin hM tn hi c2 e0⟩, by (repeat' (first | exact trivial | exact rfl | refine And.intro ?_ ?_))⟩
    · refine ⟨⟨⟨w, s, v, told, over, fs, ins, wts, row⟩, t, frAt fs t.toNat⟩, ⟨⟨t0, t6⟩, l1, c2, fun ho => ?_, upd_self hM tn c2⟩, by (repeat' (first | exact trivial | exact rfl | refine And.intro ?_ ?_))⟩
      have hi := idle_out hM tn ho
      have := h5 _ tn
      unfold okT at this
      rw [hi] at this
      rcases this with h | h
      · have c3' : (decide ((frAt fs t.toNat).op = 0) && (decide ((frAt fs t.toNat).st = 0) && (decide ((frAt fs t.toNat).ph = 0) && (decide ((frAt fs t.toNat).od = 0) && (decide ((frAt fs t.toNat).si = 0) && (decide ((frAt fs t.toNat).le = 0) && ((frAt fs t.toNat).aw == false && ((frAt fs t.toNat).sv == false && (decide ((frAt fs t.toNat).ne = 0) && ((frAt fs t.toNat).fr == false && true)))))))))) = false := c3
        rw [h] at c3'
        revert c3'; decide
      · have := h.1
        have ho : (frAt fs t.toNat).op = 0 := ho
        omega
    clear hM h4 h5 h6 h7 h8 l1 l2 l3 bw bf bt
    rintro ⟨⟨w, s, v, told, over, fs, ins, wts, row⟩, t, f⟩ ⟨⟨t0, t6⟩, l0, hw, ho, hM⟩
    simp only at t0 t6 l0 hw ho
    have hM : MInv w s v told over (splice fs (t.toNat * 10) (cellsF f)) ins wts row := hM
    dsimp only
    have hh := hM
    obtain ⟨_, l2, l3, h4, h5, h6, h7, h8⟩ := hh
    obtain ⟨s0, s1, w0, w1⟩ := inv_s h6
    have hrl := row_len h4
    have tn : t.toNat < 5 := by omega
    have hf := put_same l0 tn f
    have hp2 := sp_sp l0 tn f
    have bt : (decide ((0 : Int) ≤ t) && decide (t < 5)) = true := by simp; omega
    have bw : (t.toNat + 1).ble wts.length = true := by rw [Nat.ble_eq]; omega
    have bi : (t.toNat + 1).ble ins.length = true := by rw [Nat.ble_eq]; omega
    have bf : (t.toNat * 10 + 10).ble fs.length = true := by rw [Nat.ble_eq]; omega
    refine br_in (fun c4 => ?_) fun c4 => ?_
    · have c4 : 0 < (frAt (splice fs (t.toNat * 10) (cellsF f)) t.toNat).ne := by rw [hf]; exact of_decide_eq_true c4
      refine br_in (fun c5 => ?_) fun c5 => ?_
      · simp only [decide_eq_true_eq] at c5
        have := st_take hM tn hw c4 c5
        rw [hf, hp2] at this
        refine br_y bt <| br_y bf ⟨⟨⟨w, s - 1, v, told, over, splice fs (t.toNat * 10) (cellsF { f with ne := 0 }), ins, wts, row⟩, i + 1, clk⟩, ⟨by simp only; omega, this⟩, by simp only; omega, ?_⟩
        rw [w_i64 (n := s - 1) (by omega)]
        (repeat' (first | exact trivial | exact rfl | refine And.intro ?_ ?_))
      · refine br_y bt <| br_y bw <| br_in (fun c6 => ?_) fun c6 => ?_
        · exact br_y (by rw [Nat.ble_eq]; omega) <| br_y bt <| br_y bf ⟨⟨⟨w, s, v, told, over, splice fs (t.toNat * 10) (cellsF f), ins, splice wts t.toNat [1], t :: row⟩, i + 1, clk⟩, ⟨by simp only; omega, st_wait hM t0 t6 hw c4 (.inr rfl)⟩, by simp only; omega, by (repeat' (first | exact trivial | exact rfl | refine And.intro ?_ ?_))⟩
        · exact br_y (by rw [Nat.ble_eq]; omega) <| br_y bt <| br_y bf ⟨⟨⟨w, s, v, told, over, splice fs (t.toNat * 10) (cellsF f), ins, splice wts t.toNat [1], row ++ [t]⟩, i + 1, clk⟩, ⟨by simp only; omega, st_wait hM t0 t6 hw c4 (.inl rfl)⟩, by simp only; omega, by (repeat' (first | exact trivial | exact rfl | refine And.intro ?_ ?_))⟩
    have c4 : ¬ 0 < (frAt (splice fs (t.toNat * 10) (cellsF f)) t.toNat).ne := by rw [hf]; exact of_decide_eq_false c4
    refine ⟨br_y bt <| br_y bi <| br_in (fun c5 => ?_) fun c5 => ?_, ?_⟩
    · -- it does it
      obtain ⟨_, hb⟩ := ends_begun hM tn c5
      rw [hf] at hb
      refine br_in (fun c6 => ?_) fun c6 => br_in (fun c7 => ?_) fun c7 => ?_
      · refine ⟨by (repeat' (first | exact trivial | exact rfl | refine And.intro ?_ ?_)), ?_⟩
        have c6 : f.st = 0 := of_decide_eq_true c6
        have hst : (frAt (splice fs (t.toNat * 10) (cellsF f)) t.toNat).st = 0 := by rw [hf]; exact c6
        have hfin := end0 hM tn c5 hw hst 0
        rw [hf, hp2] at hfin
        have hlk := end_locked hM tn c5 hst
        refine br_n (by rw [hlk]; rfl) ⟨⟨⟨w, s, 1, told, over, fs, ins, wts, row⟩, t, { f with st := 1, ph := 0 }, false, false, 0, 0, 0⟩, ⟨⟨t0, t6⟩, rfl, s0, l0, l2, .inl ⟨rfl, hfin⟩⟩, by (repeat' (first | exact trivial | exact rfl | refine And.intro ?_ ?_))⟩
      · refine ⟨⟨by (repeat' (first | exact trivial | exact rfl | refine And.intro ?_ ?_)), by (repeat' (first | exact trivial | exact rfl | refine And.intro ?_ ?_)), by unfold KeepI; omega⟩, ?_⟩
        have c7 : f.st = 1 := of_decide_eq_true c7
        have hfin := end1 hM tn c5 hw (by rw [hf]; exact c7)
        rw [hf] at hfin
        obtain ⟨q1, q2⟩ := hfin
        rw [hp2] at q2
        refine ⟨⟨⟨(KeepUn w f).w, s, v, told, over, fs, ins, wts, row⟩, t, (KeepUn w f).f, (KeepUn w f).dn, (KeepUn w f).hd, (KeepUn w f).gv, (KeepUn w f).ft, 0⟩, ⟨⟨t0, t6⟩, q1, s0, l0, l2, ?_⟩, by (repeat' (first | exact trivial | exact rfl | refine And.intro ?_ ?_))⟩
        rcases q2 with ⟨a1, a2⟩ | ⟨a1, a2, a3⟩
        · exact .inl ⟨a1, a2⟩
        · exact .inr ⟨a1, a2, rfl, a3⟩
      · exfalso
        have c6 := of_decide_eq_false c6
        have c7 := of_decide_eq_false c7
        rcases hb with ⟨h, _⟩ | ⟨h, _⟩
        · exact c6 h
        · exact c7 h
    · -- it comes
      have ho : (frAt (splice fs (t.toNat * 10) (cellsF f)) t.toNat).op ≠ 0 := by rw [hf]; exact ho
      have hb := once_begun hM tn c5 ho
      rw [hf] at hb
      refine br_in (fun c6 => ?_) fun c6 => br_in (fun c7 => ?_) fun c7 => br_in (fun c8 => ?_) fun c8 => br_in (fun c9 => ?_) fun c9 => ?_
      · have c6 : f.st = 0 := of_decide_eq_true c6
        refine br_in (fun d => ?_) fun d => ?_
        · have hfin := once0 hM tn c5 hw ho (by rw [hf]; exact c6) (of_decide_eq_true d)
          rw [hp2] at hfin
          exact ⟨⟨⟨w, s, v, told, over, fs, ins, wts, row⟩, t, F0, true, false, 0, 0, 0⟩, ⟨⟨t0, t6⟩, rfl, s0, l0, l2, .inl ⟨rfl, hfin⟩⟩, by (repeat' (first | exact trivial | exact rfl | refine And.intro ?_ ?_))⟩
        · have hfin := once0' hM tn c5 hw ho (by rw [hf]; exact c6) 0
          rw [hf, hp2] at hfin
          exact ⟨⟨⟨w, s, v, told, over, fs, ins, wts, row⟩, t, { f with st := 1, ph := 0 }, false, false, 0, 0, 0⟩, ⟨⟨t0, t6⟩, rfl, s0, l0, l2, .inl ⟨rfl, hfin⟩⟩, by (repeat' (first | exact trivial | exact rfl | refine And.intro ?_ ?_))⟩
      · refine ⟨by (repeat' (first | exact trivial | exact rfl | refine And.intro ?_ ?_)), ?_⟩
        have c7 : f.st = 1 := of_decide_eq_true c7
        obtain ⟨f1, f2⟩ := once1 hM tn c5 hw ho (by rw [hf]; exact c7) c4 clk 20 0
        rw [hf, hp2] at f1 f2
        refine br_in (fun d => ?_) fun d => ?_
        · have d : (KeepLk w f clk 20).dn = true := d
          exact ⟨⟨⟨(KeepLk w f clk 20).w, s, v, told, over, fs, ins, wts, row⟩, t, { fB f.op with st := 2 }, false, false, 0, 0, 0⟩, ⟨⟨t0, t6⟩, rfl, s0, l0, l2, .inl ⟨rfl, f1 d⟩⟩, by (repeat' (first | exact trivial | exact rfl | refine And.intro ?_ ?_))⟩
        · have d : (KeepLk w f clk 20).dn = false := d
          refine ⟨⟨⟨(KeepLk w f clk 20).w, s, v, told, over, fs, ins, wts, row⟩, t, (KeepLk w f clk 20).f, (KeepLk w f clk 20).dn, false, 0, 0, 0⟩, ⟨⟨t0, t6⟩, rfl, s0, l0, l2, .inl ⟨rfl, ?_⟩⟩, by (repeat' (first | exact trivial | exact rfl | refine And.intro ?_ ?_))⟩
          simp only [d]
          exact f2 d
      · have c8 : f.st = 2 := of_decide_eq_true c8
        refine br_in (fun d => ?_) fun d => ?_
        · have d : v ≠ 1 := by simpa using d
          have hfin := once2 hM tn c5 hw ho (by rw [hf]; exact c8) d
          rw [hp2] at hfin
          exact ⟨⟨⟨w, s, v, told, over, fs, ins, wts, row⟩, t, F0, true, false, 0, 0, 1⟩, ⟨⟨t0, t6⟩, rfl, s0, l0, l2, .inl ⟨rfl, hfin⟩⟩, by (repeat' (first | exact trivial | exact rfl | refine And.intro ?_ ?_))⟩
        · have d : v = 1 := by simpa using d
          have hfin := once2' hM tn c5 hw ho (by rw [hf]; exact c8) d 0
          rw [hf, hp2] at hfin
          exact ⟨⟨⟨w, s, v, told, over, fs, ins, wts, row⟩, t, { f with st := 3, ph := 0 }, false, false, 0, 0, 0⟩, ⟨⟨t0, t6⟩, rfl, s0, l0, l2, .inl ⟨rfl, hfin⟩⟩, by (repeat' (first | exact trivial | exact rfl | refine And.intro ?_ ?_))⟩
      · refine ⟨⟨by (repeat' (first | exact trivial | exact rfl | refine And.intro ?_ ?_)), by (repeat' (first | exact trivial | exact rfl | refine And.intro ?_ ?_)), by unfold KeepI; omega⟩, ?_⟩
        have c9 : f.st = 3 := of_decide_eq_true c9
        have hfin := once3 hM tn c5 hw ho (by rw [hf]; exact c9)
        rw [hf] at hfin
        obtain ⟨q1, q2⟩ := hfin
        rw [hp2] at q2
        refine ⟨⟨⟨(KeepUn w f).w, s, v, told, over, fs, ins, wts, row⟩, t, (KeepUn w f).f, (KeepUn w f).dn, (KeepUn w f).hd, (KeepUn w f).gv, (KeepUn w f).ft, 0⟩, ⟨⟨t0, t6⟩, q1, s0, l0, l2, ?_⟩, by (repeat' (first | exact trivial | exact rfl | refine And.intro ?_ ?_))⟩
        rcases q2 with ⟨a1, a2⟩ | ⟨a1, a2, a3⟩
        · exact .inl ⟨a1, a2⟩
        · exact .inr ⟨a1, a2, rfl, a3⟩
      · exfalso
        have c6 := of_decide_eq_false c6
        have c7 := of_decide_eq_false c7
        have c8 := of_decide_eq_false c8
        have c9 := of_decide_eq_false c9
        rcases hb with ⟨_, h | ⟨h, _⟩ | ⟨h, _⟩ | ⟨h, _⟩⟩
        · exact c6 (by rw [h])
        · exact c7 h
        · exact c8 h
        · exact c9 h
    clear hM h4 h5 h6 h7 h8 l0 l2 l3 s0 s1 w0 w1 hrl hf hp2 bt bw bi bf c4 hw ho tn
    rintro ⟨⟨w, s, v, told, over, fs, ins, wts, row⟩, t, f, dn, hd, gv, ft, vl⟩ ⟨⟨t0, t6⟩, q1, s2, l1, l2, q2⟩
    simp only at t0 t6 q1 s2 l1 l2 q2
    subst q1
    dsimp only
    have tn : t.toNat < 5 := by omega
    have bt : (decide ((0 : Int) ≤ t) && decide (t < 5)) = true := by simp; omega
    have bf : (t.toNat * 10 + 10).ble fs.length = true := by rw [Nat.ble_eq]; omega
    have lF := put_len l1 tn f
    refine br_y bt <| br_y bf <| br_n rfl ⟨br_in (fun c6 => ?_) fun c6 => ?_, ?_⟩
    · simp only [decide_eq_true_eq] at c6
      rcases q2 with ⟨e, _⟩ | ⟨_, hd1, rfl, hF⟩
      · exfalso; omega
      subst hd1
      obtain ⟨over', ins', hM⟩ := fin_any hF
      have hh := hM
      obtain ⟨_, _, l3, h4, h5, h6, h7, h8⟩ := hh
      obtain ⟨s0', s1, w0, w1⟩ := inv_s h6
      have hrl := row_len h4
      have hs1 : IntKind.i64.wrap (s + 1) = s + 1 := w_i64 (by omega)
      simp only [hs1]
      refine br_in (fun c7 => ?_) fun c7 => ?_
      · simp only [decide_eq_true_eq] at c7
        cases row with
        | nil => exact absurd c7 (by simp)
        | cons u row =>
          obtain ⟨r1, ⟨u0, u6⟩, r3, r5⟩ := row_tail h4
          have hs2 : IntKind.i64.wrap (s + 1 - 1) = s := by rw [w_i64 (by omega)]; omega
          have e0 : gI (u :: row) 0 = u := rfl
          have e1 : ([] : List Int) ++ List.drop 1 (u :: row) = row := rfl
          simp only [e0, e1, hs2]
          refine br_y (by simp) <| br_y (by simp; omega) <| br_y (by rw [Nat.ble_eq]; simp; simp at hrl; omega) <| br_y (by simp; omega) <| br_y (by rw [Nat.ble_eq]; omega) <| br_in (fun c8 => br_y (by simp; omega) <| br_y (by rw [Nat.ble_eq, lF]; omega) ?_) fun c8 => ?_
          · have := fin_hand hF (by omega)
            rw [show s + 1 - 1 = s by omega] at this
            refine ⟨⟨⟨w, s, v, told, over, splice (splice fs (t.toNat * 10) (cellsF f)) (u.toNat * 10 + 8) [0], ins, splice wts u.toNat [0], row⟩, t, true, hd, gv, 0, 0⟩, ⟨⟨t0, t6⟩, ?_, l2, this⟩, by (repeat' (first | exact trivial | exact rfl | refine And.intro ?_ ?_))⟩
            show (splice (splice fs (t.toNat * 10) (cellsF f)) (u.toNat * 10 + 8) [0]).length = 50
            exact ne_len lF (by omega) _
          · exact ⟨⟨⟨w, s + 1, v, told, over, splice fs (t.toNat * 10) (cellsF f), ins, splice wts u.toNat [0], row⟩, t, true, hd, gv, 0, 0⟩, ⟨⟨t0, t6⟩, lF, l2, fin_give hF⟩, by (repeat' (first | exact trivial | exact rfl | refine And.intro ?_ ?_))⟩
      · simp only [decide_eq_false_iff_not] at c7
        obtain rfl : row = [] := List.length_eq_zero_iff.1 (by omega)
        exact ⟨⟨⟨w, s + 1, v, told, over, splice fs (t.toNat * 10) (cellsF f), ins, wts, []⟩, t, true, hd, gv, 0, 0⟩, ⟨⟨t0, t6⟩, lF, l2, hF⟩, by (repeat' (first | exact trivial | exact rfl | refine And.intro ?_ ?_))⟩
    · simp only [decide_eq_false_iff_not] at c6
      rcases q2 with ⟨_, hF⟩ | ⟨e, _⟩
      · exact ⟨⟨⟨w, s, v, told, over, splice fs (t.toNat * 10) (cellsF f), ins, wts, row⟩, t, dn, hd, gv, 0, vl⟩, ⟨⟨t0, t6⟩, lF, l2, hF⟩, by (repeat' (first | exact trivial | exact rfl | refine And.intro ?_ ?_))⟩
      · exact absurd e c6
    · clear q2 l1 l2 s2 bt bf lF tn t0 t6
      rintro ⟨⟨w, s, v, told, over, fs, ins, wts, row⟩, t, dn, hd, gv, ft, vl⟩ ⟨⟨t0, t6⟩, l1, l2, f1, f2, f3, f4⟩
      simp only at t0 t6 l1 l2 f1 f2 f3 f4
      dsimp only
      have tn : t.toNat < 5 := by omega
      have bt : (decide ((0 : Int) ≤ t) && decide (t < 5)) = true := by simp; omega
      have bi : (t.toNat + 1).ble ins.length = true := by rw [Nat.ble_eq]; omega
      have bf : (t.toNat * 10 + 10).ble fs.length = true := by rw [Nat.ble_eq]; omega
      refine br_in (fun c6 => ?_) fun c6 => br_y bt <| br_y bi <| br_in (fun c7 => ?_) fun c7 => ?_
      · have c6 : dn = false := by simpa using c6
        exact ⟨⟨⟨w, s, v, told, over, fs, ins, wts, row⟩, i + 1, clk⟩, ⟨by simp only; omega, f1 c6⟩, by simp only; omega, by (repeat' (first | exact trivial | exact rfl | refine And.intro ?_ ?_))⟩
      · have c6 : dn = true := by simpa using c6
        have hM := f2 c6 c7
        have hj := jj_end hM.2.2.2.2.2.2.1
        refine br_y bt <| br_y bi ⟨⟨⟨w, s, v, told, over + 1, fs, splice ins t.toNat [0], wts, row⟩, i + 1, clk⟩, ⟨by simp only; omega, hM⟩, by simp only; omega, ?_⟩
        rw [w_i64 (n := over + 1) (by omega)]
        (repeat' (first | exact trivial | exact rfl | refine And.intro ?_ ?_))
      · have c6 : dn = true := by simpa using c6
        refine br_in (fun c8 => ?_) fun c8 => ?_
        · have hM := f3 c6 c7 (of_decide_eq_true c8)
          have hj := jj_end hM.2.2.2.2.2.2.1
          refine br_y bt <| br_y bi <| br_y bt <| br_y bf ⟨⟨⟨w, s, v, told + 1, over, splice fs (t.toNat * 10) (cellsF (fB 35)), splice ins t.toNat [1], wts, row⟩, i + 1, clk⟩, ⟨by simp only; omega, hM⟩, by simp only; omega, ?_⟩
          rw [w_i64 (n := told + 1) (by omega)]
          (repeat' (first | exact trivial | exact rfl | refine And.intro ?_ ?_))
        · obtain ⟨hv, hM⟩ := f4 c6 c7 (of_decide_eq_false c8)
          refine br_n (by simp [hv]) ⟨⟨⟨w, s, v, told, over, fs, ins, wts, row⟩, i + 1, clk⟩, ⟨by simp only; omega, hM⟩, by simp only; omega, by (repeat' (first | exact trivial | exact rfl | refine And.intro ?_ ?_))⟩
  · have hM : MInv w s v told over fs ins wts row := hM
    obtain ⟨⟨q1, q2⟩, ⟨q3, q4⟩, q5, q6⟩ := jj_end hM.2.2.2.2.2.2.1
    have q7 : decide (told = 1) = false → v ≠ 1 := fun h => by rcases q6 with h' | h'; rw [h'] at h; exact absurd h (by decide); exact h'
    refine br_y (by simp; omega) <| br_y (by simp; omega) <| br_in (fun d => br_in (fun d' => trivial) fun d' => ?_) fun d => br_y ?_ <| br_in (fun d' => trivial) fun d' => ?_
    · simp [q7 d']
    · have := of_decide_eq_false d
      simp; omega
    · simp [q7 d']
end Go.Proofs.Ytegdbpbafdpkfaa
