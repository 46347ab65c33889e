/- WeightTurns: the walk. No condition. -/
import Derived.Test.YtpkafgpffkhbnaaLTu
namespace Go.Proofs.Ytpkafgpffkhbnaa
open SY
open Go.RowKit
set_option linter.unusedSimpArgs false
set_option linter.unusedVariables false

theorem gv_one {w0 w1 : Int} {line : List Int} {ow : Int} {ol wk : List Int} {k : Nat} (hl : line.length % 2 = 0) (h : gv w0 w1 line = (ow, wk.drop k, ol)) (hk : k < wk.length) :
    ∃ n r, line = gI wk k :: n :: r ∧ IntKind.i64.wrap (w1 + n) ≤ w0 ∧ gv w0 (IntKind.i64.wrap (w1 + n)) r = (ow, wk.drop (k + 1), ol) := by
  rw [List.drop_eq_getElem_cons hk] at h
  have e : gI wk k = wk[k] := by simp [gI, hk]
  match line, hl, h with
  | [], _, h => simp only [gv_nil, Prod.mk.injEq, reduceCtorEq, false_and, and_false] at h
  | [_], hl, _ => simp at hl
  | t :: n :: r, _, h =>
    rw [gv_cons] at h
    by_cases hw : IntKind.i64.wrap (w1 + n) ≤ w0
    · rw [if_pos hw] at h
      simp only [Prod.mk.injEq, List.cons.injEq] at h
      obtain ⟨h1, ⟨h2, h3⟩, h4⟩ := h
      refine ⟨n, r, by rw [e, h2], hw, ?_⟩
      rw [← h1, ← h3, ← h4]
    · rw [if_neg hw] at h
      simp only [Prod.mk.injEq, reduceCtorEq, false_and, and_false] at h
theorem gv_end {w0 w1 : Int} {line : List Int} {ow : Int} {ol wk : List Int} (hl : line.length % 2 = 0) (h : gv w0 w1 line = (ow, wk.drop wk.length, ol)) : ow = w1 ∧ ol = line ∧ (0 < line.length → w0 < IntKind.i64.wrap (w1 + gI line 1)) := by
  rw [List.drop_length] at h
  match line, hl, h with
  | [], _, h => simp [gv_nil] at h; exact ⟨h.1.symm, h.2, fun h => by simp at h⟩
  | [_], hl, _ => simp at hl
  | t :: n :: r, _, h =>
    rw [gv_cons] at h
    by_cases hw : IntKind.i64.wrap (w1 + n) ≤ w0
    · rw [if_pos hw] at h
      simp at h
    · rw [if_neg hw] at h
      simp at h
      exact ⟨h.1.symm, h.2.symm, fun _ => by rw [gI_succ, gI_zero]; omega⟩
theorem ac_in {xs : List Int} (h : InR [.bool, .int .u8, .int .u8] xs) {i : Nat} (hi : i < xs.length / 3) : (0 ≤ gI xs (i * 3 + 1) ∧ gI xs (i * 3 + 1) ≤ 255) ∧ (0 ≤ gI xs (i * 3 + 1 + 1) ∧ gI xs (i * 3 + 1 + 1) ≤ 255) := by
  have k1 : kAt [.bool, .int .u8, .int .u8] (i * 3 + 1) = .int .u8 := by
    unfold kAt
    rw [show (i * 3 + 1) % [CK.bool, CK.int IntKind.u8, CK.int IntKind.u8].length = 1 by simp [Nat.add_mod]]; rfl
  have k2 : kAt [.bool, .int .u8, .int .u8] (i * 3 + 1 + 1) = .int .u8 := by
    unfold kAt
    rw [show (i * 3 + 1 + 1) % [CK.bool, CK.int IntKind.u8, CK.int IntKind.u8].length = 2 by simp [Nat.add_mod, Nat.add_assoc]]; rfl
  have h1 := at_in h (i := i * 3 + 1) (by omega)
  have h2 := at_in h (i := i * 3 + 1 + 1) (by omega)
  rw [k1] at h1
  rw [k2] at h2
  exact ⟨in_u8 h1, in_u8 h2⟩
theorem imin_le (a b : Int) : imin a b ≤ a ∧ imin a b ≤ b ∧ (imin a b = a ∨ imin a b = b) := by
  unfold imin
  split <;> omega

theorem hkU_ok : HookOK Try.prog hkU := hkL_cons alive_ok <| hkL_cons give_ok <| hkL_cons take_ok <| hkL_cons obj_ok hkL_nil
theorem turns_walk (W : World) (v1 : Value) (sz : Int) (xs : List Int) (h1 : SlD g0 W [.bool, .int .u8, .int .u8] xs none v1) (hr : InR [.bool, .int .u8, .int .u8] xs) (hsz : 0 ≤ sz ∧ sz ≤ 255) :
    Calls Try.prog 4 #[.int .u8 sz, v1] W fun e w' => e = .returned (.bool true) ∧ Below W.heap.size W w' := by
  refine law (vals := [.int .u8 sz, v1]) (lh := lhL [(1, hintW1 sz xs), (3, hintW3 sz), (5, hintW5 sz)]) (m := 10) (args := [u8S sz, slA xs]) mixed tab_ok hkU_ok ?_ ⟨rfl, h1, trivial⟩
  rw [turns_res]
  refine ⟨trivial, br_in (fun _ => rfl) fun g1 => ?_⟩
  simp only [decide_eq_false_iff_not] at g1
  have hws : IntKind.i64.wrap sz = sz := w_i64 (by omega)
  simp only [hws]
  refine ⟨⟨⟨0, 0, [0, 0, 0, 0, 0, 0, 0, 0, 0, 0], []⟩, ⟨Nat.zero_le _, rfl, fun j hj => ?_, rfl, by show (0 : Int) ≤ sz; omega, rfl, trivial⟩, by simp⟩, ?_⟩
  · have : j = 0 ∨ j = 1 ∨ j = 2 ∨ j = 3 ∨ j = 4 ∨ j = 5 ∨ j = 6 ∨ j = 7 ∨ j = 8 ∨ j = 9 := by omega
    rcases this with rfl | rfl | rfl | rfl | rfl | rfl | rfl | rfl | rfl | rfl <;> exact Int.le_refl _
  rintro ⟨i, sum, hs, line⟩ ⟨i1, wv⟩
  simp only at i1 wv
  simp only [Int.toNat_natCast]
  refine br_in (fun c1 => ?_) fun c1 => ?_
  · simp only [decide_eq_true_eq] at c1
    have c1' : i < xs.length / 3 := by omega
    obtain ⟨⟨a1, a2⟩, a3, a4⟩ := ac_in hr c1'
    rw [br_t (by simp; omega), br_t (by simp; omega)]
    obtain ⟨n, hn⟩ : ∃ n, gI xs (i * 3 + 1 + 1) = n := ⟨_, rfl⟩
    obtain ⟨t, ht⟩ : ∃ t, gI xs (i * 3 + 1) = t := ⟨_, rfl⟩
    simp only [hn, ht] at a1 a2 a3 a4 ⊢
    clear hn ht
    have hwn : IntKind.i64.wrap n = n := w_i64 (by omega)
    have hwt : IntKind.i64.wrap (t.tmod 10) = t % 10 := by rw [Int.tmod_eq_emod_of_nonneg a1, w_i64 (by omega)]
    have hi1 : IntKind.i64.wrap ((i : Int) + 1) = ((i + 1 : Nat) : Int) := by rw [w_i64 (by omega)]; omega
    simp only [hwn, hwt, hi1]
    refine ⟨⟨⟨sum, hs, line, t % 10, 0, false⟩, ⟨Nat.zero_le _, by simp only; omega, rfl, wv⟩, by simp⟩, ?_⟩
    clear wv hwt
    rintro ⟨sum, hs, line, t, k, w⟩ ⟨q1, q2, q3, wv⟩
    simp only at q1 q2 q3 wv
    have wv' := wv
    obtain ⟨p1, p2, p3, p4, p5, p6⟩ := wv'
    have pl := ln_len line p6
    have ps := wv_sum wv
    simp only [Int.toNat_natCast]
    refine br_in (fun c2 => ?_) fun c2 => ?_
    · simp only [decide_eq_true_eq] at c2
      have hk1 : IntKind.i64.wrap ((k : Int) + 1) = ((k + 1 : Nat) : Int) := by rw [w_i64 (by omega)]; omega
      have hk := any_take k line t (by omega)
      simp only [hk1]
      refine br_in (fun c3 => ?_) fun c3 => ?_
      · refine ⟨⟨sum, hs, line, t, k + 1, true⟩, ⟨by simp only; omega, q2, by simp only; rw [hk, ← q3, c3]; rfl, wv⟩, by simp only; omega, by simp⟩
      · rw [br_t (by simp; omega)]
        refine ⟨⟨sum, hs, line, t, k + 1, _⟩, ⟨by simp only; omega, q2, by simp only; rw [hk, ← q3, c3, Bool.false_or], wv⟩, by simp only; omega, by simp⟩
    · simp only [decide_eq_false_iff_not] at c2
      have hke : line.take (2 * k) = line := List.take_of_length_le (by omega)
      rw [hke] at q3
      refine br_in (fun c3 => ?_) fun c3 => ?_
      · refine ⟨⟨i + 1, sum, hs, line⟩, ⟨by simp only; omega, wv⟩, by simp only; omega, by simp⟩
      · rw [c3] at q3
        rw [br_t (by simp; omega)]
        have kf : KeepFew 2 line := ⟨by omega, p5⟩
        refine br_in (fun c4 => ?_) fun c4 => ?_
        · have ht := tot_ge hs t.toNat (by rwa [p1]) (by omega)
          obtain ⟨m1, m2, m3⟩ := imin_le n (gI hs t.toNat)
          obtain ⟨m, hm⟩ : ∃ m, imin n (gI hs t.toNat) = m := ⟨_, rfl⟩
          simp only [hm] at m1 m2 m3 ⊢
          clear hm
          have bt : (decide ((0 : Int) ≤ t) && decide (t < 10)) = true := by simp; omega
          have bl : (t.toNat + 1).ble hs.length = true := by rw [Nat.ble_eq]; omega
          rw [br_t bt, br_t bl]
          refine ⟨⟨by simp, by trivial, kf⟩, ?_⟩
          have hgd : KeepGd ⟨6, sz, sum, 0, 0, 0, 0, 0, 0, [], line⟩ m = true := by
            unfold KeepGd
            simp only [Bool.not_eq_true', Bool.or_eq_false_iff, decide_eq_false_iff_not]
            omega
          have hw2 : IntKind.i64.wrap (sum - m) = sum - m := w_i64 (by omega)
          have hw3 : IntKind.i64.wrap (gI hs t.toNat - m) = gI hs t.toNat - m := w_i64 (by omega)
          rw [hgd, Bool.not_true, br_ff, br_t bt, br_t bl, br_t bt, br_t bl, hw2, hw3]
          simp only [KeepGw, KeepGl, KeepGk, KeepGf, hgd, if_true, hw2]
          have wv2 := wv_put wv q2.1 q2.2 (v := gI hs t.toNat - m) (by omega) (by omega)
          rw [show sum - gI hs t.toNat + (gI hs t.toNat - m) = sum - m by omega] at wv2
          refine ⟨⟨⟨sum - m, splice hs t.toNat [gI hs t.toNat - m], line, 0, (gv sz (sum - m) line).1, (gv sz (sum - m) line).2.2, (gv sz (sum - m) line).2.1⟩, ⟨Nat.zero_le _, by have := gv_len sz _ (sum - m) line (Nat.le_refl _); simp only; omega, rfl, wv2⟩, by simp⟩, ?_⟩
          clear wv wv2 p1 p2 p3 p4 p5 p6 pl ps q1 q2 q3 kf ht m1 m2 m3 bt bl hgd hw2 hw3 c2 hke
          rintro ⟨sum, hs, line, k, ow, ol, wk⟩ ⟨q1, q0, q2, wv⟩
          simp only at q1 q0 q2 wv
          have wv' := wv
          obtain ⟨p1, p2, p3, p4, p5, p6⟩ := wv'
          have pl := ln_len line p6
          have ps := wv_sum wv
          simp only [Int.toNat_natCast]
          refine br_in (fun c5 => ?_) fun c5 => ?_
          · simp only [decide_eq_true_eq] at c5
            obtain ⟨n, r, rfl, h2, h3⟩ := gv_one p5 q2 (by omega)
            have h6 := p6
            obtain ⟨⟨u1, u2, u3, u4⟩, u5, u6⟩ := h6
            obtain ⟨u, hu⟩ : ∃ u, gI wk k = u := ⟨_, rfl⟩
            simp only [hu] at *
            have hw4 : IntKind.i64.wrap (sum + n) = sum + n := w_i64 (by omega)
            rw [hw4] at h2 h3
            have hlen : 0 < (((u :: n :: r).length / 2 : Nat) : Int) := by simp; omega
            have hge := tot_ge hs u.toNat (by rwa [p1]) (by omega)
            have hw5 : IntKind.i64.wrap (gI hs u.toNat + n) = gI hs u.toNat + n := w_i64 (by omega)
            have bt : (decide ((0 : Int) ≤ u) && decide (u < 10)) = true := by simp; omega
            have bl : (u.toNat + 1).ble hs.length = true := by rw [Nat.ble_eq]; omega
            have bk : (true && decide ((0 : Int) < (((u :: n :: r).length / 2 : Nat) : Int))) = true := by simp only [Bool.true_and, decide_eq_true_eq]; exact hlen
            have bk1 : (true && decide ((1 : Int) ≤ (((u :: n :: r).length / 2 : Nat) : Int))) = true := by simp only [Bool.true_and, decide_eq_true_eq]; omega
            have hk1 : IntKind.i64.wrap ((k : Int) + 1) = ((k + 1 : Nat) : Int) := by rw [w_i64 (by omega)]; omega
            simp only [gI_succ, gI_zero, hw4, hw5, hk1]
            refine br_n (by simp only [decide_eq_false_iff_not]; omega) <| br_y bk <| br_y (by simp only [Bool.true_and, decide_eq_true_eq]; omega) <| br_n (by simp) <| br_y bk <| br_n (by simp only [decide_eq_false_iff_not]; omega) <| br_y bk <| br_y bk <| br_y bt <| br_y bl <| br_y bk <| br_y bk <| br_y bt <| br_y bl <| br_y bk1 <| br_y (by rw [Nat.ble_eq]; simp; simp at pl; omega) ?_
            have wv2 := wv_line (wv_put wv u1 u2 (v := gI hs u.toNat + n) (by omega) (by omega)) (l := r) (by simp at p5; omega) u6
            rw [show sum - gI hs u.toNat + (gI hs u.toNat + n) = sum + n by omega] at wv2
            refine ⟨⟨sum + n, splice hs u.toNat [gI hs u.toNat + n], r, k + 1, ow, ol, wk⟩, ⟨by simp only; omega, q0, h3, wv2⟩, by simp only; omega, by simp⟩
          · simp only [decide_eq_false_iff_not] at c5
            obtain rfl : k = wk.length := by omega
            obtain ⟨rfl, rfl, h4⟩ := gv_end p5 q2
            have fin : ∃ (x' : WX), KeepW1 sz xs x' ∧ xs.length / 3 - x'.1 < xs.length / 3 - i ∧ (x'.4 = ol ∧ x'.2 = ow ∧ x'.1 = i + 1) ∧ x'.3 = hs := ⟨⟨i + 1, ow, hs, ol⟩, ⟨by simp only; omega, wv⟩, by simp only; omega, by simp⟩
            obtain ⟨x', e1, e2, ⟨e3, e4, e5⟩, e6⟩ := fin
            refine br_in (fun c6 => ?_) fun c6 => ?_
            · simp only [decide_eq_true_eq] at c6
              rw [br_t (by simp; omega), br_f (by simp only [decide_eq_false_iff_not]; have := h4 (by omega); omega)]
              exact ⟨x', e1, e2, by simp [e3, e4, e5, e6]⟩
            · exact ⟨x', e1, e2, by simp [e3, e4, e5, e6]⟩
        · have hc := tm_cases ⟨6, sz, sum, 0, 0, 0, 0, 0, 0, [], line⟩ 0 n
          simp only at hc
          obtain ⟨m, hm⟩ : ∃ m, KeepTm ⟨6, sz, sum, 0, 0, 0, 0, 0, 0, [], line⟩ 0 n = m := ⟨_, rfl⟩
          simp only [hm] at hc ⊢
          clear hm
          have hw4 : IntKind.i64.wrap (sum + n) = sum + n := w_i64 (by omega)
          rw [hw4] at hc
          simp only [hw4]
          have k0 : KeepFew 2 [] := ⟨by simp, rfl⟩
          rcases hc with ⟨h, _⟩ | ⟨_, h, _⟩ | ⟨_, h, rfl⟩ | ⟨_, _, h1, h2, h3, rfl⟩ | ⟨_, _, _, _, h, _⟩ | ⟨_, _, h1, h2, h3, rfl⟩
          · omega
          · omega
          · refine ⟨by trivial, ⟨by simp, by simp, by trivial, by trivial, kf⟩, br_y (by simp; omega) <| br_n rfl ⟨⟨by simp, by simp, k0, k0, kf, kf⟩, br_n (by simp [KeepTw, KeepTl]) <| br_n (by simp [KeepTw]) <| br_n (by simp; omega) <| br_n (by simp [KeepTw]) ?_⟩⟩
            exact ⟨⟨i + 1, sum, hs, line⟩, ⟨by simp only; omega, wv⟩, by simp only; omega, by simp [KeepTw, KeepTl]⟩
          · have ht := tot_ge hs t.toNat (by rwa [p1]) (by omega)
            have hw5 : IntKind.i64.wrap (gI hs t.toNat + n) = gI hs t.toNat + n := w_i64 (by omega)
            have bt : (decide ((0 : Int) ≤ t) && decide (t < 10)) = true := by simp; omega
            have bl : (t.toNat + 1).ble hs.length = true := by rw [Nat.ble_eq]; omega
            have wv2 := wv_put wv q2.1 q2.2 (v := gI hs t.toNat + n) (by omega) (by omega)
            rw [show sum - gI hs t.toNat + (gI hs t.toNat + n) = sum + n by omega] at wv2
            refine ⟨by trivial, ⟨by simp, by simp, by trivial, by trivial, kf⟩, br_n (by simp; omega) <| br_y (by simp; omega) <| br_y (by simp; omega) <| br_n rfl <| br_n (by simp [KeepTi, KeepTs, KeepTb]) <| br_y bt <| br_y bl <| br_y bt <| br_y bl <| br_n (by simp [KeepTw, hw4]) <| br_n (by simp; omega) <| br_n (by simp [KeepTw, hw4]) ?_⟩
            exact ⟨⟨i + 1, sum + n, splice hs t.toNat [gI hs t.toNat + n], line⟩, ⟨by simp only; omega, wv2⟩, by simp only; omega, by simp [KeepTw, KeepTl, hw4, hw5]⟩
          · omega
          · have wv2 := wv_line wv (l := line ++ [t, n]) (by simp; omega) (ln_app line t n p5 p6 q3.symm q2.1 q2.2 (by omega) (by omega))
            refine ⟨by trivial, ⟨by simp, by simp, by trivial, by trivial, kf⟩, br_n (by simp; omega) ?_⟩
            have key : ∃ (x' : WX), KeepW1 sz xs x' ∧ xs.length / 3 - x'.i < xs.length / 3 - i ∧ (x'.line = line ++ [t, n] ∧ x'.sum = sum ∧ x'.i = i + 1) ∧ x'.hs = hs := ⟨⟨i + 1, sum, hs, line ++ [t, n]⟩, ⟨by simp only; omega, wv2⟩, by simp only; omega, by simp⟩
            obtain ⟨x', e1, e2, ⟨e3, e4, e5⟩, e6⟩ := key
            have bw : (line.length + 2).ble 1099511627776 = true := by rw [Nat.ble_eq]; omega
            refine br_in (fun c5 => ?_) fun c5 => ?_
            · simp only [decide_eq_true_eq] at c5
              refine br_n (by simp; omega) <| br_n rfl <| br_n rfl <| br_y bw <| br_n (by simp [KeepTw]) <| br_n (by simp; omega) <| br_n (by simp [KeepTw]) ?_
              exact ⟨x', e1, e2, by simp [KeepTw, KeepTl, e3, e4, e5, e6]⟩
            · refine br_n rfl <| br_n rfl <| br_y bw <| br_n (by simp [KeepTw]) <| br_n (by simp; omega) <| br_n (by simp [KeepTw]) ?_
              exact ⟨x', e1, e2, by simp [KeepTw, KeepTl, e3, e4, e5, e6]⟩
  · obtain ⟨p1, p2, p3, p4, p5, p6⟩ := wv
    have pl := ln_len line p6
    have k0 : KeepFew 2 [] := ⟨by simp, rfl⟩
    have kf : KeepFew 2 line := ⟨by omega, p5⟩
    exact br_y (by simp) ⟨⟨by simp, by simp, k0, k0, kf, kf⟩, by simp⟩
end Go.Proofs.Ytpkafgpffkhbnaa
