/- Waiters in turns: the law. No condition. -/
import Derived.Test.YtgoigcnibjcjpaaRN3
namespace Go.Proofs.Ytgoigcnibjcjpaa
open SY
open Go.RowKit Go.Maps
set_option linter.unusedSimpArgs false
set_option linter.unusedVariables false
set_option maxRecDepth 100000
theorem has_ok : GOK Try.prog 23 hHas := by
  refine gokW mixed tab_ok hkL_nil fun vs s r hg hs => ?_
  unfold hHas at hg
  split at hg <;> try (cases hg; done)
  rename_i a b
  simp only [Option.some.injEq, Prod.mk.injEq] at hg
  obtain ⟨rfl, rfl⟩ := hg
  obtain ⟨h1, h2, h3⟩ := hs
  refine ⟨lhL [(1, hintHas (cL a) (cI b))], 10, [slI (cL a), iS (cI b)], ⟨h1, h2, trivial⟩, ?_⟩
  generalize cL a = l at *
  generalize cI b = x at *
  unfold KeepFew at h3
  rw [has_res]
  simp only [Int.toNat_natCast]
  unfold KeepMem
  refine ⟨⟨⟨0⟩, ⟨Nat.zero_le _, fun j hj => absurd hj (Nat.not_lt_zero _)⟩, by simp, by simp⟩, fun z hz => br_in (fun d => ?_) fun d => ?_⟩
  · have d := of_decide_eq_true d
    have d : ((z.i : Nat) : Int) < ((l.length : Nat) : Int) := d
    refine br_y (by simp; omega) <| br_in (fun e => ?_) fun e => ⟨⟨z.i + 1⟩, ⟨by show z.i + 1 ≤ _; omega, fun j hj => ?_⟩, by show l.length - (z.i + 1) < l.length - z.i; omega, by simp [← i64_nat (show z.i < 9223372036854775807 by omega)], by simp⟩
    · have e := of_decide_eq_true e
      have := gI_mem (show z.i < l.length by omega)
      exact decide_eq_true (e ▸ this)
    · have e := of_decide_eq_false e
      rcases Nat.lt_or_ge j z.i with h | h
      · exact hz.2 j h
      · have hj : j < z.i + 1 := hj
        obtain rfl : j = z.i := by omega
        exact e
  · have d := of_decide_eq_false d
    have d : ¬ ((z.i : Nat) : Int) < ((l.length : Nat) : Int) := d
    refine decide_eq_false fun hm => ?_
    obtain ⟨k, hk, e⟩ := mem_gI hm
    exact hz.2 k (by omega) e
theorem inlWo_ok (l : List Int) (x : Int) : InlOK0 Try.prog (inlWo l x) := fun f args bl nx k h => by
  obtain ⟨h1, h2⟩ := callB_ok (full := false) mixed tab_ok (exec_ok (lh := lhL [(1, hintWo l x)]) mixed hkL_nil (inlN_ok mixed tab_ok hkL_nil 10) (inlN_ex 10) (fun h => by cases h)) h
  exact ⟨h1, fun p w0 g w vals ha hmem => (h2 p w0 g w vals ha hmem).mono fun e w' ⟨r, v, bl', nx', g', q1, q2, q3, q4, _⟩ => ⟨r, v, bl', nx', g', q1, q2, q3, q4⟩⟩
theorem wo_law {l : List Int} {x : Int} {q : Nat} (h3 : KeepFew l) : isoT (inlWo l x) 24 [slI l, iS x] [.int .i64] 3 q (fun r => r = .t (.c (.sl [.int .i64] (KeepWo l x l.length) (some (q, q + q))))) := by
  unfold KeepFew at h3
  rw [wo_res]
  simp only [Int.toNat_natCast]
  refine ⟨⟨⟨0, []⟩, ⟨Nat.zero_le _, by simp [KeepWo]⟩, by simp, by simp⟩, fun z hz => br_in (fun d => ?_) fun d => ?_⟩
  · have d := of_decide_eq_true d
    have d : ((z.i : Nat) : Int) < ((l.length : Nat) : Int) := d
    have hzl : z.i < l.length := by omega
    have st := wo_step (d := x) hzl
    have wl := wo_len l x z.i
    obtain ⟨z1, z2⟩ := hz
    refine br_y (by simp; omega) <| br_in (fun e => br_y (by simp; omega) <| br_y (ble_of (by rw [z2]; omega)) ⟨⟨z.i + 1, z.out ++ [gI l z.i]⟩, ⟨hzl, ?_⟩, by show l.length - (z.i + 1) < l.length - z.i; omega, by simp [← i64_nat (show z.i < 9223372036854775807 by omega)], by simp⟩) fun e =>
      ⟨⟨z.i + 1, z.out⟩, ⟨hzl, ?_⟩, by show l.length - (z.i + 1) < l.length - z.i; omega, by simp [← i64_nat (show z.i < 9223372036854775807 by omega)], by simp⟩
    · simp only [Bool.not_eq_true', decide_eq_false_iff_not] at e
      show z.out ++ _ = KeepWo l x (z.i + 1)
      rw [st, if_neg e, z2]
    · simp only [Bool.not_eq_false', decide_eq_true_eq] at e
      show z.out = KeepWo l x (z.i + 1)
      rw [st, if_pos e, z2, List.append_nil]
  · have d := of_decide_eq_false d
    have d : ¬ ((z.i : Nat) : Int) < ((l.length : Nat) : Int) := d
    obtain ⟨z1, z2⟩ := hz
    rw [z2, show z.i = l.length by omega]
theorem xWo_ok : XOK Try.prog 24 xWo := by
  intro inl _ _ args bl nx k h
  unfold xWo at h
  split at h <;> try (exact h.elim)
  rename_i ks l tok x
  split at h <;> try (exact h.elim)
  rename_i hq
  obtain rfl := ksEq_eq hq
  split at h <;> try (exact h.elim)
  rename_i hfree
  obtain ⟨h1, h2⟩ := isoT_ok (inlWo_ok l x) (wo_law (x := x) (q := nx) h.1)
  refine ⟨⟨h1, fun p w0 g w vals hv hm => ?_⟩, _, _, _, h.2⟩
  obtain ⟨v1, r1, rfl, d1, hv⟩ := hv.cons_left
  obtain ⟨v2, r2, rfl, d2, hv⟩ := hv.cons_left
  obtain rfl := hv.nil_left
  obtain ⟨a1, n1, c1, rfl, hS1⟩ := d1
  have d1' : DS g w (slI l) (.slice a1 n1 c1) := ⟨a1, n1, c1, rfl, hS1.cap, hS1.most, hS1.pos, hS1.len, hS1.nil, hS1.at_, trivial⟩
  refine (h2 g w [.slice a1 n1 c1, v2] hm.bound ⟨d1', d2, trivial⟩).mono ?_
  rintro e w' ⟨r', v, rfl, rfl, hrt, hbel⟩
  rcases hrt with hds | ⟨xs, a', m, c, q, hr, rfl, hS, hq, htip⟩
  · obtain ⟨g', hx, _, _, _, hm'⟩ := (hm.grow hbel).tok 3 (nx + nx) hfree
    exact ⟨_, v, _, _, g', rfl, h.2, hx.s _ _ hds, hm', (ext_below g hbel).trans hx⟩
  · cases hr
    obtain ⟨g', hx, t1, t2, t3, hm'⟩ := hm.tokOwn 3 (nx + nx) q hfree hbel hq
    refine ⟨_, _, _, _, g', rfl, h.2, ⟨a', m, c, rfl, hS.cap, hS.most, hS.pos, hS.len, hS.nil, fun A hA => ⟨fun h0 => ?_, (hS.at_ A hA).2⟩, 3, nx + nx, t1, Nat.le_refl _, fun _ => ?_⟩, hm', hx⟩
    · have hF := (hS.at_ A hA).1 h0
      refine ⟨hF.spot, hF.lt, fun f hf => ?_⟩
      rcases t3 _ f hf with hq' | hl
      · rcases htip with ⟨u1, _⟩ | ⟨A', cur, u1, u2, u3, _⟩
        · rw [u1] at hq'; cases hq'
        · rw [u3] at hq'
          rw [hA] at u1
          cases u1
          simp only [Option.some.injEq, Prod.mk.injEq, true_and] at hq'
          rw [u2.1]; omega
      · exact hF.lim f hl
    · rcases htip with ⟨u1, u2⟩ | ⟨A, cur, u1, u2, u3, u4, u5⟩
      · exact .inl ⟨by rw [t2]; exact u1, u2⟩
      · exact .inr ⟨A, cur, u1, u2, by rw [t2]; exact u3, u4, u5⟩
theorem xhT_ok : XHookOK Try.prog xhT := xhL_cons xWo_ok xhL_nil
theorem hkTn_ok : HookOK Try.prog (hkTn KeepRn KeepPn KeepPe KeepOn KeepOt KeepOe KeepAn KeepAl KeepAe KeepEq) :=
  hkL_cons alive_ok <| hkL_cons right_ok <| hkL_cons park_ok <| hkL_cons one_ok <| hkL_cons all_ok <| hkL_cons ints_ok <| hkL_cons has_ok hkL_nil
theorem mulE_one (n : Nat) : mulE 1 n = n := rfl
theorem e32 (a b : Int) : (a + b % 4294967296) % 4294967296 = (a + b) % 4294967296 := by omega
theorem e32' (a b : Int) : (a % 4294967296 + b) % 4294967296 = (a + b) % 4294967296 := by omega
theorem bTF : (true == false) = false := rfl
theorem bFT : (false == true) = false := rfl
theorem bTT : (true == true) = true := rfl
theorem bFF : (false == false) = true := rfl
theorem turns_law {fr : Int} {xs : List Int} (hf : KeepU fr) (hx : ∀ k, k < xs.length → 0 ≤ gI xs k ∧ gI xs k < 256) : callX Try.prog (hkTn KeepRn KeepPn KeepPe KeepOn KeepOt KeepOe KeepAn KeepAl KeepAe KeepEq) xhT tab (lhL [(1, hintTn fr xs.length)]) 10 5 [uS fr, slB xs] tru := by
  rw [turns_res]
  simp only [cN_eq, cI_u, cI_i, cL_eq, nf_eta, List.nil_append, Nat.zero_add, se_refl, eq_refl', decide_true, br_tt, and_true, true_and, mulE_one, Int.toNat_natCast, IntKind.wrap_u32, e32, e32']
  refine br_in (fun c => trivial) fun c => ⟨⟨⟨0, 0, 0, []⟩, ?_, by simp, by unfold KeepU at hf; simp [KeepLst]; omega⟩, fun x hx' => br_in (fun d => ?_) fun d => ?_⟩
  · have c : ¬ ((xs.length : Nat) : Int) > 60 := of_decide_eq_false c
    exact ⟨Nat.zero_le _, by omega, Nat.le_refl _, Nat.le_refl _, by simp, fun v hv => (by cases hv), List.Pairwise.nil⟩
  · have d : ((x.i : Nat) : Int) < ((xs.length : Nat) : Int) := of_decide_eq_true d
    have hi : x.i < xs.length := by omega
    have hk := hx x.i hi
    have hr := t_right (fr := fr) hx'
    have hw := t_ws (fr := fr) hx'
    have hw' : KeepWs ⟨(fr + x.g) % 4294967296, (fr + x.d) % 4294967296, KeepLst fr x.ws⟩ := hw
    have pk := fun v hv => t_park (fr := fr) (k := v) hx' hv
    have ok := t_one (fr := fr) hx'
    have ta := ti_add hx' hi
    have tn := ti_next hx' hi
    have tp := fun v a b c => ti_park (k := v) hx' hi a b c
    have to := ti_one hx' hi
    obtain ⟨h1, h2, h3, h4, h5, h6, h7⟩ := hx'
    have few : KeepFew x.ws := by unfold KeepFew; omega
    have le1 : (x.ws.length + 1).ble 1099511627776 = true := ble_of (by omega)
    have dec : xs.length - (x.i + 1) < xs.length - x.i := by omega
    have ei : ((x.i + 1 : Nat) : Int) = IntKind.i64.wrap ((x.i : Int) + 1) := i64_nat (by omega)
    have stay : ∃ x' : TX, KeepTI xs.length x' ∧ xs.length - x'.i < xs.length - x.i ∧ ((x'.g : Int) = x.g ∧ (x'.d : Int) = x.d ∧ x'.ws = x.ws ∧ (x'.i : Int) = IntKind.i64.wrap ((x.i : Int) + 1)) ∧ (fr + x'.g) % 4294967296 = (KeepTn fr x).wt ∧ (fr + x'.d) % 4294967296 = (KeepTn fr x).td ∧ KeepLst fr x'.ws = (KeepTn fr x).ns :=
      ⟨⟨x.g, x.d, x.i + 1, x.ws⟩, tn, dec, ⟨rfl, rfl, rfl, ei⟩, rfl, rfl, rfl⟩
    refine br_y (by simp; omega) <| br_in (fun e => ?_) fun e => br_in (fun e' => ?_) fun e' => ?_
    · refine ⟨hw', ?_⟩
      rw [hr]
      refine br_n (by decide) <| br_n (decide_eq_false (by omega)) <| br_n (by simp) ⟨⟨x.g + 1, x.d, x.i + 1, x.ws⟩, ta, dec, ⟨i64_nat (by omega), rfl, rfl, ei⟩, ?_, rfl, rfl⟩
      show (fr + ((x.g + 1 : Nat) : Int)) % 4294967296 = _
      omega
    · refine br_y (by simp; omega) ?_
      obtain ⟨v, hv⟩ : ∃ v, (gI xs x.i).tdiv 3 = v := ⟨_, rfl⟩
      have hv0 : 0 ≤ v ∧ v < 100 := by rw [← hv, Int.tdiv_eq_ediv_of_nonneg hk.1]; omega
      have e1 : IntKind.i64.wrap (IntKind.u8.wrap v) = v := by rw [IntKind.wrap_u8, IntKind.wrap_i64]; omega
      have ku : KeepU ((fr + v) % 4294967296) := by unfold KeepU; omega
      have ki : KeepI v := by unfold KeepI; omega
      simp only [hv, e1]
      refine ⟨⟨hw', ku, ki⟩, ?_⟩
      have pk := pk v hv0
      by_cases c1 : (x.d : Int) ≤ v ∧ v < x.g
      · rw [if_pos c1] at pk
        have d1 : decide (v ≥ (x.d : Int)) = true := decide_eq_true c1.1
        have d2 : decide (v < (x.g : Int)) = true := decide_eq_true c1.2
        by_cases c2 : v ∈ x.ws
        · rw [if_pos c2] at pk
          have hm : KeepMem x.ws v = true := decide_eq_true c2
          have pe : KeepPe (KeepTn fr x) ((fr + v) % 4294967296) v = 8 := by unfold KeepPe; rw [pk]
          have pn : KeepPn (KeepTn fr x) ((fr + v) % 4294967296) v = KeepTn fr x := by unfold KeepPn; rw [pk]
          have q1 : decide ((8 : Int) = 1) = false := by decide
          have q2 : decide ((8 : Int) = 0) = false := by decide
          simp only [pe, pn, d1, d2, hm, q1, q2, few, Bool.not_true, Bool.not_false, bTF, bFT, bTT, bFF, br_tt, br_ff, true_and]
          exact stay
        · rw [if_neg c2] at pk
          have hm : KeepMem x.ws v = false := decide_eq_false c2
          by_cases c3 : x.ws.length = 12
          · rw [if_pos c3] at pk
            have d3 : decide (((x.ws.length : Nat) : Int) < 12) = false := decide_eq_false (by omega)
            have pe : KeepPe (KeepTn fr x) ((fr + v) % 4294967296) v = 6 := by unfold KeepPe; rw [pk]
            have pn : KeepPn (KeepTn fr x) ((fr + v) % 4294967296) v = KeepTn fr x := by unfold KeepPn; rw [pk]
            have q1 : decide ((6 : Int) = 1) = false := by decide
            have q2 : decide ((6 : Int) = 0) = false := by decide
            simp only [pe, pn, d1, d2, d3, hm, q1, q2, few, Bool.not_true, Bool.not_false, bTF, bFT, bTT, bFF, br_tt, br_ff, true_and]
            exact stay
          · rw [if_neg c3] at pk
            have d3 : decide (((x.ws.length : Nat) : Int) < 12) = true := decide_eq_true (by omega)
            have pe : KeepPe (KeepTn fr x) ((fr + v) % 4294967296) v = 0 := by unfold KeepPe; rw [pk]
            have pn : KeepPn (KeepTn fr x) ((fr + v) % 4294967296) v = KeepTn fr ⟨x.g, x.d, x.i, x.ws ++ [v]⟩ := by unfold KeepPn; rw [pk]
            have q1 : decide ((0 : Int) = 1) = false := by decide
            have q2 : decide ((0 : Int) = 0) = true := by decide
            simp only [pe, pn, d1, d2, d3, hm, q1, q2, few, le1, Bool.not_true, Bool.not_false, bTF, bFT, bTT, bFF, br_tt, br_ff, true_and]
            exact ⟨⟨x.g, x.d, x.i + 1, x.ws ++ [v]⟩, tp v c1 c2 c3, dec, ⟨rfl, rfl, rfl, ei⟩, rfl, rfl, rfl⟩
      · rw [if_neg c1] at pk
        have pe : KeepPe (KeepTn fr x) ((fr + v) % 4294967296) v = 1 := by unfold KeepPe; rw [pk]
        have pn : KeepPn (KeepTn fr x) ((fr + v) % 4294967296) v = KeepTn fr x := by unfold KeepPn; rw [pk]
        have q1 : decide ((1 : Int) = 1) = true := by decide
        have q2 : decide ((1 : Int) = 0) = false := by decide
        by_cases c2 : (x.d : Int) ≤ v
        · have d1 : decide (v ≥ (x.d : Int)) = true := decide_eq_true c2
          have d2 : decide (v < (x.g : Int)) = false := decide_eq_false (by omega)
          simp only [pe, pn, d1, d2, q1, q2, few, Bool.not_true, Bool.not_false, bTF, bFT, bTT, bFF, br_tt, br_ff, true_and]
          exact stay
        · have d1 : decide (v ≥ (x.d : Int)) = false := decide_eq_false (by omega)
          simp only [pe, pn, d1, q1, q2, few, Bool.not_true, Bool.not_false, bTF, bFT, bTT, bFF, br_tt, br_ff, true_and]
          exact stay
    · refine ⟨hw', ?_⟩
      by_cases c1 : x.g = x.d
      · rw [if_pos c1] at ok
        have pe : KeepOe (KeepTn fr x) = 7 := by unfold KeepOe; rw [ok]
        have pn : KeepOn (KeepTn fr x) = KeepTn fr x := by unfold KeepOn; rw [ok]
        have d1 : decide ((x.d : Int) < x.g) = false := decide_eq_false (by omega)
        have q2 : decide ((7 : Int) = 0) = false := by decide
        simp only [pe, pn, d1, q2, Bool.not_true, Bool.not_false, bTF, bFT, bTT, bFF, br_tt, br_ff, true_and]
        exact stay
      · rw [if_neg c1] at ok
        have pe : KeepOe (KeepTn fr x) = 0 := by unfold KeepOe; rw [ok]
        have pn : KeepOn (KeepTn fr x) = KeepTn fr ⟨x.g, x.d + 1, x.i, x.ws.filter fun v => decide (v ≠ (x.d : Int))⟩ := by unfold KeepOn; rw [ok]
        have pt : KeepOt (KeepTn fr x) = if (x.d : Int) ∈ x.ws then (x.d : Int) else -1 := by unfold KeepOt; rw [ok]
        have d1 : decide ((x.d : Int) < x.g) = true := decide_eq_true (by omega)
        have q2 : decide ((0 : Int) = 0) = true := by decide
        have td : decide (IntKind.i32.wrap (((fr + x.d) % 4294967296 - (KeepTn fr ⟨x.g, x.d + 1, x.i, x.ws.filter fun v => decide (v ≠ (x.d : Int))⟩).td) % 4294967296) < 0) = true := by
          apply decide_eq_true
          show IntKind.i32.wrap (((fr + x.d) % 4294967296 - (fr + ((x.d + 1 : Nat) : Int)) % 4294967296) % 4294967296) < 0
          rw [IntKind.wrap_i32]; omega
        have next : ∃ x' : TX, KeepTI xs.length x' ∧ xs.length - x'.i < xs.length - x.i ∧ ((x'.g : Int) = x.g ∧ (x'.d : Int) = IntKind.i64.wrap ((x.d : Int) + 1) ∧ x'.ws = KeepWo x.ws x.d x.ws.length ∧ (x'.i : Int) = IntKind.i64.wrap ((x.i : Int) + 1)) ∧ (fr + x'.g) % 4294967296 = (KeepTn fr ⟨x.g, x.d + 1, x.i, x.ws.filter fun v => decide (v ≠ (x.d : Int))⟩).wt ∧ (fr + x'.d) % 4294967296 = (KeepTn fr ⟨x.g, x.d + 1, x.i, x.ws.filter fun v => decide (v ≠ (x.d : Int))⟩).td ∧ KeepLst fr x'.ws = (KeepTn fr ⟨x.g, x.d + 1, x.i, x.ws.filter fun v => decide (v ≠ (x.d : Int))⟩).ns :=
          ⟨⟨x.g, x.d + 1, x.i + 1, x.ws.filter fun v => decide (v ≠ (x.d : Int))⟩, to c1, dec, ⟨rfl, i64_nat (by omega), (wo_all _ _).symm, ei⟩, rfl, rfl, rfl⟩
        by_cases c2 : (x.d : Int) ∈ x.ws
        · rw [if_pos c2] at pt
          have hm : KeepMem x.ws x.d = true := decide_eq_true c2
          simp only [pe, pn, pt, hm, d1, q2, few, decide_true, Bool.not_true, Bool.not_false, bTF, bFT, bTT, bFF, br_tt, br_ff, true_and]
          exact br_n (by rw [td]; rfl) next
        · rw [if_neg c2] at pt
          have hm : KeepMem x.ws x.d = false := decide_eq_false c2
          have q3 : decide ((-1 : Int) = (x.d : Int)) = false := decide_eq_false (by omega)
          have q4 : decide ((-1 : Int) = -1) = true := by decide
          simp only [pe, pn, pt, hm, d1, q2, q3, q4, few, decide_true, Bool.not_true, Bool.not_false, bTF, bFT, bTT, bFF, br_tt, br_ff, true_and]
          exact br_n (by rw [td]; rfl) next
  · have hr := t_right (fr := fr) hx'
    have hw := t_ws (fr := fr) hx'
    have ak := t_all (fr := fr) hx'
    have hw' : KeepWs ⟨(fr + x.g) % 4294967296, (fr + x.d) % 4294967296, KeepLst fr x.ws⟩ := hw
    obtain ⟨h1, h2, h3, h4, h5, h6, h7⟩ := hx'
    have few : KeepFew x.ws := by unfold KeepFew; omega
    have a1 : KeepAe (KeepTn fr x) = 0 := by unfold KeepAe; rw [ak]
    have a2 : KeepAl (KeepTn fr x) = x.ws := by unfold KeepAl; rw [ak]
    have a3 : (KeepAn (KeepTn fr x)).td = (fr + x.g) % 4294967296 := by unfold KeepAn; rw [ak]
    simp only [hr, hw', few, a1, a2, a3, eq_refl', decide_true, br_tt, true_and]
theorem lawX {P : Program} {hk : Hooks} {xh : XHooks} {tab : List (Nat × CF)} {lh : LH} {m f : Nat} {args : List S} {W : World} {vals : List Value} (hm : ProgOK P) (ht : TabOK P tab) (hh : HookOK P hk) (hx : XHookOK P xh)
    (h : callX P hk xh tab lh m f args (fun s => s = .t (.c (.v (.bool true))))) (ha : All2 (DS g0 W) args vals) :
    Calls P f vals.toArray W fun e w' => e = .returned (.bool true) ∧ Below W.heap.size W w' :=
  ((callX_ok hm ht hh hx h).2 g0 W vals (g0_bound W) ha).mono fun e w' ⟨r, v, h1, h2, h3, h4⟩ => by
    subst h2
    have h3 : v = .bool true := h3
    subst h3
    exact ⟨h1, h4⟩
theorem turns_walk (W : World) (v1 : Value) (fr : Int) (xs : List Int) (h1 : DS g0 W (slB xs) v1) (hr : InR [.int .u8] xs) (h0 : inK (.int .u32) fr) :
    Calls Try.prog 5 #[.int .u32 fr, v1] W fun e w' => e = .returned (.bool true) ∧ Below W.heap.size W w' :=
  lawX (vals := [.int .u32 fr, v1]) (m := 10) (args := [uS fr, slB xs]) mixed tab_ok hkTn_ok xhT_ok (turns_law (in32 h0) fun k hk => by
    have := hr k _ (List.getElem?_eq_getElem hk)
    have e : kAt [CK.int .u8] k = .int .u8 := by simp [kAt, Nat.mod_one]
    rw [e] at this
    have := in8 this
    simpa [gI, List.getD_eq_getElem?_getD, List.getElem?_eq_getElem hk] using this) ⟨rfl, h1, trivial⟩
end Go.Proofs.Ytgoigcnibjcjpaa
