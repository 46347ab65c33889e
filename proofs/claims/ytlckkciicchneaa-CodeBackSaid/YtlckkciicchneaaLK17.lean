/- The bytes of a program: what is written is read, cut it ends too early, what is read has just its bytes. No condition. -/
import Derived.Test.YtlckkciicchneaaHKa
import Derived.Test.YtlckkciicchneaaHKc
import Derived.Test.YtlckkciicchneaaRK12
import Derived.Test.YtlckkciicchneaaSyU
section
namespace Go.Proofs.Ytlckkciicchneaa
open SY
open Go.RowKit
set_option linter.unusedVariables false
set_option linter.unusedSimpArgs false
/-- Numbers behind numbers. -/
theorem ms_add {b : List Int} {a c : Int} {j : Nat} {l : List Int} (h : KeepMs b a j = (c, l, 0)) : ∀ k, KeepMs b a (j + k) = if (KeepMs b c k).2.2 ≠ 0 then KeepMs b c k else ((KeepMs b c k).1, l ++ (KeepMs b c k).2.1, 0)
  | 0 => by rw [if_neg (by simp [KeepMs])]; simp [KeepMs, h]
  | k + 1 => by
    have ih := ms_add h k
    show KeepMs b a (j + k + 1) = _
    rw [ms_succ, ih]
    by_cases c1 : (KeepMs b c k).2.2 ≠ 0
    · rw [if_pos c1, if_pos c1]
      have := ms_err c1 1
      rw [this, if_pos c1]
    · rw [if_neg c1]
      rw [if_neg (show ¬ ((0 : Int) ≠ 0) by simp)]
      by_cases c2 : V.KeepRe b (KeepMs b c k).1 ≠ 0
      · have st : KeepMs b c (k + 1) = (0, [], V.KeepRe b (KeepMs b c k).1) := by rw [ms_succ, if_neg c1, if_pos c2]
        rw [st, if_pos c2, if_pos (by exact c2)]
      · have st : KeepMs b c (k + 1) = (V.KeepRn b (KeepMs b c k).1, (KeepMs b c k).2.1 ++ [V.KeepZag (V.KeepRx b (KeepMs b c k).1)], 0) := by rw [ms_succ, if_neg c1, if_neg c2]
        rw [st, if_neg c2, if_neg (by simp)]
        simp [List.append_assoc]
theorem ms_add_ok {b : List Int} {a c d : Int} {j k : Nat} {l m : List Int} (h : KeepMs b a j = (c, l, 0)) (h' : KeepMs b c k = (d, m, 0)) : KeepMs b a (j + k) = (d, l ++ m, 0) := by
  rw [ms_add h, h', if_neg (by simp)]
theorem ms_add_bad {b : List Int} {a c : Int} {j k : Nat} {l : List Int} (h : KeepMs b a j = (c, l, 0)) (h' : (KeepMs b c k).2.2 ≠ 0) : (KeepMs b a (j + k)).2.2 = (KeepMs b c k).2.2 := by
  rw [ms_add h, if_pos h']
theorem drop_pre (pre l : List Int) : (pre ++ l).drop ((pre.length : Int)).toNat = l := by simp
/-- One number of its bytes. -/
theorem one_enc {v : Int} (hv : V.KeepI v) (pre post : List Int) : V.KeepRe (pre ++ (V.KeepVb (V.KeepZig v) ++ post)) pre.length = 0 ∧ V.KeepRn (pre ++ (V.KeepVb (V.KeepZig v) ++ post)) pre.length = ((pre ++ V.KeepVb (V.KeepZig v)).length : Int) ∧ V.KeepZag (V.KeepRx (pre ++ (V.KeepVb (V.KeepZig v) ++ post)) pre.length) = v := by
  have hz := V.zig_u hv
  have hc : ¬ ((pre.length : Int) < 0 ∨ (pre.length : Int) > ((pre ++ (V.KeepVb (V.KeepZig v) ++ post)).length : Int)) := by simp only [List.length_append]; omega
  have hr := V.rv_vb hz post
  have he : V.KeepRe (pre ++ (V.KeepVb (V.KeepZig v) ++ post)) pre.length = 0 := by
    unfold V.KeepRe
    rw [if_neg hc, drop_pre, hr]
  refine ⟨he, ?_, ?_⟩
  · unfold V.KeepRn
    rw [if_pos he, drop_pre, hr]
    simp
  · unfold V.KeepRx
    rw [if_neg hc, drop_pre, hr]
    exact V.zag_zig hv
theorem ef_cons (v : Int) (r : List Int) : KeepEf (v :: r) = V.KeepVb (V.KeepZig v) ++ KeepEf r := by
  have := ef_app [v] r
  rwa [ef_one] at this
theorem ms_enc : ∀ (ns pre post : List Int), (∀ v, v ∈ ns → V.KeepI v) → KeepMs (pre ++ (KeepEf ns ++ post)) pre.length ns.length = (((pre ++ KeepEf ns).length : Int), ns, 0)
  | [], pre, post, _ => by simp [KeepMs, KeepEf]
  | v :: r, pre, post, h => by
    have hv := h v (by simp)
    obtain ⟨e1, e2, e3⟩ := one_enc hv pre (KeepEf r ++ post)
    have ih := ms_enc r (pre ++ V.KeepVb (V.KeepZig v)) post (fun u hu => h u (by simp [hu]))
    have ee : pre ++ (KeepEf (v :: r) ++ post) = pre ++ (V.KeepVb (V.KeepZig v) ++ (KeepEf r ++ post)) := by rw [ef_cons, List.append_assoc]
    have ee2 : (pre ++ V.KeepVb (V.KeepZig v)) ++ (KeepEf r ++ post) = pre ++ (V.KeepVb (V.KeepZig v) ++ (KeepEf r ++ post)) := by rw [List.append_assoc]
    rw [ee2] at ih
    rw [ee]
    have o : KeepMs (pre ++ (V.KeepVb (V.KeepZig v) ++ (KeepEf r ++ post))) pre.length 1 = (((pre ++ V.KeepVb (V.KeepZig v)).length : Int), [v], 0) := by
      rw [ms_one, if_neg (by simp [e1]), e2, e3]
    have := ms_add_ok o ih
    rw [show (v :: r).length = 1 + r.length by simp; omega, this, ef_cons, List.append_assoc]
    rfl
/-- Cut anywhere it ends too early. -/
theorem one_cut {v : Int} (pre : List Int) {j : Nat} (hj : j < (V.KeepVb (V.KeepZig v)).length) : V.KeepRe (pre ++ (V.KeepVb (V.KeepZig v)).take j) pre.length = 2 := by
  have hc : ¬ ((pre.length : Int) < 0 ∨ (pre.length : Int) > ((pre ++ (V.KeepVb (V.KeepZig v)).take j).length : Int)) := by simp only [List.length_append]; omega
  have hr := V.rv_cut 9 0 (V.KeepZig v) 0 j rfl hj
  unfold V.KeepRe
  rw [if_neg hc, drop_pre]
  unfold V.KeepVb
  rw [hr]
theorem ms_cut : ∀ (ns pre : List Int) (j : Nat), (∀ v, v ∈ ns → V.KeepI v) → j < (KeepEf ns).length → (KeepMs (pre ++ (KeepEf ns).take j) pre.length ns.length).2.2 = 2
  | [], pre, j, _, hj => by simp [KeepEf] at hj
  | v :: r, pre, j, h, hj => by
    have hv := h v (by simp)
    rw [ef_cons] at hj ⊢
    rw [show (v :: r).length = 1 + r.length by simp; omega]
    by_cases c : j < (V.KeepVb (V.KeepZig v)).length
    · rw [List.take_append_of_le_length (by omega)]
      have e := one_cut (v := v) pre c
      have o : KeepMs (pre ++ (V.KeepVb (V.KeepZig v)).take j) pre.length 1 = (0, [], 2) := by rw [ms_one, if_pos (by rw [e]; decide), e]
      rw [ms_err (by rw [o]; decide), o]
    · have c : (V.KeepVb (V.KeepZig v)).length ≤ j := by omega
      rw [List.take_append, List.take_of_length_le c]
      rw [List.length_append] at hj
      have ih := ms_cut r (pre ++ V.KeepVb (V.KeepZig v)) (j - (V.KeepVb (V.KeepZig v)).length) (fun u hu => h u (by simp [hu])) (by omega)
      rw [List.append_assoc] at ih
      obtain ⟨e1, e2, e3⟩ := one_enc hv pre ((KeepEf r).take (j - (V.KeepVb (V.KeepZig v)).length))
      have o : KeepMs (pre ++ (V.KeepVb (V.KeepZig v) ++ (KeepEf r).take (j - (V.KeepVb (V.KeepZig v)).length))) pre.length 1 = (((pre ++ V.KeepVb (V.KeepZig v)).length : Int), [v], 0) := by
        rw [ms_one, if_neg (by simp [e1]), e2, e3]
      rw [ms_add_bad o (by rw [ih]; decide), ih]
/-- What is read has just its bytes. -/
theorem one_dec {b : List Int} (hb : V.KeepBy b) {a : Nat} (ha : a ≤ b.length) (h : V.KeepRe b a = 0) : V.KeepI (V.KeepZag (V.KeepRx b a)) ∧ ∃ n : Nat, V.KeepRn b a = n ∧ n ≤ b.length ∧ b.drop a = V.KeepVb (V.KeepZig (V.KeepZag (V.KeepRx b a))) ++ b.drop n ∧ a ≤ n := by
  have hu := V.rx_u b a hb
  have hc : ¬ ((a : Int) < 0 ∨ (a : Int) > (b.length : Int)) := by omega
  refine ⟨V.zag_i hu, ?_⟩
  rw [V.zig_zag hu]
  rcases hR : V.rv 0 0 (b.drop a) with ⟨z, n, e⟩
  have he : e = 0 := by
    unfold V.KeepRe at h
    rw [if_neg hc, Int.toNat_natCast, hR] at h
    exact h
  subst he
  obtain ⟨y, y0, y1, y2, y3, y4, _⟩ := V.rv_short _ 0 9 0 z n (V.by_drop hb a) rfl hR
  have hx : V.KeepRx b a = y := by
    unfold V.KeepRx
    rw [if_neg hc, Int.toNat_natCast, hR]
    simp at y1
    exact y1
  have hn : V.KeepRn b a = a + n := by
    unfold V.KeepRn
    rw [if_pos h, Int.toNat_natCast, hR]
  rw [hx]
  have hl : (V.KeepVb y).length ≤ (b.drop a).length := y3
  rw [List.length_drop] at hl
  have y2' : n = ((V.KeepVb y).length : Int) := by rw [y2]; simp [V.KeepVb]
  refine ⟨a + (V.KeepVb y).length, by rw [hn, y2']; omega, by omega, ?_, by omega⟩
  have y4 : (b.drop a).take (V.KeepVb y).length = V.KeepVb y := y4
  have := List.take_append_drop (V.KeepVb y).length (b.drop a)
  rw [y4, List.drop_drop] at this
  exact this.symm
theorem ms_dec {b : List Int} (hb : V.KeepBy b) {a : Nat} (ha : a ≤ b.length) : ∀ (k : Nat) (c : Int) (l : List Int), KeepMs b a k = (c, l, 0) → (∀ v, v ∈ l → V.KeepI v) ∧ ∃ n : Nat, c = n ∧ n ≤ b.length ∧ b.drop a = KeepEf l ++ b.drop n ∧ a ≤ n
  | 0, c, l, h => by
    have h : ((a : Int), ([] : List Int), (0 : Int)) = (c, l, 0) := h
    obtain ⟨rfl, rfl⟩ : (a : Int) = c ∧ l = [] := by simp at h; exact h
    exact ⟨fun v hv => (by cases hv), a, rfl, ha, by simp [KeepEf], Nat.le_refl _⟩
  | k + 1, c, l, h => by
    rw [ms_succ] at h
    by_cases c1 : (KeepMs b a k).2.2 ≠ 0
    · rw [if_pos c1] at h; rw [h] at c1; exact absurd rfl c1
    · rw [if_neg c1] at h
      by_cases c2 : V.KeepRe b (KeepMs b a k).1 ≠ 0
      · rw [if_pos c2] at h
        have : V.KeepRe b (KeepMs b a k).1 = 0 := by simp at h; exact h.2.2
        exact absurd this c2
      · rw [if_neg c2] at h
        obtain ⟨i1, n, i2, i3, i4, i5⟩ := ms_dec hb ha k (KeepMs b a k).1 (KeepMs b a k).2.1 (by
          have := Decidable.not_not.1 c1
          rcases hq : KeepMs b a k with ⟨x, y, z⟩
          rw [hq] at this
          simp at this ⊢
          exact this)
        rw [i2] at h c2
        obtain ⟨o1, m, o2, o3, o4, o5⟩ := one_dec hb i3 (Decidable.not_not.1 c2)
        rw [o2] at h
        obtain ⟨rfl, rfl⟩ : (m : Int) = c ∧ (KeepMs b a k).2.1 ++ [V.KeepZag (V.KeepRx b n)] = l := by
          simp at h
          exact h
        refine ⟨fun v hv => ?_, m, rfl, o3, ?_, by omega⟩
        · rcases List.mem_append.1 hv with hv | hv
          · exact i1 v hv
          · rw [List.mem_singleton.1 hv]; exact o1
        · rw [i4, o4, ef_app, ef_one, List.append_assoc]
end Go.Proofs.Ytlckkciicchneaa
end
section
namespace Go.Proofs.Ytlckkciicchneaa
open SY
open Go.RowKit
set_option linter.unusedVariables false
set_option linter.unusedSimpArgs false
theorem g_app {o r : List Int} {k : Nat} (h : k < o.length) : gI (o ++ r) k = gI o k := by unfold gI; simp only [List.getD_eq_getElem?_getD]; rw [List.getElem?_append_left h]
theorem g_end {o : List Int} {k : Nat} {x : Int} (h : k = o.length) : gI (o ++ [x]) k = x := by subst h; unfold gI; simp
theorem g_ev (o : List Int) : ∀ (M j : Nat), j < M → gI (KeepEv o M) j = gI o (2 * j) ∧ gI (KeepOdd o M) j = gI o (2 * j + 1)
  | 0, j, h => by omega
  | M + 1, j, h => by
    by_cases e : j < M
    · obtain ⟨i1, i2⟩ := g_ev o M j e
      refine ⟨?_, ?_⟩
      · show gI (KeepEv o M ++ _) j = _; rw [g_app (by rw [ev_len]; exact e), i1]
      · show gI (KeepOdd o M ++ _) j = _; rw [g_app (by rw [odd_len]; exact e), i2]
    · obtain rfl : j = M := by omega
      exact ⟨g_end (ev_len o j).symm, g_end (odd_len o j).symm⟩
theorem take_two {o : List Int} {k : Nat} (h : 2 * k + 1 < o.length) : o.take (2 * (k + 1)) = o.take (2 * k) ++ [gI o (2 * k), gI o (2 * k + 1)] := by
  rw [show 2 * (k + 1) = 2 * k + 1 + 1 by omega, ← List.take_append_getElem (show 2 * k + 1 < o.length by omega), ← List.take_append_getElem (show 2 * k < o.length by omega), List.append_assoc]
  simp [gI, List.getElem?_eq_getElem (show 2 * k + 1 < o.length by omega), List.getElem?_eq_getElem (show 2 * k < o.length by omega)]
theorem it_ev {o : List Int} {M : Nat} (hM : 2 * M ≤ o.length) : ∀ k, k ≤ M → KeepIt (KeepEv o M) (KeepOdd o M) k = o.take (2 * k)
  | 0, _ => by simp [KeepIt]
  | k + 1, h => by
    show KeepIt (KeepEv o M) (KeepOdd o M) k ++ [gI (KeepEv o M) k, gI (KeepOdd o M) k] = _
    rw [it_ev hM k (by omega), (g_ev o M k (by omega)).1, (g_ev o M k (by omega)).2, take_two (by omega)]
theorem ev_it (ks sz : List Int) : ∀ k, k ≤ ks.length → k ≤ sz.length → KeepEv (KeepIt ks sz k) k = ks.take k ∧ KeepOdd (KeepIt ks sz k) k = sz.take k
  | 0, _, _ => by simp [KeepEv, KeepOdd]
  | k + 1, h1, h2 => by
    obtain ⟨i1, i2⟩ := ev_it ks sz k (by omega) (by omega)
    obtain ⟨e1, e2⟩ := ev_push (o := KeepIt ks sz k) (k := k) (x := gI ks k) (y := gI sz k) (it_len ks sz k)
    have ee : KeepIt ks sz (k + 1) = KeepIt ks sz k ++ [gI ks k] ++ [gI sz k] := by rw [List.append_assoc]; rfl
    rw [ee, e1, e2, i1, i2, ← List.take_append_getElem (show k < ks.length by omega), ← List.take_append_getElem (show k < sz.length by omega)]
    simp [gI, List.getElem?_eq_getElem (show k < ks.length by omega), List.getElem?_eq_getElem (show k < sz.length by omega)]
/-- A count of its bytes. -/
theorem cnt_enc {v m : Int} (h0 : 0 ≤ v) (hm : v ≤ m) (h60 : m ≤ 60) (pre post : List Int) : KeepCn (pre ++ (KeepEf [v] ++ post)) pre.length m = 0 ∧ V.KeepRn (pre ++ (KeepEf [v] ++ post)) pre.length = ((pre ++ KeepEf [v]).length : Int) ∧ V.KeepZag (V.KeepRx (pre ++ (KeepEf [v] ++ post)) pre.length) = v := by
  rw [ef_one]
  obtain ⟨e1, e2, e3⟩ := one_enc (v := v) (by unfold V.KeepI; omega) pre post
  refine ⟨?_, e2, e3⟩
  unfold KeepCn
  rw [e1, if_neg (by simp), e3, if_neg (by omega)]
theorem cnt_cut {v m : Int} (h0 : 0 ≤ v) (hm : v ≤ m) (h60 : m ≤ 60) (pre : List Int) {j : Nat} (hj : j < (KeepEf [v]).length) : KeepCn (pre ++ (KeepEf [v]).take j) pre.length m = 2 := by
  rw [ef_one] at hj ⊢
  have := one_cut (v := v) pre hj
  unfold KeepCn
  rw [this, if_pos (by decide)]
/-- The first part of a program's bytes: a count, and so many numbers. -/
theorem ct_enc {v m k : Int} {l : List Int} (h0 : 0 ≤ v) (hm : v ≤ m) (h60 : m ≤ 60) (hl : v * k = l.length) (hr : ∀ x, x ∈ l → V.KeepI x) (pre post : List Int) :
    KeepCl (pre ++ (KeepEf ([v] ++ l) ++ post)) pre.length m k = l ∧ KeepCc (pre ++ (KeepEf ([v] ++ l) ++ post)) pre.length m k = ((pre ++ KeepEf ([v] ++ l)).length : Int) ∧ KeepCe (pre ++ (KeepEf ([v] ++ l) ++ post)) pre.length m k = 0 := by
  obtain ⟨c1, c2, c3⟩ := cnt_enc h0 hm h60 pre (KeepEf l ++ post)
  have ms := ms_enc l (pre ++ KeepEf [v]) post hr
  rw [List.append_assoc] at ms
  rw [ef_app, List.append_assoc]
  obtain ⟨e1, e2, e3⟩ := ct_ok (n := k) c1
  rw [c2, c3, hl] at e1 e2 e3
  obtain ⟨f1, f2, f3⟩ := ms_at ms (n := (l.length : Int)) (by simp)
  exact ⟨e1.trans f1, by rw [e2, f2, List.append_assoc], e3.trans f3⟩
theorem ct_cut {v m k : Int} {l : List Int} (h0 : 0 ≤ v) (hm : v ≤ m) (h60 : m ≤ 60) (hl : v * k = l.length) (hr : ∀ x, x ∈ l → V.KeepI x) (pre : List Int) {j : Nat} (hj : j < (KeepEf ([v] ++ l)).length) : KeepCe (pre ++ (KeepEf ([v] ++ l)).take j) pre.length m k = 2 := by
  rw [ef_app] at hj ⊢
  by_cases c : j < (KeepEf [v]).length
  · rw [List.take_append_of_le_length (by omega)]
    have := cnt_cut h0 hm h60 pre c
    rw [ce_bad (by rw [this]; decide), this]
  · rw [List.take_append, List.take_of_length_le (by omega)]
    rw [List.length_append] at hj
    obtain ⟨c1, c2, c3⟩ := cnt_enc h0 hm h60 pre ((KeepEf l).take (j - (KeepEf [v]).length))
    have ms := ms_cut l (pre ++ KeepEf [v]) (j - (KeepEf [v]).length) hr (by omega)
    rw [List.append_assoc] at ms
    rw [(ct_ok (n := k) c1).2.2, c2, c3, hl]
    exact ms
theorem nu_parts (p : PF) : KeepEf (KeepNu p) = KeepEf ([((p.cd.length / 4 : Nat) : Int)] ++ p.cd) ++ (KeepEf ([(p.ks.length : Int)] ++ KeepIt p.ks p.sz p.ks.length) ++ KeepEf [p.cl, p.rc, p.pt]) := by
  unfold KeepNu
  rw [← ef_app, ← ef_app]
  simp [List.append_assoc]
structure Good (p : PF) : Prop where
  rt : KeepRt p = true
  ps : KeepPs p
theorem Good.facts {p : PF} (h : Good p) : p.cd.length = 4 * (p.cd.length / 4) ∧ p.cd.length / 4 ≤ 60 ∧ p.ks.length ≤ 8 ∧ p.sz.length = p.ks.length ∧ (∀ x, x ∈ p.cd → V.KeepI x) ∧ (∀ x, x ∈ KeepIt p.ks p.sz p.ks.length → V.KeepI x) ∧ (∀ x, x ∈ [p.cl, p.rc, p.pt] → V.KeepI x) := by
  obtain ⟨r1, r2, r3, r4, _⟩ := rt_iff.1 h.rt
  have hob : p.ks.length ≤ 8 ∧ p.sz.length = p.ks.length := by
    unfold KeepOb at r3
    simp only [Bool.and_eq_true, decide_eq_true_eq] at r3
    exact ⟨r3.1, r3.2.1⟩
  have hn := nu_range h.ps hob.2
  unfold KeepNu at hn
  have h4 := h.ps.1
  exact ⟨by omega, r2, hob.1, hob.2, fun x hx => hn x (by simp [hx]), fun x hx => hn x (by simp [hx]), fun x hx => hn x (by simp at hx ⊢; omega)⟩
/-- What is written is read as it was. -/
theorem rd_enc {p : PF} (h : Good p) (a b : List Int) : KeepRd (a ++ (KeepEf (KeepNu p) ++ b)) a.length = (p, ((a ++ KeepEf (KeepNu p)).length : Int), 0) := by
  obtain ⟨q1, q2, q3, q4, r1, r2, r3⟩ := h.facts
  have hc : ¬ ((a.length : Int) < 0 ∨ (a.length : Int) > ((a ++ (KeepEf (KeepNu p) ++ b)).length : Int)) := by simp only [List.length_append]; omega
  rw [nu_parts] at hc ⊢
  obtain ⟨A, hA⟩ : ∃ A, KeepEf ([((p.cd.length / 4 : Nat) : Int)] ++ p.cd) = A := ⟨_, rfl⟩
  obtain ⟨B, hB⟩ : ∃ B, KeepEf ([(p.ks.length : Int)] ++ KeepIt p.ks p.sz p.ks.length) = B := ⟨_, rfl⟩
  obtain ⟨C, hC⟩ : ∃ C, KeepEf [p.cl, p.rc, p.pt] = C := ⟨_, rfl⟩
  have il := it_len p.ks p.sz p.ks.length
  obtain ⟨a1, a2, a3⟩ := ct_enc (v := ((p.cd.length / 4 : Nat) : Int)) (m := 60) (k := 4) (l := p.cd) (by omega) (by omega) (by omega) (by omega) r1 a (B ++ C ++ b)
  obtain ⟨b1, b2, b3⟩ := ct_enc (v := (p.ks.length : Int)) (m := 8) (k := 2) (l := KeepIt p.ks p.sz p.ks.length) (by omega) (by omega) (by omega) (by omega) r2 (a ++ A) (C ++ b)
  have ms := ms_enc [p.cl, p.rc, p.pt] (a ++ A ++ B) b r3
  rw [hA] at a1 a2 a3
  rw [hB] at b1 b2 b3
  rw [hC] at ms
  rw [hA, hB, hC] at hc ⊢
  have w : a ++ (A ++ (B ++ C) ++ b) = a ++ (A ++ (B ++ C ++ b)) := by simp [List.append_assoc]
  have w1 : a ++ A ++ (B ++ (C ++ b)) = a ++ (A ++ (B ++ C ++ b)) := by simp [List.append_assoc]
  have w2 : a ++ A ++ B ++ (C ++ b) = a ++ (A ++ (B ++ C ++ b)) := by simp [List.append_assoc]
  rw [w1] at b1 b2 b3
  rw [w2] at ms
  rw [w] at hc ⊢
  have ms : KeepMs (a ++ (A ++ (B ++ C ++ b))) (((a ++ A ++ B).length : Nat) : Int) 3 = (((a ++ A ++ B ++ C).length : Int), [p.cl, p.rc, p.pt], 0) := ms
  have e1 : KeepCl (a ++ (A ++ (B ++ C ++ b))) (KeepCc (a ++ (A ++ (B ++ C ++ b))) a.length 60 4) 8 2 = KeepIt p.ks p.sz p.ks.length := by rw [a2]; exact b1
  have e2 : KeepMs (a ++ (A ++ (B ++ C ++ b))) (KeepCc (a ++ (A ++ (B ++ C ++ b))) (KeepCc (a ++ (A ++ (B ++ C ++ b))) a.length 60 4) 8 2) 3 = (((a ++ A ++ B ++ C).length : Int), [p.cl, p.rc, p.pt], 0) := by rw [a2, b2]; exact ms
  have hpe := pe_end a2 a3 b2 b3 ms
  rw [rd_ok hc hpe e1 e2 (by rw [a1]; exact q1), a1, il]
  obtain ⟨v1, v2⟩ := ev_it p.ks p.sz p.ks.length (Nat.le_refl _) (by omega)
  rw [show 2 * p.ks.length / 2 = p.ks.length by omega, v1, v2, List.take_of_length_le (Nat.le_refl _), List.take_of_length_le (by omega)]
  have hp : (⟨p.cd, p.ks, p.sz, gI [p.cl, p.rc, p.pt] 0, gI [p.cl, p.rc, p.pt] 1, gI [p.cl, p.rc, p.pt] 2⟩ : PF) = p := rfl
  rw [hp, h.rt]
  simp [List.append_assoc]
/-- Cut anywhere it ends too early. -/
theorem rd_cut {p : PF} (h : Good p) (a : List Int) {j : Nat} (hj : j < (KeepEf (KeepNu p)).length) : (KeepRd (a ++ (KeepEf (KeepNu p)).take j) a.length).2.2 = 2 := by
  obtain ⟨q1, q2, q3, q4, r1, r2, r3⟩ := h.facts
  have hc : ¬ ((a.length : Int) < 0 ∨ (a.length : Int) > ((a ++ (KeepEf (KeepNu p)).take j).length : Int)) := by simp only [List.length_append]; omega
  suffices he : KeepPe (a ++ (KeepEf (KeepNu p)).take j) a.length = 2 by rw [rd_bad hc (by rw [he]; decide), he]
  clear hc
  rw [nu_parts] at hj ⊢
  have il := it_len p.ks p.sz p.ks.length
  have k1 : ((p.cd.length / 4 : Nat) : Int) * 4 = (p.cd.length : Int) := by omega
  have k2 : (p.ks.length : Int) * 2 = ((KeepIt p.ks p.sz p.ks.length).length : Int) := by omega
  by_cases c1 : j < (KeepEf ([((p.cd.length / 4 : Nat) : Int)] ++ p.cd)).length
  · rw [List.take_append_of_le_length (by omega)]
    have := ct_cut (m := 60) (k := 4) (by omega) (by omega) (by omega) k1 r1 a c1
    unfold KeepPe
    rw [this, if_pos (by decide)]
  · rw [List.take_append, List.take_of_length_le (by omega)]
    rw [List.length_append] at hj
    obtain ⟨j1, hj1⟩ : ∃ j1, j - (KeepEf ([((p.cd.length / 4 : Nat) : Int)] ++ p.cd)).length = j1 := ⟨_, rfl⟩
    rw [hj1]
    obtain ⟨a1, a2, a3⟩ := ct_enc (m := 60) (k := 4) (by omega) (by omega) (by omega) k1 r1 a ((KeepEf ([(p.ks.length : Int)] ++ KeepIt p.ks p.sz p.ks.length) ++ KeepEf [p.cl, p.rc, p.pt]).take j1)
    obtain ⟨A, hA⟩ : ∃ A, KeepEf ([((p.cd.length / 4 : Nat) : Int)] ++ p.cd) = A := ⟨_, rfl⟩
    rw [hA] at a1 a2 a3 hj hj1 c1 ⊢
    by_cases c2 : j1 < (KeepEf ([(p.ks.length : Int)] ++ KeepIt p.ks p.sz p.ks.length)).length
    · rw [List.take_append_of_le_length (by omega)] at a1 a2 a3 ⊢
      have := ct_cut (m := 8) (k := 2) (by omega) (by omega) (by omega) k2 r2 (a ++ A) c2
      rw [List.append_assoc] at this
      unfold KeepPe
      rw [a3, if_neg (by decide), a2, this, if_pos (by decide)]
    · rw [List.take_append, List.take_of_length_le (by omega)] at a1 a2 a3 ⊢
      rw [List.length_append] at hj
      obtain ⟨j2, hj2⟩ : ∃ j2, j1 - (KeepEf ([(p.ks.length : Int)] ++ KeepIt p.ks p.sz p.ks.length)).length = j2 := ⟨_, rfl⟩
      rw [hj2] at a1 a2 a3 ⊢
      obtain ⟨b1, b2, b3⟩ := ct_enc (m := 8) (k := 2) (by omega) (by omega) (by omega) k2 r2 (a ++ A) ((KeepEf [p.cl, p.rc, p.pt]).take j2)
      obtain ⟨B, hB⟩ : ∃ B, KeepEf ([(p.ks.length : Int)] ++ KeepIt p.ks p.sz p.ks.length) = B := ⟨_, rfl⟩
      rw [hB] at a1 a2 a3 b1 b2 b3 hj hj2 c2 ⊢
      have ms := ms_cut [p.cl, p.rc, p.pt] (a ++ A ++ B) j2 r3 (by omega)
      rw [List.append_assoc, List.append_assoc] at ms
      rw [List.append_assoc] at b1 b2 b3
      have ms : KeepMe (a ++ (A ++ (B ++ (KeepEf [p.cl, p.rc, p.pt]).take j2))) (((a ++ A ++ B).length : Nat) : Int) 3 = 2 := ms
      unfold KeepPe
      rw [a3, if_neg (by decide), a2, b3, if_neg (by decide), b2, ms]
end Go.Proofs.Ytlckkciicchneaa
end
section
namespace Go.Proofs.Ytlckkciicchneaa
open SY
open Go.RowKit
set_option linter.unusedVariables false
set_option linter.unusedSimpArgs false
theorem g_all {l : List Int} {f : Int → Prop} (h : ∀ x, x ∈ l → f x) {k : Nat} (hk : k < l.length) : f (gI l k) := by
  have : gI l k = l[k] := by simp [gI, hk]
  rw [this]; exact h _ (List.getElem_mem hk)
theorem ct_dec {b : List Int} (hb : V.KeepBy b) {a : Nat} (ha : a ≤ b.length) {m k : Int} (hm : m ≤ 60) (hk0 : 0 ≤ k) (h : KeepCe b a m k = 0) :
    ∃ (v : Nat) (l : List Int) (n : Nat), (v : Int) ≤ m ∧ KeepCl b a m k = l ∧ KeepCc b a m k = n ∧ n ≤ b.length ∧ (l.length : Int) = v * k ∧ (∀ x, x ∈ l → V.KeepI x) ∧ b.drop a = KeepEf ([(v : Int)] ++ l) ++ b.drop n := by
  have hc : KeepCn b a m = 0 := by
    refine Decidable.byContradiction fun hn => ?_
    rw [ce_bad hn] at h
    exact hn h
  obtain ⟨h1, h2, h3⟩ := cn_ok hc
  obtain ⟨o1, a1, o2, o3, o4, o5⟩ := one_dec hb ha h1
  obtain ⟨e1, e2, e3⟩ := ct_ok (n := k) hc
  obtain ⟨v, hv⟩ : ∃ v : Nat, V.KeepZag (V.KeepRx b a) = v := ⟨(V.KeepZag (V.KeepRx b a)).toNat, by omega⟩
  rw [hv] at h3 o4 e1 e2 e3
  rw [o2] at e1 e2 e3
  rw [h] at e3
  rcases hq : KeepMs b a1 ((v : Int) * k).toNat with ⟨c, l, z⟩
  have hz : z = 0 := by
    have : KeepMe b a1 ((v : Int) * k) = z := by unfold KeepMe; rw [hq]
    rw [← this, ← e3]
  subst hz
  obtain ⟨f1, f2, f3⟩ := ms_at hq (n := (v : Int) * k) rfl
  obtain ⟨d1, n, rfl, d3, d4, d5⟩ := ms_dec hb o3 _ c l hq
  have hl := ms_len0 hq
  have hpos : 0 ≤ (v : Int) * k := Int.mul_nonneg (by omega) hk0
  refine ⟨v, l, n, h3, e1.trans f1, e2.trans f2, d3, by omega, d1, ?_⟩
  rw [o4, d4, ef_app, ef_one, List.append_assoc]
theorem rd_dec {b : List Int} (hb : V.KeepBy b) (h : (KeepRd b 0).2.2 = 0) : Good (KeepRd b 0).1 ∧ ∃ m : Nat, (KeepRd b 0).2.1 = m ∧ m ≤ b.length ∧ b.take m = KeepEf (KeepNu (KeepRd b 0).1) := by
  have hc : ¬ ((0 : Int) < 0 ∨ (0 : Int) > (b.length : Int)) := by omega
  have he : KeepPe b 0 = 0 := by
    refine Decidable.byContradiction fun hn => ?_
    rw [rd_bad hc hn] at h
    exact hn h
  have he' := he
  unfold KeepPe at he'
  by_cases c1 : KeepCe b 0 60 4 ≠ 0
  · rw [if_pos c1] at he'; exact absurd he' c1
  rw [if_neg c1] at he'
  have c1 := Decidable.not_not.1 c1
  by_cases c2 : KeepCe b (KeepCc b 0 60 4) 8 2 ≠ 0
  · rw [if_pos c2] at he'; exact absurd he' c2
  rw [if_neg c2] at he'
  have c2 := Decidable.not_not.1 c2
  obtain ⟨v, l, n2, a1, a2, a3, a4, a5, a6, a7⟩ := ct_dec hb (a := 0) (Nat.zero_le _) (by decide) (by decide) c1
  have a2 : KeepCl b 0 60 4 = l := a2
  have a3 : KeepCc b 0 60 4 = n2 := a3
  rw [a3] at c2 he'
  obtain ⟨w, o, n4, b1, b2, b3, b4, b5, b6, b7⟩ := ct_dec hb a4 (by decide) (by decide) c2
  rw [b3] at he'
  rcases hq : KeepMs b n4 3 with ⟨c, r, z⟩
  have hz : z = 0 := by
    have : KeepMe b n4 3 = z := by show (KeepMs b n4 3).2.2 = z; rw [hq]
    rw [← this, he']
  subst hz
  obtain ⟨d1, m, rfl, d3, d4, d5⟩ := ms_dec hb b4 _ c r hq
  have lr := ms_len0 hq
  have ho : KeepCl b (KeepCc b 0 60 4) 8 2 = o := by rw [a3]; exact b2
  have hm : KeepMs b (KeepCc b (KeepCc b 0 60 4) 8 2) 3 = ((m : Int), r, 0) := by rw [a3, b3]; exact hq
  have hl : (KeepCl b 0 60 4).length = 4 * v := by rw [a2]; omega
  have hrd := rd_ok hc he ho hm hl
  rw [a2] at hrd hl
  obtain ⟨q, hqq⟩ : ∃ q : PF, (⟨l, KeepEv o (o.length / 2), KeepOdd o (o.length / 2), gI r 0, gI r 1, gI r 2⟩ : PF) = q := ⟨_, rfl⟩
  rw [hqq] at hrd
  by_cases hrt : KeepRt q = false
  · rw [if_pos hrt] at hrd
    rw [hrd] at h
    cases h
  rw [if_neg hrt] at hrd
  have hrt : KeepRt q = true := by simpa using hrt
  rw [hrd]
  have hw : o.length / 2 = w := by omega
  subst hqq
  refine ⟨⟨hrt, ⟨by show l.length % 4 = 0; omega, by show l.length < _; omega, by show (KeepEv _ _).length < _; rw [ev_len]; omega, by show (KeepOdd _ _).length < _; rw [odd_len]; omega,
    fun k hk => g_all a6 hk, fun k hk => ?_, fun k hk => ?_, g_all d1 (by omega), g_all d1 (by omega), g_all d1 (by omega)⟩⟩, m, rfl, d3, ?_⟩
  · have hk : k < (KeepEv o (o.length / 2)).length := hk
    rw [ev_len] at hk
    show V.KeepI (gI (KeepEv o (o.length / 2)) k)
    rw [(g_ev o _ k hk).1]
    exact g_all b6 (by omega)
  · have hk : k < (KeepOdd o (o.length / 2)).length := hk
    rw [odd_len] at hk
    show V.KeepI (gI (KeepOdd o (o.length / 2)) k)
    rw [(g_ev o _ k hk).2]
    exact g_all b6 (by omega)
  · have hnu : KeepEf (KeepNu ⟨l, KeepEv o (o.length / 2), KeepOdd o (o.length / 2), gI r 0, gI r 1, gI r 2⟩) = KeepEf ([(v : Int)] ++ l) ++ (KeepEf ([(w : Int)] ++ o) ++ KeepEf r) := by
      rw [nu_parts]
      have e1 : l.length / 4 = v := by omega
      have e2 : (KeepEv o (o.length / 2)).length = w := by rw [ev_len]; exact hw
      have e3 : KeepIt (KeepEv o (o.length / 2)) (KeepOdd o (o.length / 2)) w = o := by
        rw [it_ev (by omega) w (by omega), List.take_of_length_le (by omega)]
      have e4 : [gI r 0, gI r 1, gI r 2] = r := by
        match r, lr with
        | [x, y, z], _ => rfl
      show KeepEf ([((l.length / 4 : Nat) : Int)] ++ l) ++ (KeepEf ([((KeepEv o (o.length / 2)).length : Int)] ++ KeepIt (KeepEv o (o.length / 2)) (KeepOdd o (o.length / 2)) (KeepEv o (o.length / 2)).length) ++ KeepEf [gI r 0, gI r 1, gI r 2]) = _
      rw [e1, e2, e3, e4]
    rw [hnu]
    have hb0 : b = KeepEf ([(v : Int)] ++ l) ++ (KeepEf ([(w : Int)] ++ o) ++ KeepEf r) ++ b.drop m := by
      have := a7
      rw [List.drop_zero] at this
      rw [List.append_assoc, List.append_assoc, ← d4, ← b7]
      exact this
    obtain ⟨E, hE⟩ : ∃ E, KeepEf ([(v : Int)] ++ l) ++ (KeepEf ([(w : Int)] ++ o) ++ KeepEf r) = E := ⟨_, rfl⟩
    rw [hE] at hb0 ⊢
    have len := congrArg List.length hb0
    rw [List.length_append, List.length_drop] at len
    have em : E.length = m := by omega
    rw [hb0, ← em]
    exact List.take_left
end Go.Proofs.Ytlckkciicchneaa
end
section
namespace Go.Proofs.Ytlckkciicchneaa
open SY
open Go.RowKit
set_option linter.unusedSimpArgs false
set_option linter.unusedVariables false
set_option maxRecDepth 100000
theorem lenEu (xs : List Int) : lenE [CK.int IntKind.u8] xs = xs.length := by simp [lenE]
theorem cut_none (xs : List Int) (k : Nat) : cutI [CK.int IntKind.u8].length xs none (some ((k : Nat) : Int)) = xs.take k := by simp [cutI, mulE]
theorem ef_by : ∀ ns : List Int, (∀ v, v ∈ ns → V.KeepI v) → V.KeepBy (KeepEf ns)
  | [], _ => fun k hk => by simp [KeepEf] at hk
  | v :: r, h => by
    rw [ef_cons]
    exact V.by_app (V.vbU (V.zig_u (h v (by simp)))) (ef_by r fun u hu => h u (by simp [hu]))
theorem nu_all {p : PF} (h : Good p) : ∀ v, v ∈ KeepNu p → V.KeepI v := nu_range h.ps h.facts.2.2.2.1
theorem nu_len {p : PF} (h : Good p) : (KeepNu p).length ≤ 300 := by
  obtain ⟨q1, q2, q3, q4, _⟩ := h.facts
  have := it_len p.ks p.sz p.ks.length
  unfold KeepNu
  simp only [List.length_append, List.length_cons, List.length_nil]
  omega
theorem ar_good {a : List Int} {p : PF} (hp : Good p) : KeepAr a p = a ++ KeepEf (KeepNu p) := by unfold KeepAr; rw [if_pos hp.rt]
theorem bT {b : Bool} (h : b = true) : S.t (T.c (SC.v (Value.bool b))) = S.t (T.c (SC.v (Value.bool true))) := by rw [h]
theorem tail_law {b : List Int} (hb : V.KeepBy b) (l5 : ¬ (b.length : Int) > 300) : (V.KeepFew b ∧ V.KeepBy b) ∧
    br (!decide ((KeepRd b 0).snd.snd = 0))
      (br (decide ((KeepRd b 0).snd.fst = 0))
        (S.t (T.c (SC.v (Value.bool (decide (((KeepRd b 0).fst.cd.length / 4 : Nat) = (0 : Int)))))) = S.t (T.c (SC.v (Value.bool true))))
        (S.t (T.c (SC.v (Value.bool false))) = S.t (T.c (SC.v (Value.bool true)))))
      ((0 ≤ 10000 ∧ KeepPs (KeepRd b 0).fst) ∧
        br (decide (KeepAe (KeepRd b 0).fst = 0))
          (br (decide ((KeepRd b 0).snd.fst ≤ (b.length : Int)))
            (br (decide (0 ≤ (KeepRd b 0).snd.fst) && decide ((KeepRd b 0).snd.fst ≤ (b.length : Int)))
              (br (strEq (KeepAr (cL (S.t (T.c (SC.v (Value.slice none 0 0))))) (KeepRd b 0).fst) (List.take (KeepRd b 0).snd.fst.toNat b))
                (((KeepRd b 0).fst.ks.length < 1000000 ∧ (KeepRd b 0).fst.cd.length < 1000000) ∧
                  S.t (T.c (SC.v (Value.bool (KeepRt (KeepRd b 0).fst)))) = S.t (T.c (SC.v (Value.bool true))))
                (S.t (T.c (SC.v (Value.bool false))) = S.t (T.c (SC.v (Value.bool true)))))
              False)
            (S.t (T.c (SC.v (Value.bool false))) = S.t (T.c (SC.v (Value.bool true)))))
          (S.t (T.c (SC.v (Value.bool false))) = S.t (T.c (SC.v (Value.bool true))))) := by
  have few : V.KeepFew b := by unfold V.KeepFew; omega
  have hc : ¬ ((0 : Int) < 0 ∨ (0 : Int) > (b.length : Int)) := by omega
  refine ⟨⟨few, hb⟩, br_in (fun c => ?_) fun c => ?_⟩
  · have c : (KeepRd b 0).snd.snd ≠ 0 := by simpa using c
    have h0 : (KeepRd b 0).1.cd.length = 0 ∧ (KeepRd b 0).2.1 = 0 := by
      unfold KeepRd at c ⊢
      rw [if_neg hc] at c ⊢
      split; · exact ⟨rfl, rfl⟩
      split; · exact ⟨rfl, rfl⟩
      split; · exact ⟨rfl, rfl⟩
      simp only at c ⊢
      split
      · exact ⟨rfl, rfl⟩
      · rename_i e1 e2 e3 e4
        rw [if_neg e1, if_neg e2, if_neg e3, if_neg e4] at c
        exact absurd rfl c
    refine br_y (decide_eq_true h0.2) (bT (decide_eq_true ?_))
    rw [h0.1]; rfl
  · have c : (KeepRd b 0).snd.snd = 0 := by simpa using c
    obtain ⟨g, m, e1, e2, e3⟩ := rd_dec hb c
    have ae : KeepAe (KeepRd b 0).1 = 0 := by unfold KeepAe; rw [if_pos g.rt]
    have hcl : cL (S.t (T.c (SC.v (Value.slice none 0 0)))) = [] := rfl
    rw [e1, Int.toNat_natCast, hcl, ar_good g, e3, List.nil_append]
    exact ⟨⟨Nat.zero_le _, g.ps⟩, br_y (decide_eq_true ae) <| br_y (by simp; omega) <| br_y (by simp; omega) <| br_y (str_refl _) ⟨⟨g.ps.2.2.1, g.ps.2.1⟩, bT g.rt⟩⟩
theorem nd {P : Prop} [Decidable P] (h : P) : (!decide P) = false := by simp [h]
theorem back_law {p : PF} {a b : List Int} (hp : KeepRg p) (ha : V.KeepBy a) (hb : V.KeepBy b) : callT Try.prog (hkC KeepAr KeepAe KeepRd KeepRt KeepIns KeepSm) tab (lhL [(1, hintBk a.length (KeepAr a p).length)]) 10 5 [prgV p, slB a, slB b] tru := by
  rw [kbk_res]
  simp only [cP_eq, cI_i, cLB, cL1, pf_eta, sm_refl, beq_self_eq_true, br_tt, and_true, true_and, decide_true, lenEu, cut_none, List.nil_append, Nat.zero_add]
  refine br_in (fun c => trivial) fun c1 => br_in (fun c => trivial) fun c2 => br_in (fun c => trivial) fun c3 => br_in (fun c => trivial) fun c4 => br_in (fun c => trivial) fun c5 => ?_
  obtain ⟨p1, p2⟩ := rg_ps hp (of_decide_eq_false c1) (of_decide_eq_false c2) (of_decide_eq_false c3)
  have l4 := of_decide_eq_false c4
  have l5 := of_decide_eq_false c5
  refine ⟨⟨by omega, p1⟩, br_in (fun c => ?_) fun c => tail_law hb l5⟩
  have c : KeepAe p = 0 := of_decide_eq_true c
  have hrt : KeepRt p = true := by
    unfold KeepAe at c
    refine Decidable.byContradiction fun hn => ?_
    rw [if_neg hn] at c
    cases c
  have g : Good p := ⟨hrt, p1⟩
  have lx := ef_len (KeepNu p)
  have ln := nu_len g
  have hx := ar_good (a := a) g
  have bx : V.KeepBy (KeepAr a p) := by rw [hx]; exact V.by_app ha (ef_by _ (nu_all g))
  have hl : (KeepAr a p).length = a.length + (KeepEf (KeepNu p)).length := by rw [hx, List.length_append]
  have rd : KeepRd (KeepAr a p ++ b) a.length = (p, ((KeepAr a p).length : Int), 0) := by rw [hx, List.append_assoc]; exact rd_enc g a b
  have few : V.KeepFew (KeepAr a p ++ b) := by unfold V.KeepFew; rw [List.length_append]; omega
  have hT : (List.take a.length (KeepAr a p)) = a := by rw [hx, List.take_left]
  refine br_y (ble_of (by omega)) <| br_y (ble_of (by omega)) ⟨⟨few, V.by_app bx hb⟩, br_n (nd (by rw [rd])) <| br_n (nd (by rw [rd])) ⟨⟨p2, by rw [rd]; exact p2⟩, br_n (by rw [rd, sm_refl]; rfl) <| br_y (by simp; omega) <| br_n (by rw [Int.toNat_natCast, hT, str_refl]; rfl) ⟨⟨⟨a.length⟩, ⟨Nat.le_refl _, by show a.length ≤ _; omega⟩, rfl⟩, fun x hxx => br_in (fun d => ?_) fun d => tail_law hb l5⟩⟩⟩
  have d : (x.i : Int) < ((KeepAr a p).length : Int) := of_decide_eq_true d
  obtain ⟨x1, x2⟩ := hxx
  obtain ⟨j, hj⟩ : ∃ j, x.i = a.length + j := ⟨x.i - a.length, by omega⟩
  have ct := rd_cut g a (j := j) (by omega)
  have tk : List.take x.i (KeepAr a p) = a ++ (KeepEf (KeepNu p)).take j := by
    rw [hx, hj, List.take_append, List.take_of_length_le (by omega), show a.length + j - a.length = j by omega]
  refine br_y (by simp; omega) ⟨⟨by rw [Int.toNat_natCast]; unfold V.KeepFew; rw [List.length_take]; omega, by rw [Int.toNat_natCast]; exact V.by_take bx _⟩, br_n (nd (by rw [tk, ct])) ⟨⟨x.i + 1⟩, ⟨by show a.length ≤ x.i + 1; omega, by show x.i + 1 ≤ _; omega⟩, by show _ - (x.i + 1) < _; omega, ?_⟩⟩
  show ((x.i + 1 : Nat) : Int) = _
  rw [w_i64 (by omega)]; rfl
theorem back_walk (W : World) (v0 v1 v2 : Value) (p : PF) (a b : List Int) (h : DS g0 W (prgV p) v0) (ha : DS g0 W (slB a) v1) (hb : DS g0 W (slB b) v2) (hp : Prg p) (ra : InR [.int .u8] a) (rb : InR [.int .u8] b) :
    Calls Try.prog 5 #[v0, v1, v2] W fun e w' => e = .returned (.bool true) ∧ Below W.heap.size W w' :=
  law (vals := [v0, v1, v2]) (lh := lhL [(1, hintBk a.length (KeepAr a p).length)]) (m := 10) (args := [prgV p, slB a, slB b]) mixed tab_ok hkC_ok (back_law (rg_of hp) (by_in ra) (by_in rb)) ⟨h, ha, hb, trivial⟩
end Go.Proofs.Ytlckkciicchneaa
end
