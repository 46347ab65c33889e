/- Waiters: the third law. No condition. -/
import Derived.Test.YtgoigcnibjcjpaaLN4
namespace Go.Proofs.Ytgoigcnibjcjpaa
open SY
open Go.RowKit Go.Maps
set_option linter.unusedSimpArgs false
set_option linter.unusedVariables false
set_option maxRecDepth 100000
theorem rt_iff {n : NF} : KeepRn n = true ↔ (n.wt - n.td) % 4294967296 ≤ 1000 ∧ n.ns.length ≤ 24 ∧ ∀ k, k < n.ns.length / 2 → 0 ≤ tsI n.ns k ∧ (tkI n.ns k - n.td) % 4294967296 < (n.wt - n.td) % 4294967296 ∧ (∀ j, j < k → tkI n.ns j ≠ tkI n.ns k) ∧ ∀ j, j < k → tsI n.ns j ≠ tsI n.ns k := by
  constructor
  · intro h
    obtain ⟨h1, h2, h3⟩ := rt_split h
    exact ⟨h1, h2, fun k hk => ok_split (h3 k hk)⟩
  · intro ⟨h1, h2, h3⟩
    unfold KeepRn KeepRt
    simp only [Bool.and_eq_true, decide_eq_true_eq, List.all_eq_true, List.mem_range]
    exact ⟨h1, h2, fun k hk => ok_yes (h3 k hk).1 (h3 k hk).2.1 (cnt_one (h3 k hk).2.2.1) (cnt_one (h3 k hk).2.2.2)⟩
theorem gI_left {xs ys : List Int} {i : Nat} (h : i < xs.length) : gI (xs ++ ys) i = gI xs i := by
  simp [gI, List.getD_eq_getElem?_getD, List.getElem?_append_left h]
theorem gI_right {xs ys : List Int} {i : Nat} (h : xs.length ≤ i) : gI (xs ++ ys) i = gI ys (i - xs.length) := by
  simp [gI, List.getD_eq_getElem?_getD, List.getElem?_append_right h]
theorem tk_left {xs ys : List Int} {k : Nat} (h : k < xs.length / 2) : tkI (xs ++ ys) k = tkI xs k := gI_left (by omega)
theorem ts_left {xs ys : List Int} {k : Nat} (h : k < xs.length / 2) : tsI (xs ++ ys) k = tsI xs k := gI_left (by omega)
theorem tk_last {xs : List Int} {t s : Int} (he : xs.length % 2 = 0) : tkI (xs ++ [t, s]) (xs.length / 2) = t := by
  unfold tkI; rw [gI_right (by omega), show 2 * (xs.length / 2) - xs.length = 0 by omega]; rfl
theorem ts_last {xs : List Int} {t s : Int} (he : xs.length % 2 = 0) : tsI (xs ++ [t, s]) (xs.length / 2) = s := by
  unfold tsI; rw [gI_right (by omega), show 2 * (xs.length / 2) + 1 - xs.length = 1 by omega]; rfl
theorem has_no {ns : List Int} {t s : Int} (h : ¬ KeepHas ns t s = true) : ∀ k, k < ns.length / 2 → tkI ns k ≠ t ∧ tsI ns k ≠ s := by
  intro k hk
  have : ¬ sameF ns t s k = true := fun e => h (decide_eq_true (ixF_ge (ns.length / 2) 0 k (Nat.zero_le _) (by omega) e))
  unfold sameF at this
  simp only [Bool.or_eq_true, decide_eq_true_eq, not_or] at this
  exact this
/-- What Park does to a right list. -/
theorem park_cases {n : NF} {t s : Int} (hr : KeepRn n = true) (hs : 0 ≤ s) : (∃ e, e ≠ 0 ∧ KeepPk n t s = (n, e) ∧ (e = 1 ∨ (t - n.td) % 4294967296 < (n.wt - n.td) % 4294967296)) ∨
    ((t - n.td) % 4294967296 < (n.wt - n.td) % 4294967296 ∧ (∀ k, k < n.ns.length / 2 → tkI n.ns k ≠ t ∧ tsI n.ns k ≠ s) ∧ n.ns.length / 2 ≠ 12 ∧ KeepPk n t s = (⟨n.wt, n.td, n.ns ++ [t, s]⟩, 0)) := by
  unfold KeepPk
  rw [if_neg (show ¬ s < 0 by omega), if_neg (by rw [hr]; decide)]
  split
  · exact .inl ⟨1, by decide, rfl, .inl rfl⟩
  · rename_i c
    have c := Decidable.not_not.1 c
    split
    · exact .inl ⟨8, by decide, rfl, .inr c⟩
    · rename_i c1
      split
      · exact .inl ⟨6, by decide, rfl, .inr c⟩
      · rename_i c2
        exact .inr ⟨c, has_no c1, c2, rfl⟩
theorem right_more {n : NF} {t s : Int} (he : n.ns.length % 2 = 0) (hr : KeepRn n = true) (hs : 0 ≤ s) (h1 : (t - n.td) % 4294967296 < (n.wt - n.td) % 4294967296) (h2 : ∀ k, k < n.ns.length / 2 → tkI n.ns k ≠ t ∧ tsI n.ns k ≠ s) (h3 : n.ns.length / 2 ≠ 12) : KeepRn ⟨n.wt, n.td, n.ns ++ [t, s]⟩ = true := by
  obtain ⟨r1, r2, r3⟩ := rt_iff.1 hr
  refine rt_iff.2 ⟨r1, by show (n.ns ++ [t, s]).length ≤ 24; simp; omega, fun k hk => ?_⟩
  have hk : k < (n.ns ++ [t, s]).length / 2 := hk
  have hk : k < n.ns.length / 2 + 1 := by simp at hk; omega
  show 0 ≤ tsI (n.ns ++ [t, s]) k ∧ (tkI (n.ns ++ [t, s]) k - n.td) % 4294967296 < (n.wt - n.td) % 4294967296 ∧ (∀ j, j < k → tkI (n.ns ++ [t, s]) j ≠ tkI (n.ns ++ [t, s]) k) ∧ ∀ j, j < k → tsI (n.ns ++ [t, s]) j ≠ tsI (n.ns ++ [t, s]) k
  rcases Nat.eq_or_lt_of_le (Nat.le_of_lt_succ hk) with rfl | h
  · rw [tk_last he, ts_last he]
    exact ⟨hs, h1, fun j hj => by rw [tk_left hj]; exact (h2 j hj).1, fun j hj => by rw [ts_left hj]; exact (h2 j hj).2⟩
  · obtain ⟨q1, q2, q3, q4⟩ := r3 k h
    rw [tk_left h, ts_left h]
    exact ⟨q1, q2, fun j hj => by rw [tk_left (by omega)]; exact q3 j hj, fun j hj => by rw [ts_left (by omega)]; exact q4 j hj⟩
theorem ws_more {n : NF} {t s : Int} (hw : KeepWs n) (hl : n.ns.length ≤ 1000) (ht : KeepU t) (hi : KeepI s) : KeepWs ⟨n.wt, n.td, n.ns ++ [t, s]⟩ := by
  obtain ⟨a, b, he, hl', hin⟩ := hw
  refine ⟨a, b, by show (n.ns ++ [t, s]).length % 2 = 0; simp; omega, by show (n.ns ++ [t, s]).length ≤ _; simp; omega, fun k hk => ?_⟩
  have hk : k < (n.ns ++ [t, s]).length / 2 := hk
  have hk : k < n.ns.length / 2 + 1 := by simp at hk; omega
  show (0 ≤ tkI (n.ns ++ [t, s]) k ∧ tkI (n.ns ++ [t, s]) k < 4294967296) ∧ -9223372036854775808 ≤ tsI (n.ns ++ [t, s]) k ∧ tsI (n.ns ++ [t, s]) k < 9223372036854775808
  rcases Nat.eq_or_lt_of_le (Nat.le_of_lt_succ hk) with rfl | h
  · rw [tk_last he, ts_last he]; exact ⟨ht, hi⟩
  · rw [tk_left h, ts_left h]; exact hin k h
theorem ts_get (ns : List Int) : ∀ {k j : Nat}, j < k → gI (KeepTs ns k) j = tsI ns j
  | k + 1, j, h => by
    show gI (KeepTs ns k ++ [tsI ns k]) j = _
    rcases Nat.eq_or_lt_of_le (Nat.le_of_lt_succ h) with rfl | h'
    · rw [gI_right (by rw [ts_len]; exact Nat.le_refl _), ts_len, Nat.sub_self]; rfl
    · rw [gI_left (by rw [ts_len]; exact h'), ts_get ns h']
theorem out_law {n : NF} {t s : Int} (h : n.ns.length % 2 = 0) (hw : n.ns.length / 2 ≤ 30 → KeepWs n) (ht : KeepU t) (hs : 0 ≤ s ∧ s < 256) : callT Try.prog (hkNs KeepRn KeepPn KeepPe KeepOn KeepOt KeepOe KeepAn KeepAl KeepAe KeepEq KeepSe) tab noL 10 6 [notV n, uS t, .t (.c (.v (.int .u8 s)))] tru := by
  rw [nout_res]
  have hI : KeepI s := by unfold KeepI; omega
  simp only [w_i64 (show -9223372036854775808 ≤ s ∧ s ≤ 9223372036854775807 by omega), cN_eq, cI_u, cI_i, cL_eq, nf_eta, List.nil_append, Nat.zero_add, se_refl, eq_refl', decide_true, br_tt, and_true, true_and]
  refine br_in (fun c => trivial) fun c => ?_
  have c : ¬ ((n.ns.length / 2 : Nat) : Int) > 30 := of_decide_eq_false c
  have h30 : n.ns.length / 2 ≤ 30 := by omega
  have w := hw h30
  have n1 : KeepNs n := ⟨by omega, h⟩
  have n2 := ns_pn w h30 t s
  simp only [w, n1, n2, ht, hI, true_and]
  cases hr : KeepRn n <;> simp only [Bool.not_true, Bool.not_false, br_tt, br_ff]
  simp only [IntKind.wrap_u32, told_eq ht w.2.1]
  obtain ⟨r1, r2, r3⟩ := rt_iff.1 hr
  have alk : ∀ m : NF, KeepRn m = true → KeepAk m = (⟨m.wt, m.wt, []⟩, KeepTs m.ns (m.ns.length / 2), 0) := fun m hm => by unfold KeepAk; rw [if_neg (by rw [hm]; decide)]
  refine br_in (fun d => ?_) fun d => ?_
  · have d := of_decide_eq_true d
    rcases park_cases (t := t) hr hs.1 with ⟨e, e1, e2, e3⟩ | ⟨e1, _⟩
    · rcases e3 with rfl | e3
      · unfold KeepPe KeepPn
        rw [e2]
        exact br_y rfl (by rw [se_refl])
      · omega
    · omega
  · have d := of_decide_eq_false d
    rcases park_cases (t := t) hr hs.1 with ⟨e, e1, e2, e3⟩ | ⟨e1, e2, e3, e4⟩
    · have p1 : KeepPn n t s = n := by unfold KeepPn; rw [e2]
      have p2 : KeepPe n t s = e := by unfold KeepPe; rw [e2]
      rw [p1, p2]
      refine ⟨w, br_y ?_ <| br_y ?_ <| br_y ?_ trivial⟩
      · unfold KeepAe; rw [alk n hr]; rfl
      · unfold KeepAl; rw [alk n hr]; simp [ts_len]
      · simp [e1]
    · have p1 : KeepPn n t s = ⟨n.wt, n.td, n.ns ++ [t, s]⟩ := by unfold KeepPn; rw [e4]
      have p2 : KeepPe n t s = 0 := by unfold KeepPe; rw [e4]
      have hr' := right_more h hr hs.1 e1 e2 e3
      have hl : (n.ns ++ [t, s]).length / 2 = n.ns.length / 2 + 1 := by rw [List.length_append]; show (n.ns.length + 2) / 2 = _; omega
      have l1 : KeepAl ⟨n.wt, n.td, n.ns ++ [t, s]⟩ = KeepTs (n.ns ++ [t, s]) (n.ns.length / 2 + 1) := by unfold KeepAl; rw [alk _ hr']; show KeepTs _ ((n.ns ++ [t, s]).length / 2) = _; rw [hl]
      have l2 : (KeepAl ⟨n.wt, n.td, n.ns ++ [t, s]⟩).length = n.ns.length / 2 + 1 := by rw [l1, ts_len]
      have l3 : IntKind.i64.wrap (((n.ns.length / 2 + 1 : Nat) : Int) - 1) = ((n.ns.length / 2 : Nat) : Int) := by rw [w_i64 (by omega)]; omega
      rw [p1, p2, l2, l3]
      refine ⟨ws_more w (by omega) ht hI, br_y ?_ <| br_y ?_ <| br_n (by decide) <| br_y ?_ <| br_y ?_ <| br_y ?_ ?_⟩
      · unfold KeepAe; rw [alk _ hr']; rfl
      · show decide (((n.ns.length / 2 + 1 : Nat) : Int) = (((n.ns ++ [t, s]).length / 2 : Nat) : Int)) = true
        rw [hl]; simp
      · rw [w_i64 (by omega)]; simp
      · simp; omega
      · rw [Int.toNat_natCast, l1, ts_get _ (by omega), ts_last h]; simp
      · have : (KeepAn ⟨n.wt, n.td, n.ns ++ [t, s]⟩).td = n.wt := by unfold KeepAn; rw [alk _ hr']
        rw [this, told_eq ht w.1, decide_eq_true (by omega)]
end Go.Proofs.Ytgoigcnibjcjpaa
