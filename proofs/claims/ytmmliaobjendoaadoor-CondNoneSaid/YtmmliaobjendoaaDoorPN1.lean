/- A list of waiters is right: a walk by hand. No condition. -/
import Derived.Test.YtmmliaobjendoaaDoorSyU
import Derived.Test.YtmmliaobjendoaaDoorQN0
import Derived.WalkKit
import Derived.Maps.OwnOps
import Derived.Maps.Views
import Derived.Maps.OwnSet
import Derived.LoopTactic
namespace Go.Proofs.YtmmliaobjendoaaDoor
open Go.RowKit Go.Maps
set_option linter.unusedVariables false
theorem law22 : Keyed Tryd.prog 22 := int_keyed Tryd.underlying22
theorem law3 : Keyed Tryd.prog 3 := int_keyed Tryd.underlying3
theorem zero3 (w : World) : (zeroValue 3).run Tryd.prog w = .ok (.int .i64 0) w := by kernel_rfl

theorem isout_calls (wt td t : Int) (a : Option Addr) (n c : Nat) (w : World) : Calls Tryd.prog 27 #[.agg #[.int .u32 wt, .int .u32 td, .slice a n c], .int .u32 t] w fun e w' => e = .returned (.bool (decide ((t - td) % 4294967296 < (wt - td) % 4294967296))) ∧ Below w.heap.size w w' := by
  have h := isout_res wt td t a n c (decide ((t - td) % 4294967296 < (wt - td) % 4294967296))
  have h' := h.symm ▸ (⟨rfl, by simp only [IntKind.wrap_u32]⟩ : _ ∧ _)
  refine ((SY.callT_ok (args := [.t (.agg [.v (.int .u32 wt), .v (.int .u32 td), .v (.slice a n c)]), uS t]) mixed tab_ok SY.hkL_nil h').2 SY.g0 w [.agg #[.int .u32 wt, .int .u32 td, .slice a n c], .int .u32 t] (SY.g0_bound w) ⟨⟨_, rfl, rfl, rfl, rfl, trivial⟩, rfl, trivial⟩).mono fun e w' ⟨r, v, h1, h2, h3, h4⟩ => ?_
  subst h2
  have h3 : v = .bool _ := h3
  subst h3
  exact ⟨h1, h4⟩
theorem below_grown {w w' : World} (h : Below w.heap.size w w') : w.grownBy w' none := ⟨h.os, h.tape, h.output, h.size, fun k hk _ => h.block k hk⟩

def cnt (f : Nat → Int) : Nat → Int → Int
  | 0, _ => 0
  | k + 1, x => cnt f k x + if f k = x then 1 else 0
def tkI (xs : List Int) (k : Nat) : Int := SY.gI xs (2 * k)
def tsI (xs : List Int) (k : Nat) : Int := SY.gI xs (2 * k + 1)
def okW (wt td : Int) (xs : List Int) (k : Nat) : Bool := decide (0 ≤ tsI xs k) && (decide ((tkI xs k - td) % 4294967296 < (wt - td) % 4294967296) && (decide (cnt (tkI xs) (k + 1) (tkI xs k) ≤ 1) && decide (cnt (tsI xs) (k + 1) (tsI xs k) ≤ 1)))
def KeepRt (wt td : Int) (xs : List Int) : Bool := decide ((wt - td) % 4294967296 ≤ 1000) && (decide (xs.length ≤ 24) && (List.range (xs.length / 2)).all (okW wt td xs))

theorem cnt_in (f : Nat → Int) (t : Int) : ∀ k : Nat, 0 ≤ cnt f k t ∧ cnt f k t ≤ k
  | 0 => ⟨Int.le_refl _, Int.le_refl _⟩
  | k + 1 => by
    have := cnt_in f t k
    show 0 ≤ cnt f k t + (if f k = t then 1 else 0) ∧ cnt f k t + (if f k = t then 1 else 0) ≤ _
    split <;> omega
theorem put_cnt {q : IntKind} {D : DataW Unit} {f : Nat → Int} {k : Nat} {c : Int} (hD : IsMap D) (h : ∀ t, D.atKey (.int q t) (.lit (.int .i64 0)) = .lit (.int .i64 (cnt f k t)))
    (hat : D.atKey (.int q (f k)) (.lit (.int .i64 0)) = .lit (.int .i64 c)) (hk : k ≤ 1000) : ∀ t, (D.put (.int q (f k)) (.lit (.int .i64 (wrap64 (c + 1))))).atKey (.int q t) (.lit (.int .i64 0)) = .lit (.int .i64 (cnt f (k + 1) t)) := by
  intro t
  rw [h] at hat
  simp only [DataW.lit.injEq, Lit.int.injEq, true_and] at hat
  have hb := cnt_in f (f k) k
  by_cases e : t = f k
  · subst e
    rw [atKey_put_same hD (by trivial)]
    simp only [DataW.lit.injEq, Lit.int.injEq, true_and]
    show wrap64 (c + 1) = cnt f k (f k) + (if f k = f k then 1 else 0)
    rw [if_pos rfl, ← hat]
    unfold wrap64
    omega
  · rw [atKey_put_other (by simpa using e), h]
    simp only [DataW.lit.injEq, Lit.int.injEq, true_and]
    show _ = cnt f k t + (if f k = t then 1 else 0)
    rw [if_neg (fun h => e h.symm)]; omega
theorem ret_eq {a b : Bool} (h : a = b) : Ending.returned (.bool a) = Ending.returned (.bool b) := by rw [h]
theorem lit_inj {a b : Int} {H : Type} (h : (DataW.lit (.int .i64 a) : DataW H) = .lit (.int .i64 b)) : a = b := by
  simpa using h
theorem rt_false {wt td : Int} {xs : List Int} {n k : Nat} (hn : xs.length = n * 2) (hk : k < n) (h : okW wt td xs k = false) : false = KeepRt wt td xs := by
  unfold KeepRt
  have : (List.range (xs.length / 2)).all (okW wt td xs) = false := by
    rw [List.all_eq_false]
    exact ⟨k, by rw [List.mem_range]; omega, by simp [h]⟩
  rw [this]; simp
theorem rt_true {wt td : Int} {xs : List Int} {n : Nat} (hn : xs.length = n * 2) (h1 : (wt - td) % 4294967296 ≤ 1000) (h2 : n ≤ 12) (h : ∀ k, k < n → okW wt td xs k = true) : true = KeepRt wt td xs := by
  unfold KeepRt
  have : (List.range (xs.length / 2)).all (okW wt td xs) = true := by
    rw [List.all_eq_true]
    intro k hk
    rw [List.mem_range] at hk
    exact h k (by omega)
  rw [this, decide_eq_true h1, decide_eq_true (show xs.length ≤ 24 by omega)]; rfl
theorem rt_out1 {wt td : Int} {xs : List Int} (h : 1000 < (wt - td) % 4294967296) : false = KeepRt wt td xs := by
  unfold KeepRt; rw [decide_eq_false (by omega)]; rfl
theorem rt_out2 {wt td : Int} {xs : List Int} {n : Nat} (hn : xs.length = n * 2) (h : 12 < n) : false = KeepRt wt td xs := by
  unfold KeepRt; rw [decide_eq_false (show ¬ xs.length ≤ 24 by omega)]; simp
theorem ok_no {wt td : Int} {xs : List Int} {k : Nat} (h : tsI xs k < 0 ∨ (wt - td) % 4294967296 ≤ (tkI xs k - td) % 4294967296 ∨ 1 < cnt (tkI xs) (k + 1) (tkI xs k) ∨ 1 < cnt (tsI xs) (k + 1) (tsI xs k)) : okW wt td xs k = false := by
  cases h' : okW wt td xs k
  · rfl
  · unfold okW at h'
    simp only [Bool.and_eq_true, decide_eq_true_eq] at h'
    omega
theorem ok_yes {wt td : Int} {xs : List Int} {k : Nat} (h1 : 0 ≤ tsI xs k) (h2 : (tkI xs k - td) % 4294967296 < (wt - td) % 4294967296) (h3 : cnt (tkI xs) (k + 1) (tkI xs k) ≤ 1) (h4 : cnt (tsI xs) (k + 1) (tsI xs k) ≤ 1) : okW wt td xs k = true := by
  unfold okW
  simp [h1, h2, h3, h4]

theorem el_cells {wr w1 : World} {x y : Value} {B : Nat} (hg : (wr.alloc (.cells #[x, y] 67)).grownBy w1 (some B)) (hB : B < wr.heap.size) : w1.cell? ⟨wr.heap.size, 0, none⟩ = some x ∧ w1.cell? ⟨wr.heap.size, 1, none⟩ = some y := by
  have e : w1.heap[wr.heap.size]? = some (.cells #[x, y] 67 (0, 0)) := by
    rw [hg.block wr.heap.size (by simp) (by simp; omega)]
    exact heap_alloc_new wr _
  exact ⟨by simp [World.cell?, e], by simp [World.cell?, e]⟩
theorem up_heap {w1 w2 : World} {B b : Nat} {o : Obj} (h : w1.heap[b]? = some o) (hg : w1.grownBy w2 (some B)) (hne : b ≠ B) : w2.heap[b]? = some o := by
  rw [hg.block b (SY.lt_of_heap h) (by simpa using hne)]; exact h
theorem al_heap {w : World} {b : Nat} {o o' : Obj} (h : w.heap[b]? = some o) : (w.alloc o').heap[b]? = some o := by
  rw [Below.heap_alloc w o' b (SY.lt_of_heap h)]; exact h
theorem three_cells {w : World} {b t : Nat} {x y z : Value} (h : w.heap[b]? = some (.cells #[x, y, z] t (0, 0))) : w.cell? ⟨b, 0, none⟩ = some x ∧ w.cell? ⟨b, 1, none⟩ = some y ∧ w.cell? ⟨b, 2, none⟩ = some z :=
  ⟨by simp [World.cell?, h], by simp [World.cell?, h], by simp [World.cell?, h]⟩
theorem two_cells {w : World} {b t : Nat} {x y : Value} (h : w.heap[b]? = some (.cells #[x, y] t (0, 0))) : w.cell? ⟨b, 0, none⟩ = some x ∧ w.cell? ⟨b, 1, none⟩ = some y :=
  ⟨by simp [World.cell?, h], by simp [World.cell?, h]⟩

theorem al_size (w : World) (o : Obj) : (w.alloc o).heap.size = w.heap.size + 1 := by show (w.heap.push _).size = _; simp
theorem start_maps (w : World) (A : Array Value) (t : TypeId) : ((((w.alloc (.cells A t)).alloc (.cells A t)).alloc (.map #[] 0)).alloc (.map #[] 0)).ownsMap Tryd.prog 22 (plainElem (H := Unit) Tryd.prog 3) (w.heap.size + 1 + 1) 0 (.map []) ∧
    ((((w.alloc (.cells A t)).alloc (.cells A t)).alloc (.map #[] 0)).alloc (.map #[] 0)).ownsMap Tryd.prog 3 (plainElem (H := Unit) Tryd.prog 3) (w.heap.size + 1 + 1 + 1) 0 (.map []) ∧
    ((((w.alloc (.cells A t)).alloc (.cells A t)).alloc (.map #[] 0)).alloc (.map #[] 0)).heap[w.heap.size]? = some (.cells A t (0, 0)) ∧ w.heap.size + 4 ≤ ((((w.alloc (.cells A t)).alloc (.cells A t)).alloc (.map #[] 0)).alloc (.map #[] 0)).heap.size ∧
    Below w.heap.size w ((((w.alloc (.cells A t)).alloc (.cells A t)).alloc (.map #[] 0)).alloc (.map #[] 0)) := by
  have h1 := World.ownsMap_made ((w.alloc (.cells A t)).alloc (.cells A t)) Tryd.prog 22 (plainElem (H := Unit) Tryd.prog 3)
  have h2 := World.ownsMap_made (((w.alloc (.cells A t)).alloc (.cells A t)).alloc (.map #[] 0)) Tryd.prog 3 (plainElem (H := Unit) Tryd.prog 3)
  rw [al_size, al_size] at h1
  rw [al_size, al_size, al_size] at h2
  refine ⟨h1.alloc _, h2, al_heap (al_heap (al_heap (heap_alloc_new w _))), by simp only [al_size]; omega, ?_⟩
  refine Below.alloc (Below.alloc (Below.alloc (Below.alloc (Below.refl _ _) (Nat.le_refl _) _) ?_ _) ?_ _) ?_ _ <;> simp only [al_size] <;> omega
theorem below3 {w wr w1 w2 w3 : World} {o : Obj} {i j : Nat} (hi : w.heap.size ≤ i) (hj : w.heap.size ≤ j) (hbel : Below w.heap.size w wr) (hsz : w.heap.size + 4 ≤ wr.heap.size) (hg1 : (wr.alloc o).grownBy w1 (some i)) (hg2 : w1.grownBy w2 (some j)) (hb3 : Below w2.heap.size w2 w3) : Below w.heap.size w w3 := by
  have s1 : (wr.alloc o).heap.size = wr.heap.size + 1 := by show (wr.heap.push _).size = _; simp
  have z1 := hg1.size
  have z2 := hg2.size
  have b1 := (hbel.alloc (by omega) o).grown hg1 (by omega) (fun k e => by cases e; omega)
  have b2 := b1.grown hg2 (by omega) (fun k e => by cases e; omega)
  exact b2.trans (hb3.mono (by omega))
set_option maxRecDepth 100000 in
theorem right_some (wt td : Int) (xs : List Int) (b off n c : Nat) (w : World) (hb : b < w.heap.size) (hn : xs.length = n * 2)
    (h0 : ∀ k, k < n → w.cell? ⟨b, off + k * 2, none⟩ = some (.int .u32 (tkI xs k))) (h1 : ∀ k, k < n → w.cell? ⟨b, off + k * 2 + 1, none⟩ = some (.int .i64 (tsI xs k))) 
    (r0 : ∀ k, k < n → (Lit.int .u32 (tkI xs k)).wf = true) (r1 : ∀ k, k < n → (Lit.int .i64 (tsI xs k)).wf = true) :
    Calls Tryd.prog 17 #[.agg #[.int .u32 wt, .int .u32 td, .slice (some ⟨b, off, none⟩) n c]] w fun e w' => e = .returned (.bool (KeepRt wt td xs)) ∧ Below w.heap.size w w' := by
  have hmm := @run_makeMap Tryd.prog
  go_enter Tryd.func17, Tryd.ntmps17
  go_wp2
  rotate_left
  · rename_i q1 q2
    go_loopw [21] (fun i wr => ∃ k : Nat, k ≤ n ∧ i = .int .i64 k ∧ (∃ D : DataW Unit, wr.ownsMap Tryd.prog 22 (plainElem Tryd.prog 3) (w.heap.size + 1 + 1) k D ∧ ∀ t, D.atKey (.int .u32 t) (.lit (.int .i64 0)) = .lit (.int .i64 (cnt (tkI xs) k t))) ∧
      (∃ D : DataW Unit, wr.ownsMap Tryd.prog 3 (plainElem Tryd.prog 3) (w.heap.size + 1 + 1 + 1) k D ∧ ∀ t, D.atKey (.int .i64 t) (.lit (.int .i64 0)) = .lit (.int .i64 (cnt (tsI xs) k t))) ∧
      wr.heap[w.heap.size]? = some (.cells #[.int .u32 wt, .int .u32 td, .slice (some ⟨b, off, none⟩) n c] 26 (0, 0)) ∧ w.heap.size + 4 ≤ wr.heap.size ∧ Below w.heap.size w wr ∧ ∀ j, j < k → okW wt td xs j = true)
      (fun i _ => n - (intOf i).toNat)
    case atStart =>
      obtain ⟨s1, s2, s3, s4, s5⟩ := start_maps w #[.int .u32 wt, .int .u32 td, .slice (some ⟨b, off, none⟩) n c] 26
      exact ⟨0, Nat.zero_le _, rfl, ⟨_, s1, fun _ => rfl⟩, ⟨_, s2, fun _ => rfl⟩, s3, s4, s5, fun j hj => absurd hj (Nat.not_lt_zero _)⟩
    case round => 
      obtain ⟨k, hk, rfl, ⟨D, hT, hT'⟩, ⟨E, hE, hE'⟩, hcell, hsz, hbel, hok⟩ := hrel
      have hc0 : k < n → wr.cell? ⟨b, off + k * 2, none⟩ = some (.int .u32 (tkI xs k)) := fun h => (hbel.cell (by exact hb)).trans (h0 k h)
      have hc1 : k < n → wr.cell? ⟨b, off + k * 2 + 1, none⟩ = some (.int .i64 (tsI xs k)) := fun h => (hbel.cell (by exact hb)).trans (h1 k h)
      have k0 : k < n → keyOf Tryd.prog 22 (.int .u32 (tkI xs k)) = some (.int .u32 (tkI xs k)) := fun h => keyOf_int_mk Tryd.underlying22 (r0 k h)
      have k1 : k < n → keyOf Tryd.prog 3 (.int .i64 (tsI xs k)) = some (.int .i64 (tsI xs k)) := fun h => keyOf_int_mk Tryd.underlying3 (r1 k h)
      go_wp2_with (first
        | (at_lookup; refine wpList_lookup_own_int _ rfl _ _ 71 rfl 22 3 .i64 law22 Tryd.underlying71 Tryd.underlying3 (zero3 _) (w.heap.size + 1 + 1) k _ rfl (hT.alloc _) _ _ rfl (k0 (by assumption)) ?_; intro c0 hat0 hwc0)
        | (at_mapUpdate; refine wpList_mapUpdate_own _ rfl _ _ _ 71 rfl 22 3 law22 Tryd.underlying71 _ (w.heap.size + 1 + 1) k _ rfl (hT.alloc _) (by unfold maxLen; omega) _ _ _ rfl rfl (k0 (by assumption)) _ [] (plainElem_int Tryd.underlying3 (wrap64_wf _)) ?_; intro w1 hT1 hg1; have el1 := up_heap (heap_alloc_new wr _) hg1 (by omega); have nn1 := up_heap (al_heap hcell) hg1 (by omega); obtain ⟨e0, e1⟩ := two_cells el1)
        | (at_lookup; refine wpList_lookup_own_int _ rfl _ _ 72 rfl 3 3 .i64 law3 Tryd.underlying72 Tryd.underlying3 (zero3 _) (w.heap.size + 1 + 1 + 1) k _ rfl ((hE.alloc _).kept hg1 (by simp)) _ _ rfl (k1 (by assumption)) ?_; intro c1 hat1 hwc1)
        | (at_mapUpdate; refine wpList_mapUpdate_own _ rfl _ _ _ 72 rfl 3 3 law3 Tryd.underlying72 _ (w.heap.size + 1 + 1 + 1) k _ rfl ((hE.alloc _).kept hg1 (by simp)) (by unfold maxLen; omega) _ _ _ rfl rfl (k1 (by assumption)) _ [] (plainElem_int Tryd.underlying3 (wrap64_wf _)) ?_; intro w2 hE2 hg2; have el2 := up_heap el1 hg2 (by omega); have nn2 := up_heap nn1 hg2 (by omega); obtain ⟨f0, f1⟩ := two_cells el2; obtain ⟨m0, m1, m2⟩ := three_cells nn2; have hT2 := hT1.kept hg2 (by simp))
        | (go_at_call 27; refine (isout_calls _ _ _ _ _ _ _).mono ?_; rintro e w3 ⟨rfl, hb3⟩; have hT3 := hT2.kept (below_grown hb3) (by simp); have hE3 := hE2.kept (below_grown hb3) (by simp); have el3 := (hb3.block _ (SY.lt_of_heap el2)).trans el2; obtain ⟨p0, p1⟩ := two_cells el3; obtain ⟨c2, hr2, hat2, _⟩ := hT3.lookup_int law22 Tryd.underlying71 Tryd.underlying3 (zero3 _) (k0 (by assumption)); obtain ⟨c3, hr3, hat3, _⟩ := hE3.lookup_int law3 Tryd.underlying72 Tryd.underlying3 (zero3 _) (k1 (by assumption)))
        | go_in)
      · have b3 := below3 (by omega) (by omega) hbel hsz hg1 hg2 hb3
        obtain rfl := lit_inj ((put_cnt hT.isMap hT' hat0 (by omega) _).symm.trans hat2)
        obtain rfl := lit_inj ((put_cnt hE.isMap hE' hat1 (by omega) _).symm.trans hat3)
        have hlt : k < n := by assumption
        go_ret
        exact ⟨ret_eq (rt_false (wt := wt) (td := td) hn hlt (ok_no (by omega))), b3⟩
      · have b3 := below3 (by omega) (by omega) hbel hsz hg1 hg2 hb3
        have hlt : k < n := by assumption
        have p1 := put_cnt hT.isMap hT' hat0 (by omega)
        have p2 := put_cnt hE.isMap hE' hat1 (by omega)
        obtain rfl := lit_inj ((p1 _).symm.trans hat2)
        obtain rfl := lit_inj ((p2 _).symm.trans hat3)
        have z1 := hg1.size
        have z2 := hg2.size
        have z3 := hb3.size
        have s1 : (wr.alloc (.cells #[.int .u32 (tkI xs k), .int .i64 (tsI xs k)] 67)).heap.size = wr.heap.size + 1 := by show (wr.heap.push _).size = _; simp
        refine ⟨⟨k + 1, by omega, by go_num, ⟨_, hT3, p1⟩, ⟨_, hE3, p2⟩, ?_, by omega, b3, ?_⟩, by simp [intOf]; omega⟩
        · rw [hb3.block _ (by omega)]; exact nn2
        · intro j hj
          rcases Nat.lt_or_ge j k with h | h
          · exact hok j h
          · obtain rfl : j = k := by omega
            exact ok_yes (by omega) (by assumption) (by omega) (by omega)
      · have b3 := below3 (by omega) (by omega) hbel hsz hg1 hg2 hb3
        obtain rfl := lit_inj ((put_cnt hT.isMap hT' hat0 (by omega) _).symm.trans hat2)
        have hlt : k < n := by assumption
        go_ret
        exact ⟨ret_eq (rt_false (wt := wt) (td := td) hn hlt (ok_no (by omega))), b3⟩
      · have b3 := below3 (by omega) (by omega) hbel hsz hg1 hg2 hb3
        have hlt : k < n := by assumption
        go_ret
        exact ⟨ret_eq (rt_false (wt := wt) (td := td) hn hlt (ok_no (by omega))), b3⟩
      · have b3 := below3 (by omega) (by omega) hbel hsz hg1 hg2 (Below.refl _ _)
        have hlt : k < n := by assumption
        go_ret
        exact ⟨ret_eq (rt_false (wt := wt) (td := td) hn hlt (ok_no (by omega))), b3⟩
      · have : k = n := by omega
        subst this
        go_ret
        exact ⟨ret_eq (rt_true (wt := wt) (td := td) hn (by omega) (by omega) hok), hbel⟩
  · go_ret
    refine ⟨ret_eq (rt_out1 (by omega)), Below.alloc (Below.alloc (Below.refl _ _) (Nat.le_refl _) _) ?_ _⟩
    simp only [al_size]; omega
  · go_ret
    refine ⟨ret_eq (rt_out2 hn (by omega)), Below.alloc (Below.alloc (Below.refl _ _) (Nat.le_refl _) _) ?_ _⟩
    simp only [al_size]; omega
end Go.Proofs.YtmmliaobjendoaaDoor
