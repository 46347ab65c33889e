/- Looking through waiters by a function value: by hand. No condition. -/
import Derived.Test.YtmmliaobjendoaaDoorPN3
import Derived.Test.YtmmliaobjendoaaDoorSyX
namespace Go.Proofs.YtmmliaobjendoaaDoor
open Go.RowKit Go.Maps
set_option linter.unusedVariables false
def ixF (φ : Nat → Bool) : Nat → Nat → Int
  | 0, _ => -1
  | m + 1, k => if φ k then k else ixF φ m (k + 1)
theorem ixF_end {φ : Nat → Bool} : ∀ (m k : Nat), (∀ j, k ≤ j → j < k + m → φ j = false) → ixF φ m k = -1
  | 0, _, _ => rfl
  | m + 1, k, h => by
    unfold ixF
    rw [h k (Nat.le_refl _) (by omega)]
    exact ixF_end m (k + 1) fun j h1 h2 => h j (by omega) (by omega)
theorem ixF_at {φ : Nat → Bool} : ∀ (m k j : Nat), k ≤ j → j < k + m → φ j = true → (∀ i, k ≤ i → i < j → φ i = false) → ixF φ m k = j
  | 0, k, j, h1, h2, _, _ => by omega
  | m + 1, k, j, h1, h2, h3, h4 => by
    unfold ixF
    rcases Nat.eq_or_lt_of_le h1 with rfl | h
    · rw [h3]; rfl
    · rw [h4 k (Nat.le_refl _) h]
      exact ixF_at m (k + 1) j h (by omega) h3 fun i a b => h4 i (by omega) b
theorem ret_int {a b : Int} (h : a = b) : Ending.returned (.int .i64 a) = Ending.returned (.int .i64 b) := by rw [h]
set_option maxRecDepth 100000 in
theorem index_same (φ : Nat → Bool) (x y : Nat → Int) (caps : Array Value) (w : World) (b off n c : Nat) (hb : b < w.heap.size) (hn : n ≤ 1000000)
    (h0 : ∀ k, k < n → w.cell? ⟨b, off + k * 2, none⟩ = some (.int .u32 (x k))) (h1 : ∀ k, k < n → w.cell? ⟨b, off + k * 2 + 1, none⟩ = some (.int .i64 (y k))) 
    (hcl : ∀ k w', k < n → Below w.heap.size w w' → Calls Tryd.prog 28 (#[.agg #[.int .u32 (x k), .int .i64 (y k)]] ++ caps) w' fun e w'' => e = .returned (.bool (φ k)) ∧ Below w'.heap.size w' w'') :
    Calls Tryd.prog 24 #[.slice (some ⟨b, off, none⟩) n c, .func (.func 28) #[] caps] w fun e w' => e = .returned (.int .i64 (ixF φ n 0)) ∧ Below w.heap.size w w' := by
  go_enter Tryd.func24, Tryd.ntmps24
  go_wp2
  go_loopw [8] (fun i wr => ∃ k : Nat, k ≤ n ∧ i = .int .i64 k ∧ (∀ j, j < k → φ j = false) ∧ Below w.heap.size w wr) (fun i _ => n - (intOf i).toNat)
  case atStart => exact ⟨0, Nat.zero_le _, rfl, fun j hj => absurd hj (Nat.not_lt_zero _), Below.refl _ _⟩
  case round =>
    obtain ⟨k, hk, rfl, hno, hbel⟩ := hrel
    have hc0 : k < n → wr.cell? ⟨b, off + k * 2, none⟩ = some (.int .u32 (x k)) := fun h => (hbel.cell (by exact hb)).trans (h0 k h)
    have hc1 : k < n → wr.cell? ⟨b, off + k * 2 + 1, none⟩ = some (.int .i64 (y k)) := fun h => (hbel.cell (by exact hb)).trans (h1 k h)
    go_wp2_with (first | (go_at_call 28; refine (hcl k _ (by assumption) hbel).mono ?_; rintro e w1 ⟨rfl, hb1⟩) | go_in)
    · have hlt : k < n := by assumption
      have hp : φ k = true := by assumption
      go_ret
      exact ⟨ret_int (ixF_at n 0 k (Nat.zero_le _) (by omega) hp fun i _ h => hno i h).symm, hbel.trans (hb1.mono hbel.size)⟩
    · have hlt : k < n := by assumption
      have hp : φ k = false := by assumption
      refine ⟨⟨k + 1, by omega, by go_num, fun j hj => ?_, hbel.trans (hb1.mono hbel.size)⟩, by simp [intOf]; omega⟩
      rcases Nat.lt_or_ge j k with h | h
      · exact hno j h
      · obtain rfl : j = k := by omega
        exact hp
    · have : k = n := by omega
      subst this
      go_ret
      exact ⟨ret_int (ixF_end k 0 fun j _ h => hno j (by omega)).symm, hbel⟩
set_option maxRecDepth 100000 in
theorem index_same_none (a : Option Addr) (caps : Array Value) (w : World) (c : Nat) :
    Calls Tryd.prog 24 #[.slice a 0 c, .func (.func 28) #[] caps] w fun e w' => e = .returned (.int .i64 (-1)) ∧ Below w.heap.size w w' := by
  go_enter Tryd.func24, Tryd.ntmps24
  go_wp2
  refine wp_loop_rounds 1 ?_
  rw [rounds_succ]; go_wp2
  go_ret
  exact ⟨rfl, Below.refl _ _⟩
set_option maxRecDepth 100000 in
theorem index_told (φ : Nat → Bool) (x y : Nat → Int) (caps : Array Value) (w : World) (b off n c : Nat) (hb : b < w.heap.size) (hn : n ≤ 1000000)
    (h0 : ∀ k, k < n → w.cell? ⟨b, off + k * 2, none⟩ = some (.int .u32 (x k))) (h1 : ∀ k, k < n → w.cell? ⟨b, off + k * 2 + 1, none⟩ = some (.int .i64 (y k))) 
    (hcl : ∀ k w', k < n → Below w.heap.size w w' → Calls Tryd.prog 25 (#[.agg #[.int .u32 (x k), .int .i64 (y k)]] ++ caps) w' fun e w'' => e = .returned (.bool (φ k)) ∧ Below w'.heap.size w' w'') :
    Calls Tryd.prog 24 #[.slice (some ⟨b, off, none⟩) n c, .func (.func 25) #[] caps] w fun e w' => e = .returned (.int .i64 (ixF φ n 0)) ∧ Below w.heap.size w w' := by
  go_enter Tryd.func24, Tryd.ntmps24
  go_wp2
  go_loopw [8] (fun i wr => ∃ k : Nat, k ≤ n ∧ i = .int .i64 k ∧ (∀ j, j < k → φ j = false) ∧ Below w.heap.size w wr) (fun i _ => n - (intOf i).toNat)
  case atStart => exact ⟨0, Nat.zero_le _, rfl, fun j hj => absurd hj (Nat.not_lt_zero _), Below.refl _ _⟩
  case round =>
    obtain ⟨k, hk, rfl, hno, hbel⟩ := hrel
    have hc0 : k < n → wr.cell? ⟨b, off + k * 2, none⟩ = some (.int .u32 (x k)) := fun h => (hbel.cell (by exact hb)).trans (h0 k h)
    have hc1 : k < n → wr.cell? ⟨b, off + k * 2 + 1, none⟩ = some (.int .i64 (y k)) := fun h => (hbel.cell (by exact hb)).trans (h1 k h)
    go_wp2_with (first | (go_at_call 25; refine (hcl k _ (by assumption) hbel).mono ?_; rintro e w1 ⟨rfl, hb1⟩) | go_in)
    · have hlt : k < n := by assumption
      have hp : φ k = true := by assumption
      go_ret
      exact ⟨ret_int (ixF_at n 0 k (Nat.zero_le _) (by omega) hp fun i _ h => hno i h).symm, hbel.trans (hb1.mono hbel.size)⟩
    · have hlt : k < n := by assumption
      have hp : φ k = false := by assumption
      refine ⟨⟨k + 1, by omega, by go_num, fun j hj => ?_, hbel.trans (hb1.mono hbel.size)⟩, by simp [intOf]; omega⟩
      rcases Nat.lt_or_ge j k with h | h
      · exact hno j h
      · obtain rfl : j = k := by omega
        exact hp
    · have : k = n := by omega
      subst this
      go_ret
      exact ⟨ret_int (ixF_end k 0 fun j _ h => hno j (by omega)).symm, hbel⟩
set_option maxRecDepth 100000 in
theorem index_told_none (a : Option Addr) (caps : Array Value) (w : World) (c : Nat) :
    Calls Tryd.prog 24 #[.slice a 0 c, .func (.func 25) #[] caps] w fun e w' => e = .returned (.int .i64 (-1)) ∧ Below w.heap.size w w' := by
  go_enter Tryd.func24, Tryd.ntmps24
  go_wp2
  refine wp_loop_rounds 1 ?_
  rw [rounds_succ]; go_wp2
  go_ret
  exact ⟨rfl, Below.refl _ _⟩
set_option maxRecDepth 100000 in
theorem clo27 (x y t s : Int) (bt bs : Nat) (w : World) (ht : w.cell? ⟨bt, 0, none⟩ = some (.int .u32 t)) (hs : w.cell? ⟨bs, 0, none⟩ = some (.int .i64 s)) :
    Calls Tryd.prog 28 #[.agg #[.int .u32 x, .int .i64 y], .pointer (some ⟨bt, 0, none⟩), .pointer (some ⟨bs, 0, none⟩)] w fun e w' => e = .returned (.bool (decide (x = t) || decide (y = s))) ∧ Below w.heap.size w w' := by
  have lt : bt < w.heap.size := World.block_lt_of_cell? w _ ht
  have ls : bs < w.heap.size := World.block_lt_of_cell? w _ hs
  have ht' : (w.alloc (.cells #[.int .u32 x, .int .i64 y] 67)).cell? ⟨bt, 0, none⟩ = some (.int .u32 t) := (((Below.refl w.heap.size w).alloc (Nat.le_refl _) _).cell (by exact lt)).trans ht
  have hs' : (w.alloc (.cells #[.int .u32 x, .int .i64 y] 67)).cell? ⟨bs, 0, none⟩ = some (.int .i64 s) := (((Below.refl w.heap.size w).alloc (Nat.le_refl _) _).cell (by exact ls)).trans hs
  go_enter Tryd.func28, Tryd.ntmps28
  go_wp2
  · have e : x = t := by omega
    subst e
    go_ret
    exact ⟨ret_eq (by simp), (Below.refl _ _).alloc (Nat.le_refl _) _⟩
  · go_ret
    refine ⟨ret_eq ?_, (Below.refl _ _).alloc (Nat.le_refl _) _⟩
    have q : ∀ a b : Int, (a == b) = decide (a = b) := fun a b => by by_cases h : a = b <;> simp [h]
    rw [q, q]
set_option maxRecDepth 100000 in
theorem clo33 (x y t : Int) (u v : Value) (b : Nat) (w : World) (ht : w.heap[b]? = some (.cells #[u, .int .u32 t, v] 26 (0, 0))) :
    Calls Tryd.prog 25 #[.agg #[.int .u32 x, .int .i64 y], .pointer (some ⟨b, 0, none⟩)] w fun e w' => e = .returned (.bool (decide (x = t))) ∧ Below w.heap.size w w' := by
  have ht' := (three_cells (al_heap (o' := .cells #[.int .u32 x, .int .i64 y] 67) ht)).2.1
  go_enter Tryd.func25, Tryd.ntmps25
  go_wp2
  go_ret
  refine ⟨ret_eq ?_, (Below.refl _ _).alloc (Nat.le_refl _) _⟩
  by_cases h : x = t <;> simp [h]
set_option maxRecDepth 100000 in
theorem contains_of (φ : Nat → Bool) (n : Nat) (v : Value) (caps : Array Value) (w : World)
    (hc : Calls Tryd.prog 24 #[v, .func (.func 28) #[] caps] w fun e w' => e = .returned (.int .i64 (ixF φ n 0)) ∧ Below w.heap.size w w') :
    Calls Tryd.prog 29 #[v, .func (.func 28) #[] caps] w fun e w' => e = .returned (.bool (decide (0 ≤ ixF φ n 0))) ∧ Below w.heap.size w w' := by
  go_enter Tryd.func29, Tryd.ntmps29
  go_wp2_with (first | (go_at_call 24; refine hc.mono ?_; rintro e w1 ⟨rfl, hb1⟩) | go_in)
  go_ret
  exact ⟨rfl, hb1⟩
/-! In the caller's memory -/
def sameF (xs : List Int) (t s : Int) (k : Nat) : Bool := decide (tkI xs k = t) || decide (tsI xs k = s)
def KeepHas (xs : List Int) (t s : Int) : Bool := decide (0 ≤ ixF (sameF xs t s) (xs.length / 2) 0)
def toldF (xs : List Int) (t : Int) (k : Nat) : Bool := decide (tkI xs k = t)
def KeepIx (xs : List Int) (t : Int) : Int := ixF (toldF xs t) (xs.length / 2) 0
def KeepLs (xs : List Int) : Prop := xs.length ≤ 1000000
open SY
noncomputable def cellU (bl : Tr (Option Blk)) (k : Nat) : Option (List SC) := match lkB bl k with
  | some (.cells l _) => some l
  | _ => none
noncomputable def xHas : XHk := fun _ args bl nx k => match args with
  | [.t (.c (.sl ks xs _)), .clo f [.own a oa, .own b ob]] => match ksEq ks [.int .u32, .int .i64] && (Nat.beq f 28 && (Nat.beq oa 0 && Nat.beq ob 0)) with
    | true => match lkB bl a, lkB bl b with
      | some (.cells [.v (.int .u32 t)] _), some (.cells [.v (.int .i64 s)] _) => KeepLs xs ∧ k (ofB (KeepHas xs t s)) bl nx
      | _, _ => False
    | false => False
  | _ => False
noncomputable def xIx : XHk := fun _ args bl nx k => match args with
  | [.t (.c (.sl ks xs _)), .clo f [.own a oa]] => match ksEq ks [.int .u32, .int .i64] && (Nat.beq f 25 && Nat.beq oa 0) with
    | true => match lkB bl a with
      | some (.cells [_, .v (.int .u32 t), _] ty) => match Nat.beq ty 26 with
        | true => KeepLs xs ∧ k (ofI .i64 (KeepIx xs t)) bl nx
        | false => False
      | _ => False
    | false => False
  | _ => False
theorem isFn_of {f : Nat} {fn : Func} (h1 : Tryd.prog.funcs[f]? = some fn) (h2 : fn.body.isSome = true) (h3 : (fn.name == "runtime.NumGoroutine") = false) : IsFn Tryd.prog f := by
  obtain ⟨c, hc⟩ := Option.isSome_iff_exists.1 h2
  exact ⟨_, c, h1, hc, h3⟩
/-- A slice's cells, as the walks want them. -/
theorem sl_cells {g : G} {w : World} {xs : List Int} {tok} {A : Addr} {n c : Nat} (h : SlI g w [.int .u32, .int .i64] xs tok (some A) n c) (hn : 0 < n) :
    A.spot = none ∧ A.block < w.heap.size ∧ (∀ k, k < n → w.cell? ⟨A.block, A.off + k * 2, none⟩ = some (.int .u32 (tkI xs k))) ∧ ∀ k, k < n → w.cell? ⟨A.block, A.off + k * 2 + 1, none⟩ = some (.int .i64 (tsI xs k)) := by
  obtain ⟨h1, h2⟩ := h.at_ A rfl
  have hl := h.len
  simp only [List.length_cons, List.length_nil] at hl
  have hf := h1 (by omega)
  have hsp := hf.spot
  refine ⟨hsp, hf.lt, fun k hk => ?_, fun k hk => ?_⟩
  · have := h2 (2 * k) _ (by rw [encV_get, List.getElem?_eq_getElem (show 2 * k < xs.length by omega)]; rfl)
    rw [add_none hsp] at this
    rw [show A.off + k * 2 = A.off + 2 * k by omega, this]
    have e : kAt [.int .u32, .int .i64] (2 * k) = .int .u32 := by simp [kAt]
    rw [e]
    simp [rdV, tkI, gI, List.getD_eq_getElem?_getD, List.getElem?_eq_getElem (show 2 * k < xs.length by omega)]
  · have := h2 (2 * k + 1) _ (by rw [encV_get, List.getElem?_eq_getElem (show 2 * k + 1 < xs.length by omega)]; rfl)
    rw [add_none hsp] at this
    rw [show A.off + k * 2 + 1 = A.off + (2 * k + 1) by omega, this]
    have e : kAt [.int .u32, .int .i64] (2 * k + 1) = .int .i64 := by
      have : (2 * k + 1) % 2 = 1 := by omega
      simp [kAt, this]
    rw [e]
    simp [rdV, tsI, gI, List.getD_eq_getElem?_getD, List.getElem?_eq_getElem (show 2 * k + 1 < xs.length by omega)]
theorem xHas_ok : XOK Tryd.prog 29 xHas := by
  intro inl _ _ args bl nx k h
  unfold xHas at h
  split at h <;> try (exact h.elim)
  rename_i ks xs tok f a oa b ob
  split at h <;> try (exact h.elim)
  rename_i hq
  simp only [Bool.and_eq_true] at hq
  obtain ⟨q1, q2, q3, q4⟩ := hq
  obtain rfl := ksEq_eq q1
  obtain rfl := Nat.eq_of_beq_eq_true q2
  obtain rfl := Nat.eq_of_beq_eq_true q3
  obtain rfl := Nat.eq_of_beq_eq_true q4
  split at h <;> try (exact h.elim)
  rename_i t _ s _ ha hb
  refine ⟨⟨isFn_of (fn := Tryd.f29) (by kernel_rfl) (by kernel_rfl) (by kernel_rfl), fun p w0 g w vals hv hm => ?_⟩, _, _, _, h.2⟩
  obtain ⟨v1, l, rfl, d1, hv⟩ := hv.cons_left
  obtain ⟨v2, l, rfl, d2, hv⟩ := hv.cons_left
  obtain rfl := hv.nil_left
  obtain ⟨us, rfl, d2⟩ := d2
  obtain ⟨p1, us1, rfl, ⟨ba, e1, rfl⟩, d3⟩ := d2.cons_left
  obtain ⟨p2, us2, rfl, ⟨bb, e2, rfl⟩, d4⟩ := d3.cons_left
  obtain rfl := d4.nil_left
  obtain ⟨ba', cs1, e1', _, m1, dc1⟩ := hm.blk a _ ha
  obtain ⟨bb', cs2, e2', _, m2, dc2⟩ := hm.blk b _ hb
  rw [e1] at e1'; cases e1'
  rw [e2] at e2'; cases e2'
  obtain ⟨z1, cs3, rfl, rfl, dc3⟩ := dc1.cons_left
  obtain rfl := dc3.nil_left
  obtain ⟨z2, cs4, rfl, rfl, dc4⟩ := dc2.cons_left
  obtain rfl := dc4.nil_left
  obtain ⟨a1, n1, c1, rfl, hS⟩ := d1
  have hl := hS.len
  simp only [List.length_cons, List.length_nil] at hl
  have k1 : w.cell? ⟨ba, 0, none⟩ = some (.int .u32 t) := by simp [World.cell?, m1]
  have k2 : w.cell? ⟨bb, 0, none⟩ = some (.int .i64 s) := by simp [World.cell?, m2]
  have hlen := h.1
  unfold KeepLs at hlen
  have key : Calls Tryd.prog 24 #[.slice a1 n1 c1, .func (.func 28) #[] #[.pointer (some ⟨ba, 0, none⟩), .pointer (some ⟨bb, 0, none⟩)]] w fun e w' => e = .returned (.int .i64 (ixF (sameF xs t s) n1 0)) ∧ Below w.heap.size w w' := by
    by_cases hn : n1 = 0
    · subst hn
      exact index_same_none a1 _ w c1
    · cases a1 with
      | none => exact absurd (hS.nil rfl).1 hn
      | some A =>
        obtain ⟨sp, hbk, x0, x1⟩ := sl_cells hS (by omega)
        obtain ⟨B, off, spot⟩ := A
        simp only at sp
        subst sp
        refine index_same (sameF xs t s) (tkI xs) (tsI xs) _ w B off n1 c1 hbk (by omega) x0 x1 fun k w' hk hbel => ?_
        exact clo27 (tkI xs k) (tsI xs k) t s ba bb w' ((hbel.cell (by exact World.block_lt_of_cell? w _ k1)).trans k1) ((hbel.cell (by exact World.block_lt_of_cell? w _ k2)).trans k2)
  refine (contains_of _ n1 _ _ w key).mono ?_
  rintro e w' ⟨rfl, hbel⟩
  refine ⟨_, _, _, _, g, rfl, h.2, ?_, hm.grow hbel, ext_below g hbel⟩
  show Value.bool _ = Value.bool _
  unfold KeepHas
  rw [show xs.length / 2 = n1 by omega]
theorem xIx_ok : XOK Tryd.prog 24 xIx := by
  intro inl _ _ args bl nx k h
  unfold xIx at h
  split at h <;> try (exact h.elim)
  rename_i ks xs tok f a oa
  split at h <;> try (exact h.elim)
  rename_i hq
  simp only [Bool.and_eq_true] at hq
  obtain ⟨q1, q2, q3⟩ := hq
  obtain rfl := ksEq_eq q1
  obtain rfl := Nat.eq_of_beq_eq_true q2
  obtain rfl := Nat.eq_of_beq_eq_true q3
  split at h <;> try (exact h.elim)
  rename_i c0 t c2 ty ha
  split at h <;> try (exact h.elim)
  rename_i hty
  obtain rfl := Nat.eq_of_beq_eq_true hty
  refine ⟨⟨isFn_of (fn := Tryd.f24) (by kernel_rfl) (by kernel_rfl) (by kernel_rfl), fun p w0 g w vals hv hm => ?_⟩, _, _, _, h.2⟩
  obtain ⟨v1, l, rfl, d1, hv⟩ := hv.cons_left
  obtain ⟨v2, l, rfl, d2, hv⟩ := hv.cons_left
  obtain rfl := hv.nil_left
  obtain ⟨us, rfl, d2⟩ := d2
  obtain ⟨p1, us1, rfl, ⟨ba, e1, rfl⟩, d3⟩ := d2.cons_left
  obtain rfl := d3.nil_left
  obtain ⟨ba', cs1, e1', _, m1, dc1⟩ := hm.blk a _ ha
  rw [e1] at e1'; cases e1'
  obtain ⟨z0, cs3, rfl, _, dc3⟩ := dc1.cons_left
  obtain ⟨z1, cs4, rfl, rfl, dc4⟩ := dc3.cons_left
  obtain ⟨z2, cs5, rfl, _, dc5⟩ := dc4.cons_left
  obtain rfl := dc5.nil_left
  obtain ⟨a1, n1, c1, rfl, hS⟩ := d1
  have hl := hS.len
  simp only [List.length_cons, List.length_nil] at hl
  have hlen := h.1
  unfold KeepLs at hlen
  have key : Calls Tryd.prog 24 #[.slice a1 n1 c1, .func (.func 25) #[] #[.pointer (some ⟨ba, 0, none⟩)]] w fun e w' => e = .returned (.int .i64 (ixF (toldF xs t) n1 0)) ∧ Below w.heap.size w w' := by
    by_cases hn : n1 = 0
    · subst hn
      exact index_told_none a1 _ w c1
    · cases a1 with
      | none => exact absurd (hS.nil rfl).1 hn
      | some A =>
        obtain ⟨sp, hbk, x0, x1⟩ := sl_cells hS (by omega)
        obtain ⟨B, off, spot⟩ := A
        simp only at sp
        subst sp
        refine index_told (toldF xs t) (tkI xs) (tsI xs) _ w B off n1 c1 hbk (by omega) x0 x1 fun k w' hk hbel => ?_
        exact clo33 (tkI xs k) (tsI xs k) t _ _ ba w' ((hbel.block _ (lt_of_heap m1)).trans m1)
  refine key.mono ?_
  rintro e w' ⟨rfl, hbel⟩
  refine ⟨_, _, _, _, g, rfl, h.2, ?_, hm.grow hbel, ext_below g hbel⟩
  show Value.int .i64 _ = Value.int .i64 _
  unfold KeepIx
  rw [show xs.length / 2 = n1 by omega]
end Go.Proofs.YtmmliaobjendoaaDoor
