/- CondNone: the memory behind the first loop. No condition. -/
import Derived.Test.YtmmliaobjendoaaDoorPL5
namespace Go.Proofs.YtmmliaobjendoaaDoor
open SY
open Go.RowKit
set_option linter.unusedVariables false
set_option maxRecDepth 100000
theorem frC_len (x : Int) : ∀ j, (frC x j).length = j * 10
  | 0 => rfl
  | j + 1 => by
    show (frC x j ++ (fC 2 ((x + j) % 4294967296)).toList).length = _
    rw [List.length_append, frC_len x j]
    show j * 10 + 10 = _
    omega
theorem frC_at (x : Int) : ∀ (N j k : Nat) (v : Value), j < N → (fC 2 ((x + j) % 4294967296))[k]? = some v → (frC x N)[j * 10 + k]? = some v
  | 0, j, k, v, h, _ => absurd h (Nat.not_lt_zero _)
  | N + 1, j, k, v, h, hv => by
    have hk : k < 10 := by
      obtain ⟨h, _⟩ := Array.getElem?_eq_some_iff.1 hv
      exact h
    show (frC x N ++ (fC 2 ((x + N) % 4294967296)).toList)[j * 10 + k]? = _
    rcases Nat.lt_or_ge j N with hj | hj
    · rw [List.getElem?_append_left (by rw [frC_len]; omega)]
      exact frC_at x N j k v hj hv
    · obtain rfl : j = N := by omega
      rw [List.getElem?_append_right (by rw [frC_len]; omega), frC_len, show j * 10 + k - j * 10 = k by omega]
      simpa using hv
/-- From the second loop on: the condition and the mutex (p, p+1), the frames in block b0; from number i0 on the frames are as they were. -/
structure F3 (p b0 : Nat) (c m : Array Value) (fv : Value) (N i0 : Nat) (x : Int) (w0 w : World) : Prop where
  b : Below p w0 w
  h7 : w.heap[p]? = some (.cells c 30 (0, 0))
  h8 : w.heap[p + 1]? = some (.cells m 30 (0, 0))
  lt : b0 < w.heap.size
  fr : 0 < N → p + 2 ≤ b0 ∧ ∃ cur cap, fv = .slice (some ⟨b0, 0, none⟩) N cap ∧ w.heap[b0]? = some (.cells cur 33 (0, 0)) ∧ N * 10 ≤ cur.size ∧ ∀ j, i0 ≤ j → j < N → ∀ k v, (fC 2 ((x + j) % 4294967296))[k]? = some v → cur[j * 10 + k]? = some v
theorem L.f3 {p : Nat} {c m : Array Value} {fv : Value} {N : Nat} {x : Int} {w0 w : World} (h : L p c m fv N (frC x N) w0 w) : ∃ b0, F3 p b0 c m fv N 0 x w0 w := by
  rcases h.o.2 with ⟨rfl, rfl⟩ | ⟨b0, cap, cur, rfl, b1, b2, b3, b4, b5, b6⟩
  · exact ⟨p, h.b, h.h7, h.h8, lt_of_heap h.h7, fun h => absurd h (Nat.lt_irrefl _)⟩
  · refine ⟨b0, h.b, h.h7, h.h8, lt_of_heap b2, fun _ => ⟨b1, cur, cap, rfl, b2, by rw [b5]; exact Nat.mul_le_mul_right _ b3, fun j _ hj k v hv => ?_⟩⟩
    have hk : k < 10 := by
      obtain ⟨h, _⟩ := Array.getElem?_eq_some_iff.1 hv
      exact h
    have e := frC_at x N j k v hj hv
    rw [← b6, List.getElem?_take] at e
    rw [if_pos (by omega)] at e
    simpa using e
section
variable {p b0 : Nat} {c m : Array Value} {fv : Value} {N i0 : Nat} {x : Int} {w0 w : World}
/-- What an operation elsewhere leaves. -/
theorem F3.keep (h : F3 p b0 c m fv N i0 x w0 w) {w' : World} (hb : Below p w w') (h1 : w'.heap[p]? = w.heap[p]?) (h2 : w'.heap[p + 1]? = w.heap[p + 1]?) (h3 : w'.heap[b0]? = w.heap[b0]?) : F3 p b0 c m fv N i0 x w0 w' := by
  refine ⟨h.b.trans hb, h1.trans h.h7, h2.trans h.h8, Nat.lt_of_lt_of_le h.lt hb.size, fun hN => ?_⟩
  obtain ⟨a1, cur, cap, a2, a3, a4, a5⟩ := h.fr hN
  exact ⟨a1, cur, cap, a2, h3.trans a3, a4, a5⟩
theorem F3.below (h : F3 p b0 c m fv N i0 x w0 w) {w' : World} (hb : Below w.heap.size w w') : F3 p b0 c m fv N i0 x w0 w' := by
  have hq : p < w.heap.size := lt_of_heap h.h7
  exact h.keep (hb.mono (by omega)) (hb.block _ hq) (hb.block _ (lt_of_heap h.h8)) (hb.block _ h.lt)
theorem F3.drew (h : F3 p b0 c m fv N i0 x w0 w) : F3 p b0 c m fv N i0 x w0 w.drew := h.below (Below.refl _ _).drew
theorem F3.alloc (h : F3 p b0 c m fv N i0 x w0 w) (o : Obj) : F3 p b0 c m fv N i0 x w0 (w.alloc o) := h.below ((Below.refl _ _).alloc (Nat.le_refl _) _)
theorem F3.far (h : F3 p b0 c m fv N i0 x w0 w) {b k : Nat} {v : Value} (hb : p + 1 < b) (hn : b0 < b) : F3 p b0 c m fv N i0 x w0 (w.setCell ⟨b, k, none⟩ v) :=
  h.keep ((Below.refl _ _).setCell (by show p ≤ b; omega) _) (Below.heap_setCell _ _ _ _ (by show p ≠ b; omega)) (Below.heap_setCell _ _ _ _ (by show p + 1 ≠ b; omega)) (Below.heap_setCell _ _ _ _ (by show b0 ≠ b; omega))
theorem F3.next (h : F3 p b0 c m fv N i0 x w0 w) : F3 p b0 c m fv N (i0 + 1) x w0 w := by
  refine ⟨h.b, h.h7, h.h8, h.lt, fun hN => ?_⟩
  obtain ⟨a1, cur, cap, a2, a3, a4, a5⟩ := h.fr hN
  exact ⟨a1, cur, cap, a2, a3, a4, fun j hj => a5 j (by omega)⟩
theorem F3.set7 (h : F3 p b0 c m fv N i0 x w0 w) {k : Nat} {v : Value} (hk : k < c.size) : F3 p b0 (c.set k v hk) m fv N i0 x w0 (w.setCell ⟨p, k, none⟩ v) := by
  refine ⟨h.b.setCell (Nat.le_refl _) _, set_heap h.h7 hk, far_heap h.h8 (by omega), by simpa [World.setCell] using h.lt, fun hN => ?_⟩
  obtain ⟨a1, cur, cap, a2, a3, a4, a5⟩ := h.fr hN
  exact ⟨a1, cur, cap, a2, far_heap a3 (by omega), a4, a5⟩
theorem F3.set8 (h : F3 p b0 c m fv N i0 x w0 w) {k : Nat} {v : Value} (hk : k < m.size) : F3 p b0 c (m.set k v hk) fv N i0 x w0 (w.setCell ⟨p + 1, k, none⟩ v) := by
  refine ⟨h.b.setCell (by show p ≤ p + 1; omega) _, far_heap h.h7 (by omega), set_heap h.h8 hk, by simpa [World.setCell] using h.lt, fun hN => ?_⟩
  obtain ⟨a1, cur, cap, a2, a3, a4, a5⟩ := h.fr hN
  exact ⟨a1, cur, cap, a2, far_heap a3 (by omega), a4, a5⟩
theorem F3.setF (h : F3 p b0 c m fv N i0 x w0 w) {k : Nat} {v : Value} (hN : 0 < N) (hk : k < i0 * 10) (hi : i0 ≤ N) : F3 p b0 c m fv N i0 x w0 (w.setCell ⟨b0, k, none⟩ v) := by
  obtain ⟨a1, cur, cap, a2, a3, a4, a5⟩ := h.fr hN
  have hk' : k < cur.size := by omega
  refine ⟨h.b.setCell (by show p ≤ b0; omega) _, far_heap h.h7 (by omega), far_heap h.h8 (by omega), by simpa [World.setCell] using h.lt, fun _ => ⟨a1, _, cap, a2, set_heap a3 hk', by simpa using a4, fun j hj hjN q u hu => ?_⟩⟩
  rw [Array.getElem?_set_ne hk' (by omega)]
  exact a5 j hj hjN q u hu
/-- A frame's cells. -/
theorem F3.at (h : F3 p b0 c m fv N i0 x w0 w) {j : Nat} (h1 : i0 ≤ j) (h2 : j < N) : ∀ k v, (fC 2 ((x + j) % 4294967296))[k]? = some v → w.cell? ⟨b0, j * 10 + k, none⟩ = some v ∧ w.frozen? ⟨b0, j * 10 + k, none⟩ = false := by
  intro k v hv
  obtain ⟨a1, cur, cap, a2, a3, a4, a5⟩ := h.fr (by omega)
  exact ⟨((cell_pg a3 _).1).trans (a5 j h1 h2 k v hv), (cell_pg a3 _).2⟩
end
/-- Slices lie outside these blocks. -/
def gS (s : Nat → Prop) : G := ⟨fun _ => none, fun _ => none, fun _ => none, fun b f => s b ∧ f = 0⟩
theorem gS_bound {s : Nat → Prop} {w : World} (h : ∀ b, s b → b < w.heap.size) : Bound (gS s) w := by
  intro b f hl
  rcases hl with ⟨_, k, hk⟩ | ⟨k, hk⟩ | hp
  · cases hk
  · cases hk
  · exact h b hp.1
theorem cell_add {w w' : World} {A : Addr} {j : Nat} (hs : A.spot = none) (h : w'.heap[A.block]? = w.heap[A.block]?) : w'.cell? (A.add j) = w.cell? (A.add j) := by
  obtain ⟨b, o, s⟩ := A
  subst hs
  rw [Addr.add_lit]
  show w'.cell? ⟨b, o + j, none⟩ = w.cell? ⟨b, o + j, none⟩
  have h : w'.heap[b]? = w.heap[b]? := h
  simp [World.cell?, h]
/-- Slices elsewhere stay. -/
theorem sl_keep {s : Nat → Prop} {W W' : World} {ks : List CK} {xs : List Int} {v : Value} (h : DC (gS s) W (.sl ks xs none) v) (hs : W.heap.size ≤ W'.heap.size) (hb : ∀ k, k < W.heap.size → ¬ s k → W'.heap[k]? = W.heap[k]?) : DC (gS s) W' (.sl ks xs none) v := by
  obtain ⟨A, k, c, rfl, hS⟩ := h
  refine ⟨A, k, c, rfl, hS.cap, hS.most, hS.pos, hS.len, hS.nil, fun B hB => ⟨fun hp => ?_, ?_⟩, trivial⟩
  · have f := (hS.at_ B hB).1 hp
    exact ⟨f.spot, Nat.lt_of_lt_of_le f.lt hs, f.lim⟩
  · rcases Nat.eq_zero_or_pos xs.length with h0 | hp
    · intro j u hu
      have : j < (encV ks xs).length := by
        obtain ⟨h, _⟩ := List.getElem?_eq_some_iff.1 hu
        exact h
      rw [encV_len] at this
      omega
    · have f := (hS.at_ B hB).1 hp
      have no : ¬ s B.block := fun e => by
        have := f.lim 0 (.inr (.inr ⟨e, rfl⟩))
        omega
      exact (hS.at_ B hB).2.keep fun j _ => cell_add f.spot (hb _ f.lt no)
theorem sl_below {s : Nat → Prop} {W W' : World} {ks : List CK} {xs : List Int} {v : Value} (h : DC (gS s) W (.sl ks xs none) v) (hb : Below W.heap.size W W') : DC (gS s) W' (.sl ks xs none) v :=
  sl_keep h hb.size fun k hk _ => hb.block k hk
theorem sl_drew {s : Nat → Prop} {W : World} {ks : List CK} {xs : List Int} {v : Value} (h : DC (gS s) W (.sl ks xs none) v) : DC (gS s) W.drew (.sl ks xs none) v := sl_below h (Below.refl _ _).drew
theorem sl_set {s : Nat → Prop} {W : World} {ks : List CK} {xs : List Int} {v u : Value} {b k : Nat} (h : DC (gS s) W (.sl ks xs none) v) (hb : s b) : DC (gS s) (W.setCell ⟨b, k, none⟩ u) (.sl ks xs none) v :=
  sl_keep h (by simp [World.setCell]) fun i _ hn => Below.heap_setCell _ _ _ _ (fun e => hn (by rw [show i = b from e]; exact hb))
/-- A new block is one of those. -/
theorem sl_new {s s' : Nat → Prop} {W W' : World} {ks : List CK} {xs : List Int} {v : Value} (h : DC (gS s) W (.sl ks xs none) v) (hb : Below W.heap.size W W') (hs : ∀ b, s' b → s b ∨ W.heap.size ≤ b) : DC (gS s') W' (.sl ks xs none) v := by
  obtain ⟨A, k, c, rfl, hS⟩ := sl_below h hb
  obtain ⟨A', k', c', e, hS0⟩ := h
  cases e
  refine ⟨A, k, c, rfl, hS.cap, hS.most, hS.pos, hS.len, hS.nil, fun B hB => ⟨fun hp => ?_, (hS.at_ B hB).2⟩, trivial⟩
  have f := (hS.at_ B hB).1 hp
  have f0 := (hS0.at_ B hB).1 hp
  refine ⟨f.spot, f.lt, fun d hd => ?_⟩
  rcases hd with ⟨_, k, hk⟩ | ⟨k, hk⟩ | hp'
  · cases hk
  · cases hk
  · rcases hs _ hp'.1 with h1 | h1
    · exact f.lim d (.inr (.inr ⟨h1, hp'.2⟩))
    · have := f0.lt
      omega
theorem sl_len1 {g : G} {W : World} {ks : List CK} {xs : List Int} {A : Option Addr} {n c : Nat} (h : DC g W (.sl ks xs none) (.slice A n c)) : xs.length = n * ks.length := by
  obtain ⟨_, _, _, e, hS⟩ := h
  cases e
  exact hS.len
/-- A block that an operation of a drawn region may have made already. -/
def Nb (B : Nat) (l : Bool) (b : Nat) (v : Value) (o : Obj) (s : Nat → Prop) (w : World) : Prop := l = true → v = .pointer (some ⟨b, 0, none⟩) ∧ B ≤ b ∧ w.heap[b]? = some o ∧ s b
theorem Nb.keep {B : Nat} {l : Bool} {b : Nat} {v : Value} {o : Obj} {s s' : Nat → Prop} {w w' : World} (h : Nb B l b v o s w) (hb : Below w.heap.size w w') (hs : ∀ b, s b → s' b) : Nb B l b v o s' w' := fun e => by
  obtain ⟨h1, h2, h3, h4⟩ := h e
  exact ⟨h1, h2, (hb.block _ (lt_of_heap h3)).trans h3, hs _ h4⟩
theorem Nb.no (B b : Nat) (v : Value) (o : Obj) (s : Nat → Prop) (w : World) : Nb B false b v o s w := fun e => Bool.noConfusion e
def z30 : Obj := .cells #[.int .i64 0, .int .i64 0, .int .i64 0, .int .i64 0, .int .i64 0, .int .i64 0, .int .i64 0, .int .u32 0, .int .u32 0, .slice none 0 0, .slice none 0 0] 30
def z33 : Obj := .cells #[.int .i64 0, .int .i64 0, .int .i64 0, .int .i64 0, .int .i64 0, .int .i64 0, .bool false, .bool false, .int .i64 0, .bool false] 33
def z39 : Obj := .cells #[.bool false, .bool false, .bool false, .int .i64 0, .int .i64 0, .int .u64 0, .slice none 0 0] 39
/-- What was fixed when the region began. -/
structure RF where
  p : Nat
  b0 : Nat
  c : Array Value
  m : Array Value
  fv : Value
  N : Nat
  i0 : Nat
  x : Int
  w0 : World
  B : Nat
  ns : List Int
  ns' : List Int
  v : Value
  wt : Int
  td : Int
  pk : Bool
abbrev RF.f3 (r : RF) (w : World) : Prop := F3 r.p r.b0 r.c r.m r.fv r.N r.i0 r.x r.w0 w
/-- A drawn region with one call and four new blocks: what stands, whatever has come up. -/
structure MJ (r : RF) (l7 l1 l2 l3 l4 : Bool) (v1 v2 v3 v4 u0 u1 u2 u3 u4 u5 : Value) (w : World) (b1 b2 b3 b4 : Nat) (s : Nat → Prop) : Prop where
  f : r.f3 w
  n1 : Nb r.B l1 b1 v1 z30 s w
  n2 : Nb r.B l2 b2 v2 z30 s w
  n3 : Nb r.B l3 b3 v3 z33 s w
  n4 : Nb r.B l4 b4 v4 z39 s w
  d12 : l1 = true → l2 = true → b1 ≠ b2
  d13 : l1 = true → l3 = true → b1 ≠ b3
  d14 : l1 = true → l4 = true → b1 ≠ b4
  d23 : l2 = true → l3 = true → b2 ≠ b3
  d24 : l2 = true → l4 = true → b2 ≠ b4
  d34 : l3 = true → l4 = true → b3 ≠ b4
  sp : s r.p ∧ s (r.p + 1) ∧ s r.b0
  sb : ∀ b, s b → b < w.heap.size
  bb : r.B ≤ w.heap.size
  pre : l7 = false → WS (gS s) w r.ns r.v
  post : l7 = true → ∃ A k c B j b, WS (gS s) w r.ns' (.slice A k c) ∧ u0 = .tuple #[.agg (cC r.wt r.td (.slice A k c)), .agg (mC 0), .agg (fC 3 0), .agg (aC false r.pk (.slice B j b))] ∧ u1 = u0 ∧ u2 = .agg (cC r.wt r.td (.slice A k c)) ∧ u3 = .agg (mC 0) ∧ u4 = .agg (fC 3 0) ∧ u5 = .agg (aC false r.pk (.slice B j b))
def MI (r : RF) (l7 l1 l2 l3 l4 : Bool) (v1 v2 v3 v4 u0 u1 u2 u3 u4 u5 : Value) (w : World) : Prop := ∃ b1 b2 b3 b4 s, MJ r l7 l1 l2 l3 l4 v1 v2 v3 v4 u0 u1 u2 u3 u4 u5 w b1 b2 b3 b4 s
section
variable {r : RF} {l7 l1 l2 l3 l4 : Bool} {v1 v2 v3 v4 u0 u1 u2 u3 u4 u5 : Value} {w : World}
theorem MI.start {s : Nat → Prop} (h : r.f3 w) (hs : s r.p ∧ s (r.p + 1) ∧ s r.b0) (hb : ∀ b, s b → b < w.heap.size) (hB : r.B ≤ w.heap.size) (hw : WS (gS s) w r.ns r.v) (v1 v2 v3 v4 u0 u1 u2 u3 u4 u5 : Value) : MI r false false false false false v1 v2 v3 v4 u0 u1 u2 u3 u4 u5 w :=
  ⟨0, 0, 0, 0, s, h, Nb.no _ _ _ _ _ _, Nb.no _ _ _ _ _ _, Nb.no _ _ _ _ _ _, Nb.no _ _ _ _ _ _, fun e => (nomatch e), fun e => (nomatch e), fun e => (nomatch e), fun e => (nomatch e), fun e => (nomatch e), fun e => (nomatch e), hs, hb, hB, fun _ => hw, fun e => (nomatch e)⟩
theorem nb_ne {B : Nat} {l : Bool} {b : Nat} {v : Value} {o : Obj} {s : Nat → Prop} {w : World} (h : Nb B l b v o s w) (e : l = true) : b ≠ w.heap.size := by
  have := lt_of_heap (h e).2.2.1
  omega
theorem al_below (w : World) (o : Obj) : Below w.heap.size w (w.alloc o) := (Below.refl _ _).alloc (Nat.le_refl _) _
theorem MI.alloc_core {b1 b2 b3 b4 : Nat} {s : Nat → Prop} (h : MJ r l7 l1 l2 l3 l4 v1 v2 v3 v4 u0 u1 u2 u3 u4 u5 w b1 b2 b3 b4 s) (o : Obj) : MJ r l7 l1 l2 l3 l4 v1 v2 v3 v4 u0 u1 u2 u3 u4 u5 (w.alloc o) b1 b2 b3 b4 (fun b => s b ∨ b = w.heap.size) := by
  have hb := al_below w o
  have k : ∀ b, s b → (s b ∨ b = w.heap.size) := fun _ h => .inl h
  have n : ∀ b, (s b ∨ b = w.heap.size) → s b ∨ w.heap.size ≤ b := fun b h => h.imp id fun e => by omega
  refine ⟨h.f.alloc o, h.n1.keep hb k, h.n2.keep hb k, h.n3.keep hb k, h.n4.keep hb k, h.d12, h.d13, h.d14, h.d23, h.d24, h.d34, ⟨.inl h.sp.1, .inl h.sp.2.1, .inl h.sp.2.2⟩, fun b hs => ?_, Nat.le_trans h.bb hb.size, fun e => sl_new (h.pre e) hb n, fun e => ?_⟩
  · rw [al_size']
    rcases hs with h1 | h1
    · have := h.sb b h1; omega
    · omega
  · obtain ⟨A, k, c, B, j, b, hw, ht⟩ := h.post e
    exact ⟨A, k, c, B, j, b, sl_new hw hb n, ht⟩
theorem MI.alloc1 (h : MI r l7 false l2 l3 l4 v1 v2 v3 v4 u0 u1 u2 u3 u4 u5 w) : MI r l7 true l2 l3 l4 (.pointer (some ⟨w.heap.size, 0, none⟩)) v2 v3 v4 u0 u1 u2 u3 u4 u5 (w.alloc z30) := by
  obtain ⟨b1, b2, b3, b4, s, h⟩ := h
  have k := MI.alloc_core h z30
  exact ⟨w.heap.size, b2, b3, b4, _, { k with
    n1 := fun _ => ⟨rfl, h.bb, heap_alloc_new w _, .inr rfl⟩
    d12 := fun _ e => (nb_ne h.n2 e).symm
    d13 := fun _ e => (nb_ne h.n3 e).symm
    d14 := fun _ e => (nb_ne h.n4 e).symm }⟩
theorem MI.alloc2 (h : MI r l7 l1 false l3 l4 v1 v2 v3 v4 u0 u1 u2 u3 u4 u5 w) : MI r l7 l1 true l3 l4 v1 (.pointer (some ⟨w.heap.size, 0, none⟩)) v3 v4 u0 u1 u2 u3 u4 u5 (w.alloc z30) := by
  obtain ⟨b1, b2, b3, b4, s, h⟩ := h
  have k := MI.alloc_core h z30
  exact ⟨b1, w.heap.size, b3, b4, _, { k with
    n2 := fun _ => ⟨rfl, h.bb, heap_alloc_new w _, .inr rfl⟩
    d12 := fun e _ => nb_ne h.n1 e
    d23 := fun _ e => (nb_ne h.n3 e).symm
    d24 := fun _ e => (nb_ne h.n4 e).symm }⟩
theorem MI.alloc3 (h : MI r l7 l1 l2 false l4 v1 v2 v3 v4 u0 u1 u2 u3 u4 u5 w) : MI r l7 l1 l2 true l4 v1 v2 (.pointer (some ⟨w.heap.size, 0, none⟩)) v4 u0 u1 u2 u3 u4 u5 (w.alloc z33) := by
  obtain ⟨b1, b2, b3, b4, s, h⟩ := h
  have k := MI.alloc_core h z33
  exact ⟨b1, b2, w.heap.size, b4, _, { k with
    n3 := fun _ => ⟨rfl, h.bb, heap_alloc_new w _, .inr rfl⟩
    d13 := fun e _ => nb_ne h.n1 e
    d23 := fun e _ => nb_ne h.n2 e
    d34 := fun _ e => (nb_ne h.n4 e).symm }⟩
theorem MI.alloc4 (h : MI r l7 l1 l2 l3 false v1 v2 v3 v4 u0 u1 u2 u3 u4 u5 w) : MI r l7 l1 l2 l3 true v1 v2 v3 (.pointer (some ⟨w.heap.size, 0, none⟩)) u0 u1 u2 u3 u4 u5 (w.alloc z39) := by
  obtain ⟨b1, b2, b3, b4, s, h⟩ := h
  have k := MI.alloc_core h z39
  exact ⟨b1, b2, b3, w.heap.size, _, { k with
    n4 := fun _ => ⟨rfl, h.bb, heap_alloc_new w _, .inr rfl⟩
    d14 := fun e _ => nb_ne h.n1 e
    d24 := fun e _ => nb_ne h.n2 e
    d34 := fun e _ => nb_ne h.n3 e }⟩
theorem MI.f3 (h : MI r l7 l1 l2 l3 l4 v1 v2 v3 v4 u0 u1 u2 u3 u4 u5 w) : r.f3 w := by
  obtain ⟨b1, b2, b3, b4, s, h⟩ := h
  exact h.f
/-- The call. -/
theorem MJ.call {b1 b2 b3 b4 : Nat} {s : Nat → Prop} (h : MJ r false l1 l2 l3 l4 v1 v2 v3 v4 u0 u1 u2 u3 u4 u5 w b1 b2 b3 b4 s) {w' : World} {A : Option Addr} {k c : Nat} {B : Option Addr} {j b : Nat} (hw : WS (gS s) w' r.ns' (.slice A k c)) (hb : Below w.heap.size w w') :
    MI r true l1 l2 l3 l4 v1 v2 v3 v4 (.tuple #[.agg (cC r.wt r.td (.slice A k c)), .agg (mC 0), .agg (fC 3 0), .agg (aC false r.pk (.slice B j b))]) (.tuple #[.agg (cC r.wt r.td (.slice A k c)), .agg (mC 0), .agg (fC 3 0), .agg (aC false r.pk (.slice B j b))]) (.agg (cC r.wt r.td (.slice A k c))) (.agg (mC 0)) (.agg (fC 3 0)) (.agg (aC false r.pk (.slice B j b))) w' := by
  have k' : ∀ b, s b → s b := fun _ h => h
  exact ⟨b1, b2, b3, b4, s, h.f.below hb, h.n1.keep hb k', h.n2.keep hb k', h.n3.keep hb k', h.n4.keep hb k', h.d12, h.d13, h.d14, h.d23, h.d24, h.d34, h.sp, fun b hs => Nat.lt_of_lt_of_le (h.sb b hs) hb.size, Nat.le_trans h.bb hb.size, fun e => (nomatch e), fun _ => ⟨A, k, c, B, j, b, hw, rfl, rfl, rfl, rfl, rfl, rfl⟩⟩
end
end Go.Proofs.YtmmliaobjendoaaDoor
