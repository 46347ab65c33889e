/- A step of three objects, by hand: waiting. No condition. -/
import Derived.Test.YtapjehgfekjdaaaDoorLQ2
namespace Go.Proofs.YtapjehgfekjdaaaDoor
open SY
open Go.RowKit
set_option linter.unusedVariables false
set_option linter.unusedSimpArgs false
set_option maxRecDepth 100000
theorem has_calls (w : World) (b n c i : Nat) (k : Int) (kd : Int) (hi : i < n) (h : w.cell? ⟨b, i * 11, none⟩ = some (.int .i64 kd)) : Calls Tryd.prog 23 #[.slice (some ⟨b, 0, none⟩) n c, .int .i64 i, .int .i64 k] w fun e w' => e = .returned (.bool (kd == k)) ∧ Below w.heap.size w w' := by
  go_enter Tryd.func23, Tryd.ntmps23
  go_wp2
  go_ret
  exact ⟨rfl, Below.refl _ _⟩
def l3b : List Value := [.int .i64 1, .int .i64 1, .int .i64 0, .int .i64 0, .int .i64 0, .int .i64 0, .int .i64 0, .int .u32 0, .int .u32 0, .slice none 0 0, .slice none 0 0, .int .i64 5, .int .i64 0, .int .i64 0, .int .i64 0, .int .i64 0, .int .i64 0, .int .i64 0, .int .u32 0, .int .u32 0, .slice none 0 0, .slice none 0 0, .int .i64 6, .int .i64 4, .int .i64 2, .int .i64 0, .int .i64 0, .int .i64 0, .int .i64 0, .int .u32 0, .int .u32 0, .slice none 0 0, .slice none 0 0]
def l3a : List Value := [.int .i64 1, .int .i64 1, .int .i64 0, .int .i64 0, .int .i64 0, .int .i64 0, .int .i64 0, .int .u32 0, .int .u32 0, .slice none 0 0, .slice none 0 0, .int .i64 5, .int .i64 0, .int .i64 0, .int .i64 0, .int .i64 0, .int .i64 0, .int .i64 0, .int .u32 1, .int .u32 0, .slice none 0 0, .slice none 0 0, .int .i64 6, .int .i64 4, .int .i64 0, .int .i64 0, .int .i64 0, .int .i64 0, .int .i64 0, .int .u32 0, .int .u32 0, .slice none 0 0, .slice none 0 0]
theorem hasA (w : World) (b : Nat) (h : w.cell? ⟨b, 11, none⟩ = some (.int .i64 5)) : Calls Tryd.prog 23 #[.slice (some ⟨b, 0, none⟩) 3 3, .int .i64 1, .int .i64 5] w fun e w' => e = .returned (.bool true) ∧ Below w.heap.size w w' := has_calls w b 3 3 1 5 5 (by decide) h
theorem hasB (w : World) (b : Nat) (h : w.cell? ⟨b, 0, none⟩ = some (.int .i64 1)) : Calls Tryd.prog 23 #[.slice (some ⟨b, 0, none⟩) 3 3, .int .i64 0, .int .i64 1] w fun e w' => e = .returned (.bool true) ∧ Below w.heap.size w w' := has_calls w b 3 3 0 1 1 (by decide) h
/-- What stands while a step goes on: the instruction, the answers, the stepper, its objects. -/
structure PS (N S C : Nat) (x rf ra s c : Array Value) (w0 w : World) : Prop where
  b : Below N w0 w
  hx : w.heap[N]? = some (.cells x 24 (0, 0))
  hf : w.heap[N + 1 + 1 + 1]? = some (.cells rf 26 (0, 0))
  ha : w.heap[N + 1 + 1 + 1 + 1]? = some (.cells ra 38 (0, 0))
  hs : w.heap[S]? = some (.cells s 66 (0, 0))
  hc : w.heap[C]? = some (.cells c 53 (0, 0))
  l1 : N + 1 + 1 + 1 + 1 < C
  l2 : C < S
section
variable {N S C : Nat} {x rf ra s c : Array Value} {w0 w : World}
theorem PS.below {w' : World} (h : PS N S C x rf ra s c w0 w) (hb : Below w.heap.size w w') : PS N S C x rf ra s c w0 w' :=
  have k : ∀ {q : Nat} {o : Obj}, w.heap[q]? = some o → w'.heap[q]? = some o := fun e => (hb.block _ (lt_of_heap e)).trans e
  ⟨h.b.trans (hb.mono (Nat.le_of_lt (Nat.lt_of_le_of_lt (Nat.le_trans (Nat.le_add_right N 4) (Nat.le_of_lt h.l1)) (lt_of_heap h.hc)))), k h.hx, k h.hf, k h.ha, k h.hs, k h.hc, h.l1, h.l2⟩
theorem PS.set_c (h : PS N S C x rf ra s c w0 w) (c' : Array Value) : PS N S C x rf ra s c' w0 (w.setRow C c') := by
  have l1 := h.l1; have l2 := h.l2
  have k : ∀ {q : Nat} {o : Obj}, q ≠ C → w.heap[q]? = some o → (w.setRow C c').heap[q]? = some o := fun hq e => (setRow_other _ _ _ _ hq).trans e
  exact ⟨setRow_below h.b (by omega), k (by omega) h.hx, k (by omega) h.hf, k (by omega) h.ha, k (by omega) h.hs, setRow_heap _ _ _ _ _ _ h.hc, l1, l2⟩
theorem PS.set_s (h : PS N S C x rf ra s c w0 w) (s' : Array Value) : PS N S C x rf ra s' c w0 (w.setRow S s') := by
  have l1 := h.l1; have l2 := h.l2
  have k : ∀ {q : Nat} {o : Obj}, q ≠ S → w.heap[q]? = some o → (w.setRow S s').heap[q]? = some o := fun hq e => (setRow_other _ _ _ _ hq).trans e
  exact ⟨setRow_below h.b (by omega), k (by omega) h.hx, k (by omega) h.hf, k (by omega) h.ha, setRow_heap _ _ _ _ _ _ h.hs, k (by omega) h.hc, l1, l2⟩
theorem PS.set_f (h : PS N S C x rf ra s c w0 w) (s' : Array Value) : PS N S C x s' ra s c w0 (w.setRow (N + 1 + 1 + 1) s') := by
  have l1 := h.l1; have l2 := h.l2
  have k : ∀ {q : Nat} {o : Obj}, q ≠ N + 1 + 1 + 1 → w.heap[q]? = some o → (w.setRow (N + 1 + 1 + 1) s').heap[q]? = some o := fun hq e => (setRow_other _ _ _ _ hq).trans e
  exact ⟨setRow_below h.b (by omega), k (by omega) h.hx, setRow_heap _ _ _ _ _ _ h.hf, k (by omega) h.ha, k (by omega) h.hs, k (by omega) h.hc, l1, l2⟩
theorem PS.set_a (h : PS N S C x rf ra s c w0 w) (s' : Array Value) : PS N S C x rf s' s c w0 (w.setRow (N + 1 + 1 + 1 + 1) s') := by
  have l1 := h.l1; have l2 := h.l2
  have k : ∀ {q : Nat} {o : Obj}, q ≠ N + 1 + 1 + 1 + 1 → w.heap[q]? = some o → (w.setRow (N + 1 + 1 + 1 + 1) s').heap[q]? = some o := fun hq e => (setRow_other _ _ _ _ hq).trans e
  exact ⟨setRow_below h.b (by omega), k (by omega) h.hx, k (by omega) h.hf, setRow_heap _ _ _ _ _ _ h.ha, k (by omega) h.hs, k (by omega) h.hc, l1, l2⟩
end
theorem al_heap {w : World} {b : Nat} {o o' : Obj} (h : w.heap[b]? = some o) : (w.alloc o').heap[b]? = some o := by
  rw [Below.heap_alloc w o' b (lt_of_heap h)]; exact h
/-- Five new blocks. -/
theorem five_new (w : World) (a b c d e : Obj) : let w' := ((((w.alloc a).alloc b).alloc c).alloc d).alloc e
    w'.heap[w.heap.size]? = some a ∧ w'.heap[w.heap.size + 1]? = some b ∧ w'.heap[w.heap.size + 1 + 1]? = some c ∧ w'.heap[w.heap.size + 1 + 1 + 1]? = some d ∧ w'.heap[w.heap.size + 1 + 1 + 1 + 1]? = some e ∧ w'.heap.size = w.heap.size + 5 ∧ Below w.heap.size w w' := by
  have n1 := heap_alloc_new w a
  have n2 := heap_alloc_new (w.alloc a) b
  have n3 := heap_alloc_new ((w.alloc a).alloc b) c
  have n4 := heap_alloc_new (((w.alloc a).alloc b).alloc c) d
  have n5 := heap_alloc_new ((((w.alloc a).alloc b).alloc c).alloc d) e
  simp only [al_size] at n2 n3 n4 n5
  exact ⟨al_heap (al_heap (al_heap (al_heap n1))), al_heap (al_heap (al_heap n2)), al_heap (al_heap n3), al_heap n4, n5, by simp only [al_size], Below.alloc (Below.alloc (Below.alloc (Below.alloc (Below.alloc (Below.refl _ _) (Nat.le_refl _) _) (by simp only [al_size]; omega) _) (by simp only [al_size]; omega) _) (by simp only [al_size]; omega) _) (by simp only [al_size]; omega) _⟩
def inC (op a b c : Int) : Array Value := #[.int .i64 op, .int .i64 a, .int .i64 b, .int .i64 c]
def whC : Array Value := #[.int .i64 3, .int .u64 2, .int .i64 5, .int .i64 9]
def l3 : List Value := [.int .i64 1, .int .i64 1, .int .i64 0, .int .i64 0, .int .i64 0, .int .i64 0, .int .i64 0, .int .u32 0, .int .u32 0, .slice none 0 0, .slice none 0 0, .int .i64 5, .int .i64 0, .int .i64 0, .int .i64 0, .int .i64 0, .int .i64 0, .int .i64 0, .int .u32 0, .int .u32 0, .slice none 0 0, .slice none 0 0, .int .i64 6, .int .i64 4, .int .i64 0, .int .i64 0, .int .i64 0, .int .i64 0, .int .i64 0, .int .u32 0, .int .u32 0, .slice none 0 0, .slice none 0 0]
/-- The call's own five blocks. -/
structure R0 (N : Nat) (x f wh rf ra : Array Value) (w0 w : World) : Prop where
  b : Below N w0 w
  hx : w.heap[N]? = some (.cells x 24 (0, 0))
  h1 : w.heap[N + 1]? = some (.cells f 26 (0, 0))
  h2 : w.heap[N + 1 + 1]? = some (.cells wh 34 (0, 0))
  hf : w.heap[N + 1 + 1 + 1]? = some (.cells rf 26 (0, 0))
  ha : w.heap[N + 1 + 1 + 1 + 1]? = some (.cells ra 38 (0, 0))
theorem R0.lt {N : Nat} {x f wh rf ra : Array Value} {w0 w : World} (h : R0 N x f wh rf ra w0 w) : N + 1 + 1 + 1 + 1 < w.heap.size := lt_of_heap h.ha
theorem R0.below {N : Nat} {x f wh rf ra : Array Value} {w0 w w' : World} (h : R0 N x f wh rf ra w0 w) (hb : Below w.heap.size w w') : R0 N x f wh rf ra w0 w' :=
  have k : ∀ {q : Nat} {o : Obj}, w.heap[q]? = some o → w'.heap[q]? = some o := fun e => (hb.block _ (lt_of_heap e)).trans e
  ⟨h.b.trans (hb.mono (by have := h.lt; omega)), k h.hx, k h.h1, k h.h2, k h.hf, k h.ha⟩
theorem r0_new {w : World} {N : Nat} {x f wh rf ra : Array Value} (hN : w.heap.size = N) : R0 N x f wh rf ra w (((((w.alloc (.cells x 24)).alloc (.cells f 26)).alloc (.cells wh 34)).alloc (.cells rf 26)).alloc (.cells ra 38)) := by
  have hn := five_new w (.cells x 24) (.cells f 26) (.cells wh 34) (.cells rf 26) (.cells ra 38)
  subst hN
  exact ⟨hn.2.2.2.2.2.2, hn.1, hn.2.1, hn.2.2.1, hn.2.2.2.1, hn.2.2.2.2.1⟩
theorem ps_new {N C : Nat} {x f wh rf ra s c : Array Value} {w0 w : World} (h : R0 N x f wh rf ra w0 w) (hc : w.heap[C]? = some (.cells c 53 (0, 0))) (l1 : N + 1 + 1 + 1 + 1 < C) : PS N w.heap.size C x rf ra s c w0 (w.alloc (.cells s 66)) :=
  ⟨h.b.alloc (by have := h.lt; omega) _, al_heap h.hx, al_heap h.hf, al_heap h.ha, heap_alloc_new _ _, al_heap hc, l1, lt_of_heap hc⟩
theorem obj0 {w : World} {C t : Nat} {rest : List Value} (h : w.heap[C]? = some (.cells (l3 ++ rest).toArray t (0, 0))) : w.cell? ⟨C, 0, none⟩ = some (.int .i64 1) ∧ w.cell? ⟨C, 1, none⟩ = some (.int .i64 1) ∧ w.cell? ⟨C, 2, none⟩ = some (.int .i64 0) ∧ w.cell? ⟨C, 3, none⟩ = some (.int .i64 0) ∧ w.cell? ⟨C, 4, none⟩ = some (.int .i64 0) ∧ w.cell? ⟨C, 5, none⟩ = some (.int .i64 0) ∧ w.cell? ⟨C, 6, none⟩ = some (.int .i64 0) ∧ w.cell? ⟨C, 7, none⟩ = some (.int .u32 0) ∧ w.cell? ⟨C, 8, none⟩ = some (.int .u32 0) ∧ w.cell? ⟨C, 9, none⟩ = some (.slice none 0 0) ∧ w.cell? ⟨C, 10, none⟩ = some (.slice none 0 0) :=
  ⟨row_cell h 0, row_cell h 1, row_cell h 2, row_cell h 3, row_cell h 4, row_cell h 5, row_cell h 6, row_cell h 7, row_cell h 8, row_cell h 9, row_cell h 10⟩
theorem obj11 {w : World} {C t : Nat} {rest : List Value} (h : w.heap[C]? = some (.cells (l3 ++ rest).toArray t (0, 0))) : w.cell? ⟨C, 11, none⟩ = some (.int .i64 5) ∧ w.cell? ⟨C, 12, none⟩ = some (.int .i64 0) ∧ w.cell? ⟨C, 13, none⟩ = some (.int .i64 0) ∧ w.cell? ⟨C, 14, none⟩ = some (.int .i64 0) ∧ w.cell? ⟨C, 15, none⟩ = some (.int .i64 0) ∧ w.cell? ⟨C, 16, none⟩ = some (.int .i64 0) ∧ w.cell? ⟨C, 17, none⟩ = some (.int .i64 0) ∧ w.cell? ⟨C, 18, none⟩ = some (.int .u32 0) ∧ w.cell? ⟨C, 19, none⟩ = some (.int .u32 0) ∧ w.cell? ⟨C, 20, none⟩ = some (.slice none 0 0) ∧ w.cell? ⟨C, 21, none⟩ = some (.slice none 0 0) :=
  ⟨row_cell h 11, row_cell h 12, row_cell h 13, row_cell h 14, row_cell h 15, row_cell h 16, row_cell h 17, row_cell h 18, row_cell h 19, row_cell h 20, row_cell h 21⟩
theorem obj22 {w : World} {C t : Nat} {rest : List Value} (h : w.heap[C]? = some (.cells (l3 ++ rest).toArray t (0, 0))) : w.cell? ⟨C, 22, none⟩ = some (.int .i64 6) ∧ w.cell? ⟨C, 23, none⟩ = some (.int .i64 4) ∧ w.cell? ⟨C, 24, none⟩ = some (.int .i64 0) ∧ w.cell? ⟨C, 25, none⟩ = some (.int .i64 0) ∧ w.cell? ⟨C, 26, none⟩ = some (.int .i64 0) ∧ w.cell? ⟨C, 27, none⟩ = some (.int .i64 0) ∧ w.cell? ⟨C, 28, none⟩ = some (.int .i64 0) ∧ w.cell? ⟨C, 29, none⟩ = some (.int .u32 0) ∧ w.cell? ⟨C, 30, none⟩ = some (.int .u32 0) ∧ w.cell? ⟨C, 31, none⟩ = some (.slice none 0 0) ∧ w.cell? ⟨C, 32, none⟩ = some (.slice none 0 0) :=
  ⟨row_cell h 22, row_cell h 23, row_cell h 24, row_cell h 25, row_cell h 26, row_cell h 27, row_cell h 28, row_cell h 29, row_cell h 30, row_cell h 31, row_cell h 32⟩
theorem all_one {l : List Value} (h : l.all Value.oneCell' = true) : ∀ u ∈ l, u.oneCell' = true := List.all_eq_true.1 h
theorem PS.store_c {N S C off : Nat} {x rf ra s : Array Value} {cs : List Value} {w0 w : World} {o : Oper} {a : Act} {K : Act → World → Prop} {Q : Exit → Act → World → Prop} (p : PS N S C x rf ra s cs.toArray w0 w) (u v : Operand) (vs cs' : List Value) (he : splice cs off vs = cs') (hle : off + 11 ≤ cs.length) (hn : vs.length = 11) (h1 : vs.all Value.oneCell' = true)
    (hop : o.op = .store 53 u v) (hu : a.eval u = .pointer (some ⟨C, off, none⟩)) (hv : a.eval v = .agg vs.toArray) (h : ∀ w', PS N S C x rf ra s cs'.toArray w0 w' → K (a.put o.dst undef) w') : o.wp Tryd.prog a w K Q := by
  subst he
  exact wp_storeS hop hu hv (n := 11) (by kernel_rfl) hn p.hc hle (all_one h1) (h _ (p.set_c _))
theorem PS.store_s {N S C off n : Nat} {x rf ra c : Array Value} {ss : List Value} {w0 w : World} {o : Oper} {a : Act} {K : Act → World → Prop} {Q : Exit → Act → World → Prop} (p : PS N S C x rf ra ss.toArray c w0 w) (t : TypeId) (u v : Operand) (vs ss' : List Value) (he : splice ss off vs = ss') (hle : off + n ≤ ss.length) (hn : vs.length = n) (h1 : vs.all Value.oneCell' = true) (ht : szT Tryd.prog t = some n)
    (hop : o.op = .store t u v) (hu : a.eval u = .pointer (some ⟨S, off, none⟩)) (hv : a.eval v = .agg vs.toArray) (h : ∀ w', PS N S C x rf ra ss'.toArray c w0 w' → K (a.put o.dst undef) w') : o.wp Tryd.prog a w K Q := by
  subst he
  exact wp_storeS hop hu hv (n := n) ht hn p.hs hle (all_one h1) (h _ (p.set_s _))
theorem PS.store_f {N S C : Nat} {x ra s c : Array Value} {fs : List Value} {w0 w : World} {o : Oper} {a : Act} {K : Act → World → Prop} {Q : Exit → Act → World → Prop} (p : PS N S C x fs.toArray ra s c w0 w) (u v : Operand) (vs fs' : List Value) (he : splice fs 0 vs = fs') (hle : 0 + 10 ≤ fs.length) (hn : vs.length = 10) (h1 : vs.all Value.oneCell' = true)
    (hop : o.op = .store 26 u v) (hu : a.eval u = .pointer (some ⟨N + 1 + 1 + 1, 0, none⟩)) (hv : a.eval v = .agg vs.toArray) (h : ∀ w', PS N S C x fs'.toArray ra s c w0 w' → K (a.put o.dst undef) w') : o.wp Tryd.prog a w K Q := by
  subst he
  exact wp_storeS hop hu hv (n := 10) (by kernel_rfl) hn p.hf hle (all_one h1) (h _ (p.set_f _))
theorem PS.store_a {N S C : Nat} {x rf s c : Array Value} {fs : List Value} {w0 w : World} {o : Oper} {a : Act} {K : Act → World → Prop} {Q : Exit → Act → World → Prop} (p : PS N S C x rf fs.toArray s c w0 w) (u v : Operand) (vs fs' : List Value) (he : splice fs 0 vs = fs') (hle : 0 + 7 ≤ fs.length) (hn : vs.length = 7) (h1 : vs.all Value.oneCell' = true)
    (hop : o.op = .store 38 u v) (hu : a.eval u = .pointer (some ⟨N + 1 + 1 + 1 + 1, 0, none⟩)) (hv : a.eval v = .agg vs.toArray) (h : ∀ w', PS N S C x rf fs'.toArray s c w0 w' → K (a.put o.dst undef) w') : o.wp Tryd.prog a w K Q := by
  subst he
  exact wp_storeS hop hu hv (n := 7) (by kernel_rfl) hn p.ha hle (all_one h1) (h _ (p.set_a _))
/-- What a step hands back: objects of its own, a frame, an act, and no error. -/
def StepPost (w : World) (c : List Value) (f a : Array Value) (e : Ending) (w' : World) : Prop := ∃ (C cap : Nat) (rest : List Value), e = .returned (.tuple #[.slice (some ⟨C, 0, none⟩) 3 cap, .agg f, .agg a, .int .i64 0]) ∧ w.heap.size ≤ C ∧
  w'.heap[C]? = some (.cells (c ++ rest).toArray 53 (0, 0)) ∧ Below w.heap.size w w'
theorem wp_world {P : Program} {c : Code} {Q : Exit → Act → World → Prop} {a : Act} {w : World} (F : World → Prop) (hF : F w) (h : ∀ w', F w' → c.wp P Q a w') : c.wp P Q a w := h w hF
end Go.Proofs.YtapjehgfekjdaaaDoor
