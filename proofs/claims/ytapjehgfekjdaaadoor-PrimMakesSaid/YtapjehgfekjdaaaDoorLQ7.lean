/- A drawn region of two calls and two new blocks: whatever the order. No condition. -/
import Derived.Test.YtapjehgfekjdaaaDoorLQ3
namespace Go.Proofs.YtapjehgfekjdaaaDoor
open SY
open Go.RowKit
set_option linter.unusedVariables false
set_option maxRecDepth 100000
def st (b : Bool) (i : Nat) (l : Array Bool) : Array Bool := bif b then l.setIfInBounds i true else l
def pt (b : Bool) (d : Nat) (v : Value) (a : Act) : Act := bif b then a.put (some d) v else a
theorem set_comm (i j : Nat) (l : Array Bool) : (l.setIfInBounds i true).setIfInBounds j true = (l.setIfInBounds j true).setIfInBounds i true := by
  by_cases h : i = j
  · subst h; rfl
  · exact Array.setIfInBounds_comm _ _ h
theorem st_set (b : Bool) (i j : Nat) (l : Array Bool) : (st b i l).setIfInBounds j true = st b i (l.setIfInBounds j true) := by
  cases b
  · rfl
  · exact set_comm i j l
theorem put_comm {d e : Nat} (h : d ≠ e) (u v : Value) (a : Act) : (a.put (some d) v).put (some e) u = (a.put (some e) u).put (some d) v := by
  simp only [Act.put]
  rw [Array.setIfInBounds_comm _ _ h]
theorem pt_put {d e : Nat} (h : d ≠ e) (b : Bool) (u v : Value) (a : Act) : (pt b d v a).put (some e) u = pt b d v (a.put (some e) u) := by
  cases b
  · rfl
  · exact put_comm h u v a
/-- What stands while the region goes on: the objects, who makes the step, and the two new blocks, as soon as they are. -/
structure MM (N : Nat) (l10 l11 : Bool) (B10 B11 : Nat) (w0 w : World) : Prop where
  b : Below w0.heap.size w0 w
  hL : w.heap[N]? = some (.cells l3.toArray 53 (0, 0))
  hW : w.heap[N + 1]? = some (.cells whC 34 (0, 0))
  h10 : l10 = true → (N + 1 < B10 ∧ w0.heap.size ≤ B10) ∧ w.heap[B10]? = some (.cells (frC 0 0 0) 26 (0, 0))
  h11 : l11 = true → (N + 1 < B11 ∧ w0.heap.size ≤ B11) ∧ w.heap[B11]? = some (.cells (acC false) 38 (0, 0))
  ne : l10 = true → l11 = true → B10 ≠ B11
structure TT (q : Bool) (N : Nat) (l10 l11 : Bool) (B10 B11 C : Nat) (c : List Value) (w0 w : World) : Prop where
  m : MM N l10 l11 B10 B11 w0 w
  hC : q = true → w.heap[C]? = some (.cells c.toArray 53 (0, 0))
  lt : q = true → N + 1 < C ∧ w0.heap.size ≤ C
  n10 : q = true → l10 = true → B10 ≠ C
  n11 : q = true → l11 = true → B11 ≠ C
section
variable {N B10 B11 C : Nat} {l10 l11 : Bool} {c : List Value} {w0 w : World}
theorem MM.below {w' : World} (h : MM N l10 l11 B10 B11 w0 w) (hb : Below w.heap.size w w') : MM N l10 l11 B10 B11 w0 w' :=
  have k : ∀ {q : Nat} {o : Obj}, w.heap[q]? = some o → w'.heap[q]? = some o := fun e => (hb.block _ (lt_of_heap e)).trans e
  ⟨h.b.trans (hb.mono h.b.size), k h.hL, k h.hW, fun e => ⟨(h.h10 e).1, k (h.h10 e).2⟩, fun e => ⟨(h.h11 e).1, k (h.h11 e).2⟩, h.ne⟩
theorem al_below (w : World) (o : Obj) : Below w.heap.size w (w.alloc o) := (Below.refl _ _).alloc (Nat.le_refl _) _
theorem mm_new {w : World} {N : Nat} (hN : w.heap.size = N) : MM N false false 0 0 w ((w.alloc (.cells l3.toArray 53)).alloc (.cells whC 34)) := by
  subst hN
  have n1 := heap_alloc_new (w.alloc (.cells l3.toArray 53)) (.cells whC 34)
  rw [al_size] at n1
  exact ⟨(al_below _ _).alloc (by rw [al_size]; omega) _, al_heap (heap_alloc_new _ _), n1, fun e => (by cases e), fun e => (by cases e), fun e => (by cases e)⟩
theorem MM.al10 (h : MM N false l11 B10 B11 w0 w) : MM N true l11 w.heap.size B11 w0 (w.alloc (.cells (frC 0 0 0) 26)) :=
  have k := h.below (al_below w (.cells (frC 0 0 0) 26))
  ⟨k.b, k.hL, k.hW, fun _ => ⟨⟨lt_of_heap h.hW, h.b.size⟩, heap_alloc_new _ _⟩, k.h11, fun _ e => Nat.ne_of_gt (lt_of_heap (h.h11 e).2)⟩
theorem MM.al11 (h : MM N l10 false B10 B11 w0 w) : MM N l10 true B10 w.heap.size w0 (w.alloc (.cells (acC false) 38)) :=
  have k := h.below (al_below w (.cells (acC false) 38))
  ⟨k.b, k.hL, k.hW, k.h10, fun _ => ⟨⟨lt_of_heap h.hW, h.b.size⟩, heap_alloc_new _ _⟩, fun e _ => Nat.ne_of_lt (lt_of_heap (h.h10 e).2)⟩
theorem TT.al10 {q : Bool} (h : TT q N false l11 B10 B11 C c w0 w) : TT q N true l11 w.heap.size B11 C c w0 (w.alloc (.cells (frC 0 0 0) 26)) :=
  ⟨h.m.al10, fun e => al_heap (h.hC e), h.lt, fun e _ => Nat.ne_of_gt (lt_of_heap (h.hC e)), h.n11⟩
theorem TT.al11 {q : Bool} (h : TT q N l10 false B10 B11 C c w0 w) : TT q N l10 true B10 w.heap.size C c w0 (w.alloc (.cells (acC false) 38)) :=
  ⟨h.m.al11, fun e => al_heap (h.hC e), h.lt, h.n10, fun e _ => Nat.ne_of_gt (lt_of_heap (h.hC e))⟩
theorem MM.tt {q : Bool} {w' : World} (h : MM N l10 l11 B10 B11 w0 w) (hb : Below w.heap.size w w') (hq : q = true → w.heap.size ≤ C ∧ w'.heap[C]? = some (.cells c.toArray 53 (0, 0))) : TT q N l10 l11 B10 B11 C c w0 w' :=
  ⟨h.below hb, fun e => (hq e).2, fun e => ⟨Nat.lt_of_lt_of_le (lt_of_heap h.hW) (hq e).1, Nat.le_trans h.b.size (hq e).1⟩, fun q e => Nat.ne_of_lt (Nat.lt_of_lt_of_le (lt_of_heap (h.h10 e).2) (hq q).1), fun q e => Nat.ne_of_lt (Nat.lt_of_lt_of_le (lt_of_heap (h.h11 e).2) (hq q).1)⟩
end
/-- Behind the region. -/
structure ZZ (q : Bool) (N B10 B11 C : Nat) (f a : List Value) (c : List Value) (w0 w : World) : Prop where
  b : Below w0.heap.size w0 w
  hL : w.heap[N]? = some (.cells l3.toArray 53 (0, 0))
  hW : w.heap[N + 1]? = some (.cells whC 34 (0, 0))
  hf : w.heap[B10]? = some (.cells f.toArray 26 (0, 0))
  ha : w.heap[B11]? = some (.cells a.toArray 38 (0, 0))
  hC : q = true → w.heap[C]? = some (.cells c.toArray 53 (0, 0))
  n : (N + 1 < B10 ∧ w0.heap.size ≤ B10) ∧ (N + 1 < B11 ∧ w0.heap.size ≤ B11) ∧ B10 ≠ B11 ∧ (q = true → B10 ≠ C ∧ B11 ≠ C)
theorem TT.zz {q : Bool} {N B10 B11 C : Nat} {c : List Value} {w0 w : World} (h : TT q N true true B10 B11 C c w0 w) : ZZ q N B10 B11 C (frC 0 0 0).toList (acC false).toList c w0 w :=
  ⟨h.m.b, h.m.hL, h.m.hW, (h.m.h10 rfl).2, (h.m.h11 rfl).2, h.hC, (h.m.h10 rfl).1, (h.m.h11 rfl).1, h.m.ne rfl rfl, fun e => ⟨h.n10 e rfl, h.n11 e rfl⟩⟩
section
variable {q : Bool} {N B10 B11 C : Nat} {f a c : List Value} {w0 w : World}
theorem ZZ.below {w' : World} (h : ZZ q N B10 B11 C f a c w0 w) (hb : Below w.heap.size w w') : ZZ q N B10 B11 C f a c w0 w' :=
  have k : ∀ {q : Nat} {o : Obj}, w.heap[q]? = some o → w'.heap[q]? = some o := fun e => (hb.block _ (lt_of_heap e)).trans e
  ⟨h.b.trans (hb.mono h.b.size), k h.hL, k h.hW, k h.hf, k h.ha, fun e => k (h.hC e), h.n⟩
theorem ZZ.set_f (h : ZZ q N B10 B11 C f a c w0 w) (s : List Value) : ZZ q N B10 B11 C s a c w0 (w.setRow B10 s.toArray) := by
  obtain ⟨⟨n1, n2⟩, ⟨n3, n4⟩, n5, n6⟩ := h.n
  have k : ∀ {q : Nat} {o : Obj}, q ≠ B10 → w.heap[q]? = some o → (w.setRow B10 s.toArray).heap[q]? = some o := fun hq e => (setRow_other _ _ _ _ hq).trans e
  exact ⟨setRow_below h.b n2, k (by omega) h.hL, k (by omega) h.hW, setRow_heap _ _ _ _ _ _ h.hf, k (Ne.symm n5) h.ha, fun e => k (Ne.symm (n6 e).1) (h.hC e), h.n⟩
theorem ZZ.set_a (h : ZZ q N B10 B11 C f a c w0 w) (s : List Value) : ZZ q N B10 B11 C f s c w0 (w.setRow B11 s.toArray) := by
  obtain ⟨⟨n1, n2⟩, ⟨n3, n4⟩, n5, n6⟩ := h.n
  have k : ∀ {q : Nat} {o : Obj}, q ≠ B11 → w.heap[q]? = some o → (w.setRow B11 s.toArray).heap[q]? = some o := fun hq e => (setRow_other _ _ _ _ hq).trans e
  exact ⟨setRow_below h.b n4, k (by omega) h.hL, k (by omega) h.hW, k n5 h.hf, setRow_heap _ _ _ _ _ _ h.ha, fun e => k (Ne.symm (n6 e).2) (h.hC e), h.n⟩
theorem ZZ.store_f {o : Oper} {ac : Act} {K : Act → World → Prop} {Q : Exit → Act → World → Prop} (p : ZZ q N B10 B11 C f a c w0 w) (u v : Operand) (vs f' : List Value) (he : splice f 0 vs = f') (hle : 0 + 10 ≤ f.length) (hn : vs.length = 10) (h1 : vs.all Value.oneCell' = true)
    (hop : o.op = .store 26 u v) (hu : ac.eval u = .pointer (some ⟨B10, 0, none⟩)) (hv : ac.eval v = .agg vs.toArray) (h : ∀ w', ZZ q N B10 B11 C f' a c w0 w' → K (ac.put o.dst undef) w') : o.wp Tryd.prog ac w K Q := by
  subst he
  exact wp_storeS hop hu hv (n := 10) (by kernel_rfl) hn p.hf hle (all_one h1) (h _ (p.set_f _))
theorem ZZ.store_a {o : Oper} {ac : Act} {K : Act → World → Prop} {Q : Exit → Act → World → Prop} (p : ZZ q N B10 B11 C f a c w0 w) (u v : Operand) (vs f' : List Value) (he : splice a 0 vs = f') (hle : 0 + 7 ≤ a.length) (hn : vs.length = 7) (h1 : vs.all Value.oneCell' = true)
    (hop : o.op = .store 38 u v) (hu : ac.eval u = .pointer (some ⟨B11, 0, none⟩)) (hv : ac.eval v = .agg vs.toArray) (h : ∀ w', ZZ q N B10 B11 C f f' c w0 w' → K (ac.put o.dst undef) w') : o.wp Tryd.prog ac w K Q := by
  subst he
  exact wp_storeS hop hu hv (n := 7) (by kernel_rfl) hn p.ha hle (all_one h1) (h _ (p.set_a _))
/-- The next region's start. -/
theorem ZZ.mm (h : ZZ q N B10 B11 C f a c w0 w) : MM N false false 0 0 w w := ⟨Below.refl _ _, h.hL, h.hW, fun e => (by cases e), fun e => (by cases e), fun e => (by cases e)⟩
end
section
variable {P : Program} {ops : Array Oper} {Q : Exit → Act → World → Prop} {md : Region.Mode} {L : List (Nat × (World → Prop))}
theorem wpAnyS_some {fuel : Nat} {listed : Array Bool} {a : Act} {w : World} {r : List Nat} (hr : Region.ready md ops listed = r) (hne : r ≠ [])
    (h : ∀ i ∈ r, wpOp P ops Q i (fun a' w' => SL L (listed.setIfInBounds i true) w' ∧ wpAnyS P md ops Q L fuel (listed.setIfInBounds i true) a' w') a w) : wpAnyS P md ops Q L (fuel + 1) listed a w := by
  subst hr
  exact ⟨fun h0 => (hne h0).elim, h⟩
theorem wpOp_of {i : Nat} {o : Oper} {a : Act} {w : World} {G : Act → World → Prop} (ho : ops[i]? = some o) (hg : o.guard = none) (h : ∀ K' : Act → World → Prop, Shut (∀ a w, G a w → K' a w) → o.wp P a w K' Q) : wpOp P ops Q i G a w :=
  wpOp_step ho (fun K' hK => by rw [if_pos (by simp [Region.wanted, hg])]; exact h K' hK)
/-- The two calls (numbers 2 and 4) and the two new blocks (10, 11), in any order. -/
theorem mid (q : Bool) {N n d2 d4 d10 d11 : Nat} {o2 o4 o10 o11 : Oper} {F : Value} {R : Nat → Nat → Value} {c : List Value} {AW : World → Prop} {w0 w : World} {l0 l5 : Array Bool} {a0 : Act} {a5 : Nat → Nat → Act} (hL : L = [(4, AW)])
    (hAW : ∀ w : World, w.heap[N + 1]? = some (.cells whC 34 (0, 0)) → AW w)
    (i2 : ops[2]? = some o2) (i4 : ops[4]? = some o4) (i10 : ops[10]? = some o10) (i11 : ops[11]? = some o11) (g2 : o2.guard = none) (g4 : o4.guard = none) (g10 : o10.guard = none) (g11 : o11.guard = none)
    (n1 : d10 ≠ d2) (n2 : d11 ≠ d2) (n3 : d10 ≠ d4) (n4 : d11 ≠ d4) (n5 : d11 ≠ d10)
    (r0 : ∀ l2 l10 l11, Region.ready md ops (st l11 11 (st l10 10 (st l2 2 l0))) = (bif l2 then [4] else [2]) ++ ((bif l10 then [] else [10]) ++ (bif l11 then [] else [11])))
    (r5 : ∀ l10 l11, (l10 && l11) = false → Region.ready md ops (st l11 11 (st l10 10 l5)) = (bif l10 then [] else [10]) ++ (bif l11 then [] else [11]))
    (H2 : ∀ a w K, (∀ w', Below w.heap.size w w' → K (a.put (some d2) F) w') → o2.wp P a w K Q)
    (H10 : ∀ a w K, K (a.put (some d10) (.pointer (some ⟨w.heap.size, 0, none⟩))) (w.alloc (.cells (frC 0 0 0) 26)) → o10.wp P a w K Q)
    (H11 : ∀ a w K, K (a.put (some d11) (.pointer (some ⟨w.heap.size, 0, none⟩))) (w.alloc (.cells (acC false) 38)) → o11.wp P a w K Q)
    (H4 : ∀ l10 l11 p10 p11 w K, w.heap[N]? = some (.cells l3.toArray 53 (0, 0)) → (∀ C cap rest w', (q = true → w.heap.size ≤ C ∧ w'.heap[C]? = some (.cells (c ++ rest : List Value).toArray 53 (0, 0))) → Below w.heap.size w w' → K ((pt l11 d11 p11 (pt l10 d10 p10 (a0.put (some d2) F))).put (some d4) (R C cap)) w') →
      o4.wp P (pt l11 d11 p11 (pt l10 d10 p10 (a0.put (some d2) F))) w K Q)
    (HT : ∀ l10 l11 p10 p11 C cap w' m, SL L #[] w' → (∀ l, SL L l w') → wpAnyS P md ops Q L m (st l11 11 (st l10 10 l5)) (pt l11 d11 p11 (pt l10 d10 p10 (a5 C cap))) w' →
      wpAnyS P md ops Q L (m + 5) (st l11 11 (st l10 10 ((st true 2 l0).setIfInBounds 4 true))) (pt l11 d11 p11 (pt l10 d10 p10 ((a0.put (some d2) F).put (some d4) (R C cap)))) w')
    (fin : ∀ B10 B11 C cap rest w', TT q N true true B10 B11 C (c ++ rest) w0 w' → wpAnyS P md ops Q L n (st true 11 (st true 10 l5)) (pt true d11 (.pointer (some ⟨B11, 0, none⟩)) (pt true d10 (.pointer (some ⟨B10, 0, none⟩)) (a5 C cap))) w')
    (h0 : MM N false false 0 0 w0 w) : wpAnyS P md ops Q L (n + 9) l0 a0 w := by
  subst hL
  have sl : ∀ {w' : World} {l10 l11 : Bool} {B10 B11 : Nat}, MM N l10 l11 B10 B11 w0 w' → ∀ l, SL [(4, AW)] l w' := fun h l => SL.cons (hAW _ h.hW) SL.nil
  -- behind the calls
  have t11 : ∀ {B10 B11 C cap rest w'}, TT q N true false B10 B11 C (c ++ rest) w0 w' → wpAnyS P md ops Q [(4, AW)] (n + 1) (st false 11 (st true 10 l5)) (pt false d11 (.pointer (some ⟨B11, 0, none⟩)) (pt true d10 (.pointer (some ⟨B10, 0, none⟩)) (a5 C cap))) w' := fun {B10 B11 C cap rest w'} h => by
    refine wpAnyS_some (r5 true false rfl) (by simp) fun i hi => ?_
    obtain rfl : i = 11 := by simpa using hi
    exact wpOp_of i11 g11 fun K hK => H11 _ _ _ (hK.out _ _ ⟨sl h.al11.m _, fin _ _ _ _ _ _ h.al11⟩)
  have t10 : ∀ {B10 B11 C cap rest w'}, TT q N false true B10 B11 C (c ++ rest) w0 w' → wpAnyS P md ops Q [(4, AW)] (n + 1) (st true 11 (st false 10 l5)) (pt true d11 (.pointer (some ⟨B11, 0, none⟩)) (pt false d10 (.pointer (some ⟨B10, 0, none⟩)) (a5 C cap))) w' := fun {B10 B11 C cap rest w'} h => by
    refine wpAnyS_some (r5 false true rfl) (by simp) fun i hi => ?_
    obtain rfl : i = 10 := by simpa using hi
    refine wpOp_of i10 g10 fun K hK => H10 _ _ _ (hK.out _ _ ⟨sl h.al10.m _, ?_⟩)
    rw [st_set, pt_put n5]
    exact fin _ _ _ _ _ _ h.al10
  have t0 : ∀ {B10 B11 C cap rest w'}, TT q N false false B10 B11 C (c ++ rest) w0 w' → wpAnyS P md ops Q [(4, AW)] (n + 2) (st false 11 (st false 10 l5)) (pt false d11 (.pointer (some ⟨B11, 0, none⟩)) (pt false d10 (.pointer (some ⟨B10, 0, none⟩)) (a5 C cap))) w' := fun {B10 B11 C cap rest w'} h => by
    refine wpAnyS_some (r5 false false rfl) (by simp) fun i hi => ?_
    rcases (show i = 10 ∨ i = 11 by simpa using hi) with rfl | rfl
    · refine wpOp_of i10 g10 fun K hK => H10 _ _ _ (hK.out _ _ ⟨sl h.al10.m _, ?_⟩)
      exact t11 h.al10
    · refine wpOp_of i11 g11 fun K hK => H11 _ _ _ (hK.out _ _ ⟨sl h.al11.m _, ?_⟩)
      exact t10 h.al11
  -- the second call
  have c4 : ∀ {l10 l11 B10 B11 w' m}, MM N l10 l11 B10 B11 w0 w' → (∀ {C cap rest w''}, TT q N l10 l11 B10 B11 C (c ++ rest) w0 w'' → wpAnyS P md ops Q [(4, AW)] m (st l11 11 (st l10 10 l5)) (pt l11 d11 (.pointer (some ⟨B11, 0, none⟩)) (pt l10 d10 (.pointer (some ⟨B10, 0, none⟩)) (a5 C cap))) w'') →
      wpOp P ops Q 4 (fun a' w'' => SL [(4, AW)] ((st l11 11 (st l10 10 (st true 2 l0))).setIfInBounds 4 true) w'' ∧ wpAnyS P md ops Q [(4, AW)] (m + 5) ((st l11 11 (st l10 10 (st true 2 l0))).setIfInBounds 4 true) a' w'') (pt l11 d11 (.pointer (some ⟨B11, 0, none⟩)) (pt l10 d10 (.pointer (some ⟨B10, 0, none⟩)) (a0.put (some d2) F))) w' := fun {l10 l11 B10 B11 w' m} h k => by
    refine wpOp_of i4 g4 fun K hK => H4 _ _ _ _ _ _ h.hL fun C cap rest w'' hq hb => ?_
    have ht := h.tt hb hq
    refine hK.out _ _ ⟨sl ht.m _, ?_⟩
    rw [st_set, st_set, pt_put n4, pt_put n3]
    exact HT _ _ _ _ _ _ _ _ (sl ht.m _) (sl ht.m) (k ht)
  have s111 : ∀ {B10 B11 w'}, MM N true true B10 B11 w0 w' → wpAnyS P md ops Q [(4, AW)] (n + 6) (st true 11 (st true 10 (st true 2 l0))) (pt true d11 (.pointer (some ⟨B11, 0, none⟩)) (pt true d10 (.pointer (some ⟨B10, 0, none⟩)) (a0.put (some d2) F))) w' := fun {B10 B11 w'} h => by
    refine wpAnyS_some (r0 true true true) (by simp) fun i hi => ?_
    obtain rfl : i = 4 := by simpa using hi
    exact c4 h fun ht => fin _ _ _ _ _ _ ht
  have s110 : ∀ {B10 B11 w'}, MM N true false B10 B11 w0 w' → wpAnyS P md ops Q [(4, AW)] (n + 7) (st false 11 (st true 10 (st true 2 l0))) (pt false d11 (.pointer (some ⟨B11, 0, none⟩)) (pt true d10 (.pointer (some ⟨B10, 0, none⟩)) (a0.put (some d2) F))) w' := fun {B10 B11 w'} h => by
    refine wpAnyS_some (r0 true true false) (by simp) fun i hi => ?_
    rcases (show i = 4 ∨ i = 11 by simpa using hi) with rfl | rfl
    · exact c4 h t11
    · exact wpOp_of i11 g11 fun K hK => H11 _ _ _ (hK.out _ _ ⟨sl h.al11 _, s111 h.al11⟩)
  have s101 : ∀ {B10 B11 w'}, MM N false true B10 B11 w0 w' → wpAnyS P md ops Q [(4, AW)] (n + 7) (st true 11 (st false 10 (st true 2 l0))) (pt true d11 (.pointer (some ⟨B11, 0, none⟩)) (pt false d10 (.pointer (some ⟨B10, 0, none⟩)) (a0.put (some d2) F))) w' := fun {B10 B11 w'} h => by
    refine wpAnyS_some (r0 true false true) (by simp) fun i hi => ?_
    rcases (show i = 4 ∨ i = 10 by simpa using hi) with rfl | rfl
    · exact c4 h t10
    · refine wpOp_of i10 g10 fun K hK => H10 _ _ _ (hK.out _ _ ⟨sl h.al10 _, ?_⟩)
      rw [st_set, pt_put n5]
      exact s111 h.al10
  have s100 : ∀ {B10 B11 w'}, MM N false false B10 B11 w0 w' → wpAnyS P md ops Q [(4, AW)] (n + 8) (st false 11 (st false 10 (st true 2 l0))) (pt false d11 (.pointer (some ⟨B11, 0, none⟩)) (pt false d10 (.pointer (some ⟨B10, 0, none⟩)) (a0.put (some d2) F))) w' := fun {B10 B11 w'} h => by
    refine wpAnyS_some (r0 true false false) (by simp) fun i hi => ?_
    rcases (show i = 4 ∨ i = 10 ∨ i = 11 by simpa using hi) with rfl | rfl | rfl
    · exact c4 h t0
    · exact wpOp_of i10 g10 fun K hK => H10 _ _ _ (hK.out _ _ ⟨sl h.al10 _, s110 h.al10⟩)
    · exact wpOp_of i11 g11 fun K hK => H11 _ _ _ (hK.out _ _ ⟨sl h.al11 _, s101 h.al11⟩)
  have s011 : ∀ {B10 B11 w'}, MM N true true B10 B11 w0 w' → wpAnyS P md ops Q [(4, AW)] (n + 7) (st true 11 (st true 10 (st false 2 l0))) (pt true d11 (.pointer (some ⟨B11, 0, none⟩)) (pt true d10 (.pointer (some ⟨B10, 0, none⟩)) a0)) w' := fun {B10 B11 w'} h => by
    refine wpAnyS_some (r0 false true true) (by simp) fun i hi => ?_
    obtain rfl : i = 2 := by simpa using hi
    refine wpOp_of i2 g2 fun K hK => H2 _ _ _ fun w'' hb => hK.out _ _ ⟨sl (h.below hb) _, ?_⟩
    rw [st_set, st_set, pt_put n2, pt_put n1]
    exact s111 (h.below hb)
  have s010 : ∀ {B10 B11 w'}, MM N true false B10 B11 w0 w' → wpAnyS P md ops Q [(4, AW)] (n + 8) (st false 11 (st true 10 (st false 2 l0))) (pt false d11 (.pointer (some ⟨B11, 0, none⟩)) (pt true d10 (.pointer (some ⟨B10, 0, none⟩)) a0)) w' := fun {B10 B11 w'} h => by
    refine wpAnyS_some (r0 false true false) (by simp) fun i hi => ?_
    rcases (show i = 2 ∨ i = 11 by simpa using hi) with rfl | rfl
    · refine wpOp_of i2 g2 fun K hK => H2 _ _ _ fun w'' hb => hK.out _ _ ⟨sl (h.below hb) _, ?_⟩
      rw [st_set, st_set, pt_put n2, pt_put n1]
      exact s110 (h.below hb)
    · exact wpOp_of i11 g11 fun K hK => H11 _ _ _ (hK.out _ _ ⟨sl h.al11 _, s011 h.al11⟩)
  have s001 : ∀ {B10 B11 w'}, MM N false true B10 B11 w0 w' → wpAnyS P md ops Q [(4, AW)] (n + 8) (st true 11 (st false 10 (st false 2 l0))) (pt true d11 (.pointer (some ⟨B11, 0, none⟩)) (pt false d10 (.pointer (some ⟨B10, 0, none⟩)) a0)) w' := fun {B10 B11 w'} h => by
    refine wpAnyS_some (r0 false false true) (by simp) fun i hi => ?_
    rcases (show i = 2 ∨ i = 10 by simpa using hi) with rfl | rfl
    · refine wpOp_of i2 g2 fun K hK => H2 _ _ _ fun w'' hb => hK.out _ _ ⟨sl (h.below hb) _, ?_⟩
      rw [st_set, st_set, pt_put n2, pt_put n1]
      exact s101 (h.below hb)
    · refine wpOp_of i10 g10 fun K hK => H10 _ _ _ (hK.out _ _ ⟨sl h.al10 _, ?_⟩)
      rw [st_set, pt_put n5]
      exact s011 h.al10
  refine wpAnyS_some (r0 false false false) (by simp) fun i hi => ?_
  rcases (show i = 2 ∨ i = 10 ∨ i = 11 by simpa using hi) with rfl | rfl | rfl
  · refine wpOp_of i2 g2 fun K hK => H2 _ _ _ fun w'' hb => hK.out _ _ ⟨sl (h0.below hb) _, ?_⟩
    exact s100 (h0.below hb)
  · exact wpOp_of i10 g10 fun K hK => H10 _ _ _ (hK.out _ _ ⟨sl h0.al10 _, s010 h0.al10⟩)
  · exact wpOp_of i11 g11 fun K hK => H11 _ _ _ (hK.out _ _ ⟨sl h0.al11 _, s001 h0.al11⟩)
theorem wpAnyS_gen {fuel : Nat} {listed : Array Bool} {a : Act} {w : World} (m : Nat) (hm : m = fuel) (h : ∀ l0 a0, l0 = listed → a0 = a → wpAnyS P md ops Q L m l0 a0 w) : wpAnyS P md ops Q L fuel listed a w := hm ▸ h _ _ rfl rfl
theorem wpAnyS_eq {fuel : Nat} {l l' : Array Bool} {a a' : Act} {w : World} (hl : l = l') (ha : a = a') (h : wpAnyS P md ops Q L fuel l' a' w) : wpAnyS P md ops Q L fuel l a w := hl ▸ ha ▸ h
theorem wpAnyS_eq0 {fuel : Nat} {l l' : Array Bool} {a a' : Act} {w : World} (hl : l = l') (ha : a = a') (h : wpAnyS P md ops Q L fuel l' a' w) : wpAnyS P md ops Q L fuel l a w := hl ▸ ha ▸ h
/-- One call (number 0) and one new block (number 4), in any order. -/
theorem mid1 {n d0 d4 : Nat} {o0 o4 : Oper} {F : Value} {Z : Array Value} {ty : TypeId} {wz w : World} {l0 l5 : Array Bool} {a0 a5 : Act} (hL : L = [])
    (i0 : ops[0]? = some o0) (i4 : ops[4]? = some o4) (g0 : o0.guard = none) (g4 : o4.guard = none) (n1 : d4 ≠ d0)
    (r0 : Region.ready md ops l0 = [0, 4]) (r1 : Region.ready md ops (st true 4 l0) = [0]) (r2 : Region.ready md ops l5 = [4])
    (H0 : ∀ a w K, (∀ w', Below w.heap.size w w' → K (a.put (some d0) F) w') → o0.wp P a w K Q)
    (H4 : ∀ a w K, K (a.put (some d4) (.pointer (some ⟨w.heap.size, 0, none⟩))) (w.alloc (.cells Z ty)) → o4.wp P a w K Q)
    (HT : ∀ l4 p w' m, wpAnyS P md ops Q L m (st l4 4 l5) (pt l4 d4 p a5) w' → wpAnyS P md ops Q L (m + 3) (st l4 4 (l0.setIfInBounds 0 true)) (pt l4 d4 p (a0.put (some d0) F)) w')
    (fin : ∀ B w', Below wz.heap.size wz w' → wz.heap.size ≤ B → w'.heap[B]? = some (.cells Z ty (0, 0)) → wpAnyS P md ops Q L n (st true 4 l5) (pt true d4 (.pointer (some ⟨B, 0, none⟩)) a5) w')
    (h0 : Below wz.heap.size wz w) : wpAnyS P md ops Q L (n + 5) l0 a0 w := by
  subst hL
  have k : ∀ {w1 w2 : World} {q : Nat} {o : Obj}, Below w1.heap.size w1 w2 → w1.heap[q]? = some o → w2.heap[q]? = some o := fun hb e => (hb.block _ (lt_of_heap e)).trans e
  refine wpAnyS_some r0 (by simp) fun i hi => ?_
  rcases (show i = 0 ∨ i = 4 by simpa using hi) with rfl | rfl
  · refine wpOp_of i0 g0 fun K hK => H0 _ _ _ fun w1 hb => hK.out _ _ ⟨SL.nil, ?_⟩
    have h1 := h0.trans (hb.mono h0.size)
    refine HT false Go.undef _ _ ?_
    refine wpAnyS_some r2 (by simp) fun i hi => ?_
    obtain rfl : i = 4 := by simpa using hi
    exact wpOp_of i4 g4 fun K hK => H4 _ _ _ (hK.out _ _ ⟨SL.nil, fin _ _ (h1.alloc h1.size _) h1.size (heap_alloc_new _ _)⟩)
  · refine wpOp_of i4 g4 fun K hK => H4 _ _ _ (hK.out _ _ ⟨SL.nil, ?_⟩)
    have h1 := h0.alloc h0.size (.cells Z ty)
    refine wpAnyS_some r1 (by simp) fun i hi => ?_
    obtain rfl : i = 0 := by simpa using hi
    refine wpOp_of i0 g0 fun K hK => H0 _ _ _ fun w1 hb => hK.out _ _ ⟨SL.nil, ?_⟩
    have h2 := h1.trans (hb.mono h1.size)
    refine wpAnyS_eq0 (st_set true 4 0 l0) (put_comm n1 F (.pointer (some ⟨w.heap.size, 0, none⟩)) a0) ?_
    exact HT true _ _ _ (fin _ _ h2 h0.size (k hb (heap_alloc_new _ _)))
/-- A store of several cells, in a region of one order. -/
theorem wpL_store {rest : List Oper} {o : Oper} {a : Act} {w : World} {t tt : TypeId} {n b off : Nat} {x y : Operand} {cs : List Value} {v : Value} (hg : o.guard = none) (hd : o.dst = none) (hop : o.op = .store t x y) (hx : a.eval x = .pointer (some ⟨b, off, none⟩)) (hy : a.eval y = v)
    (hs : szT P t = some n) (hn : v.cells.size = n) (hb : w.heap[b]? = some (.cells cs.toArray tt (0, 0))) (hle : off + n ≤ cs.length) (h1 : ∀ u ∈ v.cells.toList, u.oneCell' = true)
    (hK : ∀ w', w'.heap[b]? = some (.cells (splice cs off v.cells.toList).toArray tt (0, 0)) → (∀ (n : Nat) (w0 : World), Below n w0 w → n ≤ b → Below n w0 w') → wpList P ops Q rest a w') : wpList P ops Q (o :: rest) a w := by
  refine wpList_plain hg fun K' hK' => wp_storeS hop hx hy hs hn hb hle h1 ?_
  rw [hd]
  exact hK' _ _ (hK _ (setRow_heap _ _ _ _ _ _ hb) fun n w0 h0 hn0 => setRow_below h0 hn0)
end
end Go.Proofs.YtapjehgfekjdaaaDoor
