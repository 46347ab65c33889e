/- CondNone: four new blocks, and a drawn region's orders. No condition. -/
import Derived.Test.YtmmliaobjendoaaDoorPL7
namespace Go.Proofs.YtmmliaobjendoaaDoor
open SY
open Go.RowKit
set_option linter.unusedVariables false
set_option maxRecDepth 100000
/-- What a step's four answers are stored in, beside the rest. -/
structure W5 (p b0 : Nat) (c m : Array Value) (fv : Value) (N i0 : Nat) (x : Int) (w0 : World) (B : Nat) (ns : List Int) (v : Value) (b1 b2 b3 b4 : Nat) (s : Nat → Prop) (c1 c2 c3 c4 : Array Value) (w : World) : Prop where
  f : F3 p b0 c m fv N i0 x w0 w
  t1 : w.heap[b1]? = some (.cells c1 30 (0, 0))
  t2 : w.heap[b2]? = some (.cells c2 30 (0, 0))
  t3 : w.heap[b3]? = some (.cells c3 33 (0, 0))
  t4 : w.heap[b4]? = some (.cells c4 39 (0, 0))
  ne : (b1 ≠ b2 ∧ b1 ≠ b3 ∧ b1 ≠ b4) ∧ (b2 ≠ b3 ∧ b2 ≠ b4) ∧ b3 ≠ b4
  ge : (B ≤ b1 ∧ B ≤ b2 ∧ B ≤ b3 ∧ B ≤ b4) ∧ p + 1 < B ∧ b0 < B
  sp : (s p ∧ s (p + 1) ∧ s b0) ∧ s b1 ∧ s b2 ∧ s b3 ∧ s b4
  sb : ∀ b, s b → b < w.heap.size
  ws : WS (gS s) w ns v
theorem MI.w5 {r : RF} {v1 v2 v3 v4 u0 u1 u2 u3 u4 u5 : Value} {w : World} (h : MI r true true true true true v1 v2 v3 v4 u0 u1 u2 u3 u4 u5 w) (lo : r.p + 1 < r.B ∧ r.b0 < r.B) :
    ∃ A k c B j b b1 b2 b3 b4 s, (v1 = .pointer (some ⟨b1, 0, none⟩) ∧ v2 = .pointer (some ⟨b2, 0, none⟩) ∧ v3 = .pointer (some ⟨b3, 0, none⟩) ∧ v4 = .pointer (some ⟨b4, 0, none⟩)) ∧ (u2 = .agg (cC r.wt r.td (.slice A k c)) ∧ u3 = .agg (mC 0) ∧ u4 = .agg (fC 3 0) ∧ u5 = .agg (aC false r.pk (.slice B j b))) ∧
      W5 r.p r.b0 r.c r.m r.fv r.N r.i0 r.x r.w0 r.B r.ns' (.slice A k c) b1 b2 b3 b4 s #[.int .i64 0, .int .i64 0, .int .i64 0, .int .i64 0, .int .i64 0, .int .i64 0, .int .i64 0, .int .u32 0, .int .u32 0, .slice none 0 0, .slice none 0 0] #[.int .i64 0, .int .i64 0, .int .i64 0, .int .i64 0, .int .i64 0, .int .i64 0, .int .i64 0, .int .u32 0, .int .u32 0, .slice none 0 0, .slice none 0 0] #[.int .i64 0, .int .i64 0, .int .i64 0, .int .i64 0, .int .i64 0, .int .i64 0, .bool false, .bool false, .int .i64 0, .bool false] #[.bool false, .bool false, .bool false, .int .i64 0, .int .i64 0, .int .u64 0, .slice none 0 0] w := by
  obtain ⟨b1, b2, b3, b4, s, h⟩ := h
  obtain ⟨A, k, c, B, j, b, hw, _, _, e2, e3, e4, e5⟩ := h.post rfl
  obtain ⟨f1, g1, t1, s1⟩ := h.n1 rfl
  obtain ⟨f2, g2, t2, s2⟩ := h.n2 rfl
  obtain ⟨f3, g3, t3, s3⟩ := h.n3 rfl
  obtain ⟨f4, g4, t4, s4⟩ := h.n4 rfl
  exact ⟨A, k, c, B, j, b, b1, b2, b3, b4, s, ⟨f1, f2, f3, f4⟩, ⟨e2, e3, e4, e5⟩, h.f, t1, t2, t3, t4, ⟨⟨h.d12 rfl rfl, h.d13 rfl rfl, h.d14 rfl rfl⟩, ⟨h.d23 rfl rfl, h.d24 rfl rfl⟩, h.d34 rfl rfl⟩, ⟨⟨g1, g2, g3, g4⟩, lo⟩, ⟨h.sp, s1, s2, s3, s4⟩, h.sb, hw⟩
section
variable {p b0 : Nat} {c m : Array Value} {fv : Value} {N i0 : Nat} {x : Int} {w0 : World} {B : Nat} {ns : List Int} {v : Value} {b1 b2 b3 b4 : Nat} {s : Nat → Prop} {c1 c2 c3 c4 : Array Value} {w : World}
theorem sz_set (w : World) (ad : Addr) (u : Value) : (w.setCell ad u).heap.size = w.heap.size := by simp [World.setCell]
theorem W5.drew (h : W5 p b0 c m fv N i0 x w0 B ns v b1 b2 b3 b4 s c1 c2 c3 c4 w) : W5 p b0 c m fv N i0 x w0 B ns v b1 b2 b3 b4 s c1 c2 c3 c4 w.drew := ⟨h.f.drew, h.t1, h.t2, h.t3, h.t4, h.ne, h.ge, h.sp, h.sb, sl_drew h.ws⟩
theorem W5.set1 (h : W5 p b0 c m fv N i0 x w0 B ns v b1 b2 b3 b4 s c1 c2 c3 c4 w) {k : Nat} {u : Value} (hk : k < c1.size) : W5 p b0 c m fv N i0 x w0 B ns v b1 b2 b3 b4 s (c1.set k u hk) c2 c3 c4 (w.setCell ⟨b1, k, none⟩ u) := by
  obtain ⟨⟨n12, n13, n14⟩, ⟨n23, n24⟩, n34⟩ := h.ne
  obtain ⟨⟨g1, g2, g3, g4⟩, g5, g6⟩ := h.ge
  exact ⟨h.f.far (by omega) (by omega), set_heap h.t1 hk, far_heap h.t2 (by omega), far_heap h.t3 (by omega), far_heap h.t4 (by omega), h.ne, h.ge, h.sp, fun b hs => by rw [sz_set]; exact h.sb b hs, sl_set h.ws h.sp.2.1⟩
theorem W5.set2 (h : W5 p b0 c m fv N i0 x w0 B ns v b1 b2 b3 b4 s c1 c2 c3 c4 w) {k : Nat} {u : Value} (hk : k < c2.size) : W5 p b0 c m fv N i0 x w0 B ns v b1 b2 b3 b4 s c1 (c2.set k u hk) c3 c4 (w.setCell ⟨b2, k, none⟩ u) := by
  obtain ⟨⟨n12, n13, n14⟩, ⟨n23, n24⟩, n34⟩ := h.ne
  obtain ⟨⟨g1, g2, g3, g4⟩, g5, g6⟩ := h.ge
  exact ⟨h.f.far (by omega) (by omega), far_heap h.t1 (by omega), set_heap h.t2 hk, far_heap h.t3 (by omega), far_heap h.t4 (by omega), h.ne, h.ge, h.sp, fun b hs => by rw [sz_set]; exact h.sb b hs, sl_set h.ws h.sp.2.2.1⟩
theorem W5.set3 (h : W5 p b0 c m fv N i0 x w0 B ns v b1 b2 b3 b4 s c1 c2 c3 c4 w) {k : Nat} {u : Value} (hk : k < c3.size) : W5 p b0 c m fv N i0 x w0 B ns v b1 b2 b3 b4 s c1 c2 (c3.set k u hk) c4 (w.setCell ⟨b3, k, none⟩ u) := by
  obtain ⟨⟨n12, n13, n14⟩, ⟨n23, n24⟩, n34⟩ := h.ne
  obtain ⟨⟨g1, g2, g3, g4⟩, g5, g6⟩ := h.ge
  exact ⟨h.f.far (by omega) (by omega), far_heap h.t1 (by omega), far_heap h.t2 (by omega), set_heap h.t3 hk, far_heap h.t4 (by omega), h.ne, h.ge, h.sp, fun b hs => by rw [sz_set]; exact h.sb b hs, sl_set h.ws h.sp.2.2.2.1⟩
theorem W5.set4 (h : W5 p b0 c m fv N i0 x w0 B ns v b1 b2 b3 b4 s c1 c2 c3 c4 w) {k : Nat} {u : Value} (hk : k < c4.size) : W5 p b0 c m fv N i0 x w0 B ns v b1 b2 b3 b4 s c1 c2 c3 (c4.set k u hk) (w.setCell ⟨b4, k, none⟩ u) := by
  obtain ⟨⟨n12, n13, n14⟩, ⟨n23, n24⟩, n34⟩ := h.ne
  obtain ⟨⟨g1, g2, g3, g4⟩, g5, g6⟩ := h.ge
  exact ⟨h.f.far (by omega) (by omega), far_heap h.t1 (by omega), far_heap h.t2 (by omega), far_heap h.t3 (by omega), set_heap h.t4 hk, h.ne, h.ge, h.sp, fun b hs => by rw [sz_set]; exact h.sb b hs, sl_set h.ws h.sp.2.2.2.2⟩
theorem W5.set7 (h : W5 p b0 c m fv N i0 x w0 B ns v b1 b2 b3 b4 s c1 c2 c3 c4 w) {k : Nat} {u : Value} (hk : k < c.size) : W5 p b0 (c.set k u hk) m fv N i0 x w0 B ns v b1 b2 b3 b4 s c1 c2 c3 c4 (w.setCell ⟨p, k, none⟩ u) := by
  obtain ⟨⟨g1, g2, g3, g4⟩, g5, g6⟩ := h.ge
  exact ⟨h.f.set7 hk, far_heap h.t1 (by omega), far_heap h.t2 (by omega), far_heap h.t3 (by omega), far_heap h.t4 (by omega), h.ne, h.ge, h.sp, fun b hs => by rw [sz_set]; exact h.sb b hs, sl_set h.ws h.sp.1.1⟩
theorem W5.set8 (h : W5 p b0 c m fv N i0 x w0 B ns v b1 b2 b3 b4 s c1 c2 c3 c4 w) {k : Nat} {u : Value} (hk : k < m.size) : W5 p b0 c (m.set k u hk) fv N i0 x w0 B ns v b1 b2 b3 b4 s c1 c2 c3 c4 (w.setCell ⟨p + 1, k, none⟩ u) := by
  obtain ⟨⟨g1, g2, g3, g4⟩, g5, g6⟩ := h.ge
  exact ⟨h.f.set8 hk, far_heap h.t1 (by omega), far_heap h.t2 (by omega), far_heap h.t3 (by omega), far_heap h.t4 (by omega), h.ne, h.ge, h.sp, fun b hs => by rw [sz_set]; exact h.sb b hs, sl_set h.ws h.sp.1.2.1⟩
theorem W5.setF (h : W5 p b0 c m fv N i0 x w0 B ns v b1 b2 b3 b4 s c1 c2 c3 c4 w) {k : Nat} {u : Value} (hN : 0 < N) (hk : k < i0 * 10) (hi : i0 ≤ N) : W5 p b0 c m fv N i0 x w0 B ns v b1 b2 b3 b4 s c1 c2 c3 c4 (w.setCell ⟨b0, k, none⟩ u) := by
  obtain ⟨⟨g1, g2, g3, g4⟩, g5, g6⟩ := h.ge
  exact ⟨h.f.setF hN hk hi, far_heap h.t1 (by omega), far_heap h.t2 (by omega), far_heap h.t3 (by omega), far_heap h.t4 (by omega), h.ne, h.ge, h.sp, fun b hs => by rw [sz_set]; exact h.sb b hs, sl_set h.ws h.sp.1.2.2⟩
theorem W5.next (h : W5 p b0 c m fv N i0 x w0 B ns v b1 b2 b3 b4 s c1 c2 c3 c4 w) : W5 p b0 c m fv N (i0 + 1) x w0 B ns v b1 b2 b3 b4 s c1 c2 c3 c4 w := ⟨h.f.next, h.t1, h.t2, h.t3, h.t4, h.ne, h.ge, h.sp, h.sb, h.ws⟩
theorem W5.all1 {u0 u1 u2 u3 u4 u5 u6 u7 u8 u9 u10 : Value} (h : W5 p b0 c m fv N i0 x w0 B ns v b1 b2 b3 b4 s #[u0, u1, u2, u3, u4, u5, u6, u7, u8, u9, u10] c2 c3 c4 w) (v0 v1 v2 v3 v4 v5 v6 v7 v8 v9 v10 : Value) : W5 p b0 c m fv N i0 x w0 B ns v b1 b2 b3 b4 s #[v0, v1, v2, v3, v4, v5, v6, v7, v8, v9, v10] c2 c3 c4 (((((((((((w.setCell ⟨b1, 0, none⟩ v0).setCell ⟨b1, 1, none⟩ v1).setCell ⟨b1, 2, none⟩ v2).setCell ⟨b1, 3, none⟩ v3).setCell ⟨b1, 4, none⟩ v4).setCell ⟨b1, 5, none⟩ v5).setCell ⟨b1, 6, none⟩ v6).setCell ⟨b1, 7, none⟩ v7).setCell ⟨b1, 8, none⟩ v8).setCell ⟨b1, 9, none⟩ v9).setCell ⟨b1, 10, none⟩ v10) := (((((((((((h.set1 (k := 0) (u := v0) (by show 0 < 11; decide)).set1 (k := 1) (u := v1) (by show 1 < 11; decide)).set1 (k := 2) (u := v2) (by show 2 < 11; decide)).set1 (k := 3) (u := v3) (by show 3 < 11; decide)).set1 (k := 4) (u := v4) (by show 4 < 11; decide)).set1 (k := 5) (u := v5) (by show 5 < 11; decide)).set1 (k := 6) (u := v6) (by show 6 < 11; decide)).set1 (k := 7) (u := v7) (by show 7 < 11; decide)).set1 (k := 8) (u := v8) (by show 8 < 11; decide)).set1 (k := 9) (u := v9) (by show 9 < 11; decide)).set1 (k := 10) (u := v10) (by show 10 < 11; decide))
theorem W5.all2 {u0 u1 u2 u3 u4 u5 u6 u7 u8 u9 u10 : Value} (h : W5 p b0 c m fv N i0 x w0 B ns v b1 b2 b3 b4 s c1 #[u0, u1, u2, u3, u4, u5, u6, u7, u8, u9, u10] c3 c4 w) (v0 v1 v2 v3 v4 v5 v6 v7 v8 v9 v10 : Value) : W5 p b0 c m fv N i0 x w0 B ns v b1 b2 b3 b4 s c1 #[v0, v1, v2, v3, v4, v5, v6, v7, v8, v9, v10] c3 c4 (((((((((((w.setCell ⟨b2, 0, none⟩ v0).setCell ⟨b2, 1, none⟩ v1).setCell ⟨b2, 2, none⟩ v2).setCell ⟨b2, 3, none⟩ v3).setCell ⟨b2, 4, none⟩ v4).setCell ⟨b2, 5, none⟩ v5).setCell ⟨b2, 6, none⟩ v6).setCell ⟨b2, 7, none⟩ v7).setCell ⟨b2, 8, none⟩ v8).setCell ⟨b2, 9, none⟩ v9).setCell ⟨b2, 10, none⟩ v10) := (((((((((((h.set2 (k := 0) (u := v0) (by show 0 < 11; decide)).set2 (k := 1) (u := v1) (by show 1 < 11; decide)).set2 (k := 2) (u := v2) (by show 2 < 11; decide)).set2 (k := 3) (u := v3) (by show 3 < 11; decide)).set2 (k := 4) (u := v4) (by show 4 < 11; decide)).set2 (k := 5) (u := v5) (by show 5 < 11; decide)).set2 (k := 6) (u := v6) (by show 6 < 11; decide)).set2 (k := 7) (u := v7) (by show 7 < 11; decide)).set2 (k := 8) (u := v8) (by show 8 < 11; decide)).set2 (k := 9) (u := v9) (by show 9 < 11; decide)).set2 (k := 10) (u := v10) (by show 10 < 11; decide))
theorem W5.all3 {u0 u1 u2 u3 u4 u5 u6 u7 u8 u9 : Value} (h : W5 p b0 c m fv N i0 x w0 B ns v b1 b2 b3 b4 s c1 c2 #[u0, u1, u2, u3, u4, u5, u6, u7, u8, u9] c4 w) (v0 v1 v2 v3 v4 v5 v6 v7 v8 v9 : Value) : W5 p b0 c m fv N i0 x w0 B ns v b1 b2 b3 b4 s c1 c2 #[v0, v1, v2, v3, v4, v5, v6, v7, v8, v9] c4 ((((((((((w.setCell ⟨b3, 0, none⟩ v0).setCell ⟨b3, 1, none⟩ v1).setCell ⟨b3, 2, none⟩ v2).setCell ⟨b3, 3, none⟩ v3).setCell ⟨b3, 4, none⟩ v4).setCell ⟨b3, 5, none⟩ v5).setCell ⟨b3, 6, none⟩ v6).setCell ⟨b3, 7, none⟩ v7).setCell ⟨b3, 8, none⟩ v8).setCell ⟨b3, 9, none⟩ v9) := ((((((((((h.set3 (k := 0) (u := v0) (by show 0 < 10; decide)).set3 (k := 1) (u := v1) (by show 1 < 10; decide)).set3 (k := 2) (u := v2) (by show 2 < 10; decide)).set3 (k := 3) (u := v3) (by show 3 < 10; decide)).set3 (k := 4) (u := v4) (by show 4 < 10; decide)).set3 (k := 5) (u := v5) (by show 5 < 10; decide)).set3 (k := 6) (u := v6) (by show 6 < 10; decide)).set3 (k := 7) (u := v7) (by show 7 < 10; decide)).set3 (k := 8) (u := v8) (by show 8 < 10; decide)).set3 (k := 9) (u := v9) (by show 9 < 10; decide))
theorem W5.all4 {u0 u1 u2 u3 u4 u5 u6 : Value} (h : W5 p b0 c m fv N i0 x w0 B ns v b1 b2 b3 b4 s c1 c2 c3 #[u0, u1, u2, u3, u4, u5, u6] w) (v0 v1 v2 v3 v4 v5 v6 : Value) : W5 p b0 c m fv N i0 x w0 B ns v b1 b2 b3 b4 s c1 c2 c3 #[v0, v1, v2, v3, v4, v5, v6] (((((((w.setCell ⟨b4, 0, none⟩ v0).setCell ⟨b4, 1, none⟩ v1).setCell ⟨b4, 2, none⟩ v2).setCell ⟨b4, 3, none⟩ v3).setCell ⟨b4, 4, none⟩ v4).setCell ⟨b4, 5, none⟩ v5).setCell ⟨b4, 6, none⟩ v6) := (((((((h.set4 (k := 0) (u := v0) (by show 0 < 7; decide)).set4 (k := 1) (u := v1) (by show 1 < 7; decide)).set4 (k := 2) (u := v2) (by show 2 < 7; decide)).set4 (k := 3) (u := v3) (by show 3 < 7; decide)).set4 (k := 4) (u := v4) (by show 4 < 7; decide)).set4 (k := 5) (u := v5) (by show 5 < 7; decide)).set4 (k := 6) (u := v6) (by show 6 < 7; decide))
theorem W5.all7 {u0 u1 u2 u3 u4 u5 u6 u7 u8 u9 u10 : Value} (h : W5 p b0 #[u0, u1, u2, u3, u4, u5, u6, u7, u8, u9, u10] m fv N i0 x w0 B ns v b1 b2 b3 b4 s c1 c2 c3 c4 w) (v0 v1 v2 v3 v4 v5 v6 v7 v8 v9 v10 : Value) : W5 p b0 #[v0, v1, v2, v3, v4, v5, v6, v7, v8, v9, v10] m fv N i0 x w0 B ns v b1 b2 b3 b4 s c1 c2 c3 c4 (((((((((((w.setCell ⟨p, 0, none⟩ v0).setCell ⟨p, 1, none⟩ v1).setCell ⟨p, 2, none⟩ v2).setCell ⟨p, 3, none⟩ v3).setCell ⟨p, 4, none⟩ v4).setCell ⟨p, 5, none⟩ v5).setCell ⟨p, 6, none⟩ v6).setCell ⟨p, 7, none⟩ v7).setCell ⟨p, 8, none⟩ v8).setCell ⟨p, 9, none⟩ v9).setCell ⟨p, 10, none⟩ v10) := (((((((((((h.set7 (k := 0) (u := v0) (by show 0 < 11; decide)).set7 (k := 1) (u := v1) (by show 1 < 11; decide)).set7 (k := 2) (u := v2) (by show 2 < 11; decide)).set7 (k := 3) (u := v3) (by show 3 < 11; decide)).set7 (k := 4) (u := v4) (by show 4 < 11; decide)).set7 (k := 5) (u := v5) (by show 5 < 11; decide)).set7 (k := 6) (u := v6) (by show 6 < 11; decide)).set7 (k := 7) (u := v7) (by show 7 < 11; decide)).set7 (k := 8) (u := v8) (by show 8 < 11; decide)).set7 (k := 9) (u := v9) (by show 9 < 11; decide)).set7 (k := 10) (u := v10) (by show 10 < 11; decide))
theorem W5.all8 {u0 u1 u2 u3 u4 u5 u6 u7 u8 u9 u10 : Value} (h : W5 p b0 c #[u0, u1, u2, u3, u4, u5, u6, u7, u8, u9, u10] fv N i0 x w0 B ns v b1 b2 b3 b4 s c1 c2 c3 c4 w) (v0 v1 v2 v3 v4 v5 v6 v7 v8 v9 v10 : Value) : W5 p b0 c #[v0, v1, v2, v3, v4, v5, v6, v7, v8, v9, v10] fv N i0 x w0 B ns v b1 b2 b3 b4 s c1 c2 c3 c4 (((((((((((w.setCell ⟨p + 1, 0, none⟩ v0).setCell ⟨p + 1, 1, none⟩ v1).setCell ⟨p + 1, 2, none⟩ v2).setCell ⟨p + 1, 3, none⟩ v3).setCell ⟨p + 1, 4, none⟩ v4).setCell ⟨p + 1, 5, none⟩ v5).setCell ⟨p + 1, 6, none⟩ v6).setCell ⟨p + 1, 7, none⟩ v7).setCell ⟨p + 1, 8, none⟩ v8).setCell ⟨p + 1, 9, none⟩ v9).setCell ⟨p + 1, 10, none⟩ v10) := (((((((((((h.set8 (k := 0) (u := v0) (by show 0 < 11; decide)).set8 (k := 1) (u := v1) (by show 1 < 11; decide)).set8 (k := 2) (u := v2) (by show 2 < 11; decide)).set8 (k := 3) (u := v3) (by show 3 < 11; decide)).set8 (k := 4) (u := v4) (by show 4 < 11; decide)).set8 (k := 5) (u := v5) (by show 5 < 11; decide)).set8 (k := 6) (u := v6) (by show 6 < 11; decide)).set8 (k := 7) (u := v7) (by show 7 < 11; decide)).set8 (k := 8) (u := v8) (by show 8 < 11; decide)).set8 (k := 9) (u := v9) (by show 9 < 11; decide)).set8 (k := 10) (u := v10) (by show 10 < 11; decide))
theorem W5.allF {i : Nat} (h : W5 p b0 c m fv N i x w0 B ns v b1 b2 b3 b4 s c1 c2 c3 c4 w) (hi : i < N) (v0 v1 v2 v3 v4 v5 v6 v7 v8 v9 : Value) : W5 p b0 c m fv N (i + 1) x w0 B ns v b1 b2 b3 b4 s c1 c2 c3 c4 ((((((((((w.setCell ⟨b0, i * 10, none⟩ v0).setCell ⟨b0, i * 10 + 1, none⟩ v1).setCell ⟨b0, i * 10 + 2, none⟩ v2).setCell ⟨b0, i * 10 + 3, none⟩ v3).setCell ⟨b0, i * 10 + 4, none⟩ v4).setCell ⟨b0, i * 10 + 5, none⟩ v5).setCell ⟨b0, i * 10 + 6, none⟩ v6).setCell ⟨b0, i * 10 + 7, none⟩ v7).setCell ⟨b0, i * 10 + 8, none⟩ v8).setCell ⟨b0, i * 10 + 9, none⟩ v9) := ((((((((((h.next.setF (k := i * 10) (u := v0) (by omega) (by omega) (by omega)).setF (k := i * 10 + 1) (u := v1) (by omega) (by omega) (by omega)).setF (k := i * 10 + 2) (u := v2) (by omega) (by omega) (by omega)).setF (k := i * 10 + 3) (u := v3) (by omega) (by omega) (by omega)).setF (k := i * 10 + 4) (u := v4) (by omega) (by omega) (by omega)).setF (k := i * 10 + 5) (u := v5) (by omega) (by omega) (by omega)).setF (k := i * 10 + 6) (u := v6) (by omega) (by omega) (by omega)).setF (k := i * 10 + 7) (u := v7) (by omega) (by omega) (by omega)).setF (k := i * 10 + 8) (u := v8) (by omega) (by omega) (by omega)).setF (k := i * 10 + 9) (u := v9) (by omega) (by omega) (by omega))
theorem F3.at10 {w : World} (h : F3 p b0 c m fv N i0 x w0 w) {j : Nat} (h1 : i0 ≤ j) (h2 : j < N) : w.cell? ⟨b0, j * 10, none⟩ = some (.int .i64 36) ∧ w.cell? ⟨b0, j * 10 + 1, none⟩ = some (.int .i64 2) ∧ w.cell? ⟨b0, j * 10 + 2, none⟩ = some (.int .i64 0) ∧ w.cell? ⟨b0, j * 10 + 3, none⟩ = some (.int .i64 0) ∧ w.cell? ⟨b0, j * 10 + 4, none⟩ = some (.int .i64 (-1)) ∧ w.cell? ⟨b0, j * 10 + 5, none⟩ = some (.int .i64 ((x + j) % 4294967296)) ∧ w.cell? ⟨b0, j * 10 + 6, none⟩ = some (.bool false) ∧ w.cell? ⟨b0, j * 10 + 7, none⟩ = some (.bool false) ∧ w.cell? ⟨b0, j * 10 + 8, none⟩ = some (.int .i64 0) ∧ w.cell? ⟨b0, j * 10 + 9, none⟩ = some (.bool false) := by
  have a := h.at h1 h2
  exact ⟨(a 0 _ rfl).1, (a 1 _ rfl).1, (a 2 _ rfl).1, (a 3 _ rfl).1, (a 4 _ rfl).1, (a 5 _ rfl).1, (a 6 _ rfl).1, (a 7 _ rfl).1, (a 8 _ rfl).1, (a 9 _ rfl).1⟩
theorem F3.fz10 {w : World} (h : F3 p b0 c m fv N i0 x w0 w) {j : Nat} (h1 : i0 ≤ j) (h2 : j < N) : w.frozen? ⟨b0, j * 10, none⟩ = false ∧ w.frozen? ⟨b0, j * 10 + 1, none⟩ = false ∧ w.frozen? ⟨b0, j * 10 + 2, none⟩ = false ∧ w.frozen? ⟨b0, j * 10 + 3, none⟩ = false ∧ w.frozen? ⟨b0, j * 10 + 4, none⟩ = false ∧ w.frozen? ⟨b0, j * 10 + 5, none⟩ = false ∧ w.frozen? ⟨b0, j * 10 + 6, none⟩ = false ∧ w.frozen? ⟨b0, j * 10 + 7, none⟩ = false ∧ w.frozen? ⟨b0, j * 10 + 8, none⟩ = false ∧ w.frozen? ⟨b0, j * 10 + 9, none⟩ = false := by
  have a := h.at h1 h2
  exact ⟨(a 0 _ rfl).2, (a 1 _ rfl).2, (a 2 _ rfl).2, (a 3 _ rfl).2, (a 4 _ rfl).2, (a 5 _ rfl).2, (a 6 _ rfl).2, (a 7 _ rfl).2, (a 8 _ rfl).2, (a 9 _ rfl).2⟩
theorem F3.all7 {w : World} {u0 u1 u2 u3 u4 u5 u6 u7 u8 u9 u10 : Value} (h : F3 p b0 #[u0, u1, u2, u3, u4, u5, u6, u7, u8, u9, u10] m fv N i0 x w0 w) (v0 v1 v2 v3 v4 v5 v6 v7 v8 v9 v10 : Value) : F3 p b0 #[v0, v1, v2, v3, v4, v5, v6, v7, v8, v9, v10] m fv N i0 x w0 (((((((((((w.setCell ⟨p, 0, none⟩ v0).setCell ⟨p, 1, none⟩ v1).setCell ⟨p, 2, none⟩ v2).setCell ⟨p, 3, none⟩ v3).setCell ⟨p, 4, none⟩ v4).setCell ⟨p, 5, none⟩ v5).setCell ⟨p, 6, none⟩ v6).setCell ⟨p, 7, none⟩ v7).setCell ⟨p, 8, none⟩ v8).setCell ⟨p, 9, none⟩ v9).setCell ⟨p, 10, none⟩ v10) := (((((((((((h.set7 (k := 0) (v := v0) (by show 0 < 11; decide)).set7 (k := 1) (v := v1) (by show 1 < 11; decide)).set7 (k := 2) (v := v2) (by show 2 < 11; decide)).set7 (k := 3) (v := v3) (by show 3 < 11; decide)).set7 (k := 4) (v := v4) (by show 4 < 11; decide)).set7 (k := 5) (v := v5) (by show 5 < 11; decide)).set7 (k := 6) (v := v6) (by show 6 < 11; decide)).set7 (k := 7) (v := v7) (by show 7 < 11; decide)).set7 (k := 8) (v := v8) (by show 8 < 11; decide)).set7 (k := 9) (v := v9) (by show 9 < 11; decide)).set7 (k := 10) (v := v10) (by show 10 < 11; decide))
theorem sl_all11 {ks : List CK} {xs : List Int} {sv : Value} {b : Nat} (h : DC (gS s) w (.sl ks xs none) sv) (hb : s b) (v0 v1 v2 v3 v4 v5 v6 v7 v8 v9 v10 : Value) : DC (gS s) (((((((((((w.setCell ⟨b, 0, none⟩ v0).setCell ⟨b, 1, none⟩ v1).setCell ⟨b, 2, none⟩ v2).setCell ⟨b, 3, none⟩ v3).setCell ⟨b, 4, none⟩ v4).setCell ⟨b, 5, none⟩ v5).setCell ⟨b, 6, none⟩ v6).setCell ⟨b, 7, none⟩ v7).setCell ⟨b, 8, none⟩ v8).setCell ⟨b, 9, none⟩ v9).setCell ⟨b, 10, none⟩ v10) (.sl ks xs none) sv := (sl_set (sl_set (sl_set (sl_set (sl_set (sl_set (sl_set (sl_set (sl_set (sl_set (sl_set h hb) hb) hb) hb) hb) hb) hb) hb) hb) hb) hb)
theorem sz_all11 {b : Nat} (v0 v1 v2 v3 v4 v5 v6 v7 v8 v9 v10 : Value) : (((((((((((w.setCell ⟨b, 0, none⟩ v0).setCell ⟨b, 1, none⟩ v1).setCell ⟨b, 2, none⟩ v2).setCell ⟨b, 3, none⟩ v3).setCell ⟨b, 4, none⟩ v4).setCell ⟨b, 5, none⟩ v5).setCell ⟨b, 6, none⟩ v6).setCell ⟨b, 7, none⟩ v7).setCell ⟨b, 8, none⟩ v8).setCell ⟨b, 9, none⟩ v9).setCell ⟨b, 10, none⟩ v10).heap.size = w.heap.size := by simp only [sz_set]
theorem W5.bl (h : W5 p b0 c m fv N i0 x w0 B ns v b1 b2 b3 b4 s c1 c2 c3 c4 w) : w.heap[b1]? = some (.cells c1 30 (0, 0)) ∧ w.heap[b2]? = some (.cells c2 30 (0, 0)) ∧ w.heap[b3]? = some (.cells c3 33 (0, 0)) := ⟨h.t1, h.t2, h.t3⟩
theorem W5.ws3 (h : W5 p b0 c m fv N i0 x w0 B ns v b1 b2 b3 b4 s c1 c2 c3 c4 w) {s2 : Nat → Prop} (hs : ∀ b, s2 b → b = p ∨ b = p + 1 ∨ b = b0) : WS (gS s2) w ns v := sl_new h.ws (Below.refl _ _) fun b hb => .inl (by rcases hs b hb with rfl | rfl | rfl; exact h.sp.1.1; exact h.sp.1.2.1; exact h.sp.1.2.2)
end
/-! ### The orders -/
def lst (l7 l1 l2 l3 l4 : Bool) : Array Bool := #[true, true, true, true, true, true, true, l7, l7, l7, l7, l7, l7, l1, l2, l3, l4, false, false, false, false]
def lst7 (l1 l2 l3 l4 : Bool) : Array Bool := #[true, true, true, true, true, true, true, true, false, false, false, false, false, l1, l2, l3, l4, false, false, false, false]
def rdy (l7 l1 l2 l3 l4 : Bool) : List Nat := (if l7 then [] else [7]) ++ ((if l1 then [] else [13]) ++ ((if l2 then [] else [14]) ++ ((if l3 then [] else [15]) ++ (if l4 then [] else [16]))))
def lf (l7 l1 l2 l3 l4 : Bool) : Nat := (if l7 then 0 else 1) + ((if l1 then 0 else 1) + ((if l2 then 0 else 1) + ((if l3 then 0 else 1) + (if l4 then 0 else 1))))
def fu (l7 l1 l2 l3 l4 : Bool) : Nat := ((if l7 then 0 else 6) + ((if l1 then 0 else 1) + ((if l2 then 0 else 1) + ((if l3 then 0 else 1) + (if l4 then 0 else 1))))) + 4
theorem mem_rdy {i : Nat} {l7 l1 l2 l3 l4 : Bool} (h : i ∈ rdy l7 l1 l2 l3 l4) : (i = 7 ∧ l7 = false) ∨ (i = 13 ∧ l1 = false) ∨ (i = 14 ∧ l2 = false) ∨ (i = 15 ∧ l3 = false) ∨ (i = 16 ∧ l4 = false) := by
  unfold rdy at h
  rcases List.mem_append.1 h with h | h
  · cases l7
    · exact .inl ⟨List.mem_singleton.1 h, rfl⟩
    · cases h
  rcases List.mem_append.1 h with h | h
  · cases l1
    · exact .inr (.inl ⟨List.mem_singleton.1 h, rfl⟩)
    · cases h
  rcases List.mem_append.1 h with h | h
  · cases l2
    · exact .inr (.inr (.inl ⟨List.mem_singleton.1 h, rfl⟩))
    · cases h
  rcases List.mem_append.1 h with h | h
  · cases l3
    · exact .inr (.inr (.inr (.inl ⟨List.mem_singleton.1 h, rfl⟩)))
    · cases h
  cases l4
  · exact .inr (.inr (.inr (.inr ⟨List.mem_singleton.1 h, rfl⟩)))
  · cases h
section
variable {P : Program} {ops : Array Oper} {Q : Exit → Act → World → Prop} {S : World → Prop}
theorem op_step {i : Nat} {o : Oper} {a : Act} {w : World} {G : Act → World → Prop} (ho : ops[i]? = some o) (hw : ∀ y, Region.wanted o y = true) (h : ∀ K' : Act → World → Prop, Shut (∀ a w, G a w → K' a w) → Oper.wp P o a w K' Q) : wpOp P ops Q i G a w :=
  wpOp_step ho (fun K' hK => by rw [if_pos (hw _)]; exact h K' hK)
theorem mid5 (J : Bool → Bool → Bool → Bool → Bool → Act → World → Prop) {o7 o1 o2 o3 o4 : Oper}
    (e7 : ops[7]? = some o7) (e1 : ops[13]? = some o1) (e2 : ops[14]? = some o2) (e3 : ops[15]? = some o3) (e4 : ops[16]? = some o4)
    (y7 : ∀ y, Region.wanted o7 y = true) (y1 : ∀ y, Region.wanted o1 y = true) (y2 : ∀ y, Region.wanted o2 y = true) (y3 : ∀ y, Region.wanted o3 y = true) (y4 : ∀ y, Region.wanted o4 y = true)
    (hr : ∀ l7 l1 l2 l3 l4, (l7 && (l1 && (l2 && (l3 && l4)))) = false → Region.ready .any ops (lst l7 l1 l2 l3 l4) = rdy l7 l1 l2 l3 l4)
    (hS : ∀ l7 l1 l2 l3 l4 a w, J l7 l1 l2 l3 l4 a w → S w)
    (h7 : ∀ l1 l2 l3 l4 a w, J false l1 l2 l3 l4 a w → ∀ fuel, (∀ a' w', J true l1 l2 l3 l4 a' w' → wpAnyG P .any ops Q S 7 fuel (lst true l1 l2 l3 l4) a' w') → ∀ K' : Act → World → Prop, Shut (∀ a w, wpAnyG P .any ops Q S 7 (fuel + 5) (lst7 l1 l2 l3 l4) a w → K' a w) → Oper.wp P o7 a w K' Q)
    (h1 : ∀ l7 l2 l3 l4 a w, J l7 false l2 l3 l4 a w → ∀ K' : Act → World → Prop, Shut (∀ a w, J l7 true l2 l3 l4 a w → K' a w) → Oper.wp P o1 a w K' Q)
    (h2 : ∀ l7 l1 l3 l4 a w, J l7 l1 false l3 l4 a w → ∀ K' : Act → World → Prop, Shut (∀ a w, J l7 l1 true l3 l4 a w → K' a w) → Oper.wp P o2 a w K' Q)
    (h3 : ∀ l7 l1 l2 l4 a w, J l7 l1 l2 false l4 a w → ∀ K' : Act → World → Prop, Shut (∀ a w, J l7 l1 l2 true l4 a w → K' a w) → Oper.wp P o3 a w K' Q)
    (h4 : ∀ l7 l1 l2 l3 a w, J l7 l1 l2 l3 false a w → ∀ K' : Act → World → Prop, Shut (∀ a w, J l7 l1 l2 l3 true a w → K' a w) → Oper.wp P o4 a w K' Q)
    (hend : ∀ a w, J true true true true true a w → wpAnyG P .any ops Q S 7 4 (lst true true true true true) a w) :
    ∀ l7 l1 l2 l3 l4 a w, J l7 l1 l2 l3 l4 a w → wpAnyG P .any ops Q S 7 (fu l7 l1 l2 l3 l4) (lst l7 l1 l2 l3 l4) a w := by
  have s7 : ∀ l1 l2 l3 l4, (∀ a w, J true l1 l2 l3 l4 a w → wpAnyG P .any ops Q S 7 (fu true l1 l2 l3 l4) (lst true l1 l2 l3 l4) a w) → ∀ a w, J false l1 l2 l3 l4 a w → wpOp P ops Q 7 (fun a' w' => (((lst false l1 l2 l3 l4).setIfInBounds 7 true).getD 7 true = false → S w') ∧ wpAnyG P .any ops Q S 7 (fu true l1 l2 l3 l4 + 5) ((lst false l1 l2 l3 l4).setIfInBounds 7 true) a' w') a w := by
    intro l1 l2 l3 l4 ih a w hJ
    exact op_step e7 y7 fun K' hK => h7 l1 l2 l3 l4 a w hJ _ ih K' (fun a' w' h => hK.out a' w' ⟨fun e => Bool.noConfusion e, h⟩)
  have s1 : ∀ l7 l2 l3 l4, (∀ a w, J l7 true l2 l3 l4 a w → wpAnyG P .any ops Q S 7 (fu l7 true l2 l3 l4) (lst l7 true l2 l3 l4) a w) → ∀ a w, J l7 false l2 l3 l4 a w → wpOp P ops Q 13 (fun a' w' => (((lst l7 false l2 l3 l4).setIfInBounds 13 true).getD 7 true = false → S w') ∧ wpAnyG P .any ops Q S 7 (fu l7 true l2 l3 l4) ((lst l7 false l2 l3 l4).setIfInBounds 13 true) a' w') a w := by
    intro l7 l2 l3 l4 ih a w hJ
    exact op_step e1 y1 fun K' hK => h1 l7 l2 l3 l4 a w hJ K' (fun a' w' h => hK.out a' w' ⟨fun _ => hS _ _ _ _ _ _ _ h, ih a' w' h⟩)
  have s2 : ∀ l7 l1 l3 l4, (∀ a w, J l7 l1 true l3 l4 a w → wpAnyG P .any ops Q S 7 (fu l7 l1 true l3 l4) (lst l7 l1 true l3 l4) a w) → ∀ a w, J l7 l1 false l3 l4 a w → wpOp P ops Q 14 (fun a' w' => (((lst l7 l1 false l3 l4).setIfInBounds 14 true).getD 7 true = false → S w') ∧ wpAnyG P .any ops Q S 7 (fu l7 l1 true l3 l4) ((lst l7 l1 false l3 l4).setIfInBounds 14 true) a' w') a w := by
    intro l7 l1 l3 l4 ih a w hJ
    exact op_step e2 y2 fun K' hK => h2 l7 l1 l3 l4 a w hJ K' (fun a' w' h => hK.out a' w' ⟨fun _ => hS _ _ _ _ _ _ _ h, ih a' w' h⟩)
  have s3 : ∀ l7 l1 l2 l4, (∀ a w, J l7 l1 l2 true l4 a w → wpAnyG P .any ops Q S 7 (fu l7 l1 l2 true l4) (lst l7 l1 l2 true l4) a w) → ∀ a w, J l7 l1 l2 false l4 a w → wpOp P ops Q 15 (fun a' w' => (((lst l7 l1 l2 false l4).setIfInBounds 15 true).getD 7 true = false → S w') ∧ wpAnyG P .any ops Q S 7 (fu l7 l1 l2 true l4) ((lst l7 l1 l2 false l4).setIfInBounds 15 true) a' w') a w := by
    intro l7 l1 l2 l4 ih a w hJ
    exact op_step e3 y3 fun K' hK => h3 l7 l1 l2 l4 a w hJ K' (fun a' w' h => hK.out a' w' ⟨fun _ => hS _ _ _ _ _ _ _ h, ih a' w' h⟩)
  have s4 : ∀ l7 l1 l2 l3, (∀ a w, J l7 l1 l2 l3 true a w → wpAnyG P .any ops Q S 7 (fu l7 l1 l2 l3 true) (lst l7 l1 l2 l3 true) a w) → ∀ a w, J l7 l1 l2 l3 false a w → wpOp P ops Q 16 (fun a' w' => (((lst l7 l1 l2 l3 false).setIfInBounds 16 true).getD 7 true = false → S w') ∧ wpAnyG P .any ops Q S 7 (fu l7 l1 l2 l3 true) ((lst l7 l1 l2 l3 false).setIfInBounds 16 true) a' w') a w := by
    intro l7 l1 l2 l3 ih a w hJ
    exact op_step e4 y4 fun K' hK => h4 l7 l1 l2 l3 a w hJ K' (fun a' w' h => hK.out a' w' ⟨fun _ => hS _ _ _ _ _ _ _ h, ih a' w' h⟩)
  have main : ∀ n l7 l1 l2 l3 l4, lf l7 l1 l2 l3 l4 = n → ∀ a w, J l7 l1 l2 l3 l4 a w → wpAnyG P .any ops Q S 7 (fu l7 l1 l2 l3 l4) (lst l7 l1 l2 l3 l4) a w := by
    intro n
    induction n with
    | zero =>
      intro l7 l1 l2 l3 l4 he a w hJ
      cases l7 <;> cases l1 <;> cases l2 <;> cases l3 <;> cases l4 <;> first | (simp [lf] at he; done) | exact hend a w hJ
    | succ n ih =>
      intro l7 l1 l2 l3 l4 he a w hJ
      have c7 : l7 = false → ∀ a w, J true l1 l2 l3 l4 a w → wpAnyG P .any ops Q S 7 (fu true l1 l2 l3 l4) (lst true l1 l2 l3 l4) a w := fun e => ih _ _ _ _ _ (by subst e; simp only [lf] at he ⊢; simp at he ⊢; omega)
      have c1 : l1 = false → ∀ a w, J l7 true l2 l3 l4 a w → wpAnyG P .any ops Q S 7 (fu l7 true l2 l3 l4) (lst l7 true l2 l3 l4) a w := fun e => ih _ _ _ _ _ (by subst e; simp only [lf] at he ⊢; simp at he ⊢; omega)
      have c2 : l2 = false → ∀ a w, J l7 l1 true l3 l4 a w → wpAnyG P .any ops Q S 7 (fu l7 l1 true l3 l4) (lst l7 l1 true l3 l4) a w := fun e => ih _ _ _ _ _ (by subst e; simp only [lf] at he ⊢; simp at he ⊢; omega)
      have c3 : l3 = false → ∀ a w, J l7 l1 l2 true l4 a w → wpAnyG P .any ops Q S 7 (fu l7 l1 l2 true l4) (lst l7 l1 l2 true l4) a w := fun e => ih _ _ _ _ _ (by subst e; simp only [lf] at he ⊢; simp at he ⊢; omega)
      have c4 : l4 = false → ∀ a w, J l7 l1 l2 l3 true a w → wpAnyG P .any ops Q S 7 (fu l7 l1 l2 l3 true) (lst l7 l1 l2 l3 true) a w := fun e => ih _ _ _ _ _ (by subst e; simp only [lf] at he ⊢; simp at he ⊢; omega)
      have hall : (l7 && (l1 && (l2 && (l3 && l4)))) = false := by
        cases l7 <;> cases l1 <;> cases l2 <;> cases l3 <;> cases l4 <;> first | rfl | (simp [lf] at he; done)
      have hr' := hr l7 l1 l2 l3 l4 hall
      clear ih he
      cases l7 <;> cases l1 <;> cases l2 <;> cases l3 <;> cases l4 <;> first
        | (exact Bool.noConfusion hall)
        | (refine ⟨fun h0 => ?_, fun i hi => ?_⟩
           · rw [hr'] at h0
             simp [rdy] at h0
           · rw [hr'] at hi
             rcases mem_rdy hi with ⟨rfl, e⟩ | ⟨rfl, e⟩ | ⟨rfl, e⟩ | ⟨rfl, e⟩ | ⟨rfl, e⟩ <;> first
               | exact Bool.noConfusion e
               | exact s7 _ _ _ _ (c7 rfl) a w hJ
               | exact s1 _ _ _ _ (c1 rfl) a w hJ
               | exact s2 _ _ _ _ (c2 rfl) a w hJ
               | exact s3 _ _ _ _ (c3 rfl) a w hJ
               | exact s4 _ _ _ _ (c4 rfl) a w hJ)
  intro l7 l1 l2 l3 l4 a w hJ
  exact main _ l7 l1 l2 l3 l4 rfl a w hJ
end
/-! ### The frame -/
def chain (d e : Nat) (a0 : Act) (v1 v2 v3 v4 u0 u1 u2 u3 u4 u5 : Value) : Act := (((((((((a0.put (some d) v1).put (some (d + 1)) v2).put (some (d + 2)) v3).put (some (d + 3)) v4).put (some e) u0).put (some (e - 8)) u1).put (some (e + 1)) u2).put (some (e + 2)) u3).put (some (e + 3)) u4).put (some (e + 4)) u5
theorem put_self (a : Act) (i : Nat) (d : Value) : a.put (some i) (a.tmps.getD i d) = a := by
  obtain ⟨t, ds⟩ := a
  show Act.mk (t.setIfInBounds i (t.getD i d)) ds = Act.mk t ds
  congr 1
  apply Array.ext_getElem?
  intro j
  rw [Array.getElem?_setIfInBounds]
  split
  · rename_i h
    subst h
    split
    · rename_i h
      simp [h]
    · rename_i h
      simp [h]
  · rfl
theorem chain_self (d e : Nat) (a : Act) : a = chain d e a (a.tmps.getD d undef) (a.tmps.getD (d + 1) undef) (a.tmps.getD (d + 2) undef) (a.tmps.getD (d + 3) undef) (a.tmps.getD e undef) (a.tmps.getD (e - 8) undef) (a.tmps.getD (e + 1) undef) (a.tmps.getD (e + 2) undef) (a.tmps.getD (e + 3) undef) (a.tmps.getD (e + 4) undef) := by
  unfold chain
  simp only [put_self]
theorem put_comm (a : Act) {i j : Nat} (h : i ≠ j) (u v : Value) : (a.put (some i) u).put (some j) v = (a.put (some j) v).put (some i) u := by
  obtain ⟨t, ds⟩ := a
  show Act.mk ((t.setIfInBounds i u).setIfInBounds j v) ds = Act.mk ((t.setIfInBounds j v).setIfInBounds i u) ds
  rw [Array.setIfInBounds_comm _ _ h]
theorem put_put (a : Act) (i : Nat) (u v : Value) : (a.put (some i) u).put (some i) v = a.put (some i) v := by
  obtain ⟨t, ds⟩ := a
  show Act.mk ((t.setIfInBounds i u).setIfInBounds i v) ds = Act.mk (t.setIfInBounds i v) ds
  rw [Array.setIfInBounds_setIfInBounds]
theorem chain_put1 {d e : Nat} (h : d + 3 < e - 8) (a0 : Act) (v v1 v2 v3 v4 u0 u1 u2 u3 u4 u5 : Value) : (chain d e a0 v1 v2 v3 v4 u0 u1 u2 u3 u4 u5).put (some (d)) v = chain d e a0 v v2 v3 v4 u0 u1 u2 u3 u4 u5 := by
  unfold chain
  rw [put_comm _ (show e + 4 ≠ d by omega), put_comm _ (show e + 3 ≠ d by omega), put_comm _ (show e + 2 ≠ d by omega), put_comm _ (show e + 1 ≠ d by omega), put_comm _ (show e - 8 ≠ d by omega), put_comm _ (show e ≠ d by omega), put_comm _ (show d + 3 ≠ d by omega), put_comm _ (show d + 2 ≠ d by omega), put_comm _ (show d + 1 ≠ d by omega), put_put]
theorem chain_put2 {d e : Nat} (h : d + 3 < e - 8) (a0 : Act) (v v1 v2 v3 v4 u0 u1 u2 u3 u4 u5 : Value) : (chain d e a0 v1 v2 v3 v4 u0 u1 u2 u3 u4 u5).put (some (d + 1)) v = chain d e a0 v1 v v3 v4 u0 u1 u2 u3 u4 u5 := by
  unfold chain
  rw [put_comm _ (show e + 4 ≠ d + 1 by omega), put_comm _ (show e + 3 ≠ d + 1 by omega), put_comm _ (show e + 2 ≠ d + 1 by omega), put_comm _ (show e + 1 ≠ d + 1 by omega), put_comm _ (show e - 8 ≠ d + 1 by omega), put_comm _ (show e ≠ d + 1 by omega), put_comm _ (show d + 3 ≠ d + 1 by omega), put_comm _ (show d + 2 ≠ d + 1 by omega), put_put]
theorem chain_put3 {d e : Nat} (h : d + 3 < e - 8) (a0 : Act) (v v1 v2 v3 v4 u0 u1 u2 u3 u4 u5 : Value) : (chain d e a0 v1 v2 v3 v4 u0 u1 u2 u3 u4 u5).put (some (d + 2)) v = chain d e a0 v1 v2 v v4 u0 u1 u2 u3 u4 u5 := by
  unfold chain
  rw [put_comm _ (show e + 4 ≠ d + 2 by omega), put_comm _ (show e + 3 ≠ d + 2 by omega), put_comm _ (show e + 2 ≠ d + 2 by omega), put_comm _ (show e + 1 ≠ d + 2 by omega), put_comm _ (show e - 8 ≠ d + 2 by omega), put_comm _ (show e ≠ d + 2 by omega), put_comm _ (show d + 3 ≠ d + 2 by omega), put_put]
theorem chain_put4 {d e : Nat} (h : d + 3 < e - 8) (a0 : Act) (v v1 v2 v3 v4 u0 u1 u2 u3 u4 u5 : Value) : (chain d e a0 v1 v2 v3 v4 u0 u1 u2 u3 u4 u5).put (some (d + 3)) v = chain d e a0 v1 v2 v3 v u0 u1 u2 u3 u4 u5 := by
  unfold chain
  rw [put_comm _ (show e + 4 ≠ d + 3 by omega), put_comm _ (show e + 3 ≠ d + 3 by omega), put_comm _ (show e + 2 ≠ d + 3 by omega), put_comm _ (show e + 1 ≠ d + 3 by omega), put_comm _ (show e - 8 ≠ d + 3 by omega), put_comm _ (show e ≠ d + 3 by omega), put_put]
/-- What stands, whatever has come up. -/
def JJ (d e : Nat) (r : RF) (a0 : Act) (l7 l1 l2 l3 l4 : Bool) (a : Act) (w : World) : Prop := ∃ v1 v2 v3 v4 u0 u1 u2 u3 u4 u5, a = chain d e a0 v1 v2 v3 v4 u0 u1 u2 u3 u4 u5 ∧ MI r l7 l1 l2 l3 l4 v1 v2 v3 v4 u0 u1 u2 u3 u4 u5 w
theorem JJ.start (d e : Nat) {r : RF} {w : World} {s : Nat → Prop} (h : r.f3 w) (hs : s r.p ∧ s (r.p + 1) ∧ s r.b0) (hb : ∀ b, s b → b < w.heap.size) (hB : r.B ≤ w.heap.size) (hw : WS (gS s) w r.ns r.v) (a : Act) : JJ d e r a false false false false false a w :=
  ⟨_, _, _, _, _, _, _, _, _, _, chain_self d e a, MI.start h hs hb hB hw _ _ _ _ _ _ _ _ _ _⟩
theorem JJ.f3 {d e : Nat} {r : RF} {a0 : Act} {l7 l1 l2 l3 l4 : Bool} {a : Act} {w : World} (h : JJ d e r a0 l7 l1 l2 l3 l4 a w) : r.f3 w := by
  obtain ⟨_, _, _, _, _, _, _, _, _, _, _, h⟩ := h
  exact h.f3
theorem JJ.al1 {d e : Nat} (hc : d + 3 < e - 8) {r : RF} {a0 : Act} {l7 l2 l3 l4 : Bool} {a : Act} {w : World} (h : JJ d e r a0 l7 false l2 l3 l4 a w) : JJ d e r a0 l7 true l2 l3 l4 (a.put (some (d)) (.pointer (some ⟨w.heap.size, 0, none⟩))) (w.alloc z30) := by
  obtain ⟨v1, v2, v3, v4, u0, u1, u2, u3, u4, u5, rfl, hM⟩ := h
  exact ⟨_, v2, v3, v4, u0, u1, u2, u3, u4, u5, chain_put1 hc _ _ _ _ _ _ _ _ _ _ _ _, hM.alloc1⟩
theorem JJ.al2 {d e : Nat} (hc : d + 3 < e - 8) {r : RF} {a0 : Act} {l7 l1 l3 l4 : Bool} {a : Act} {w : World} (h : JJ d e r a0 l7 l1 false l3 l4 a w) : JJ d e r a0 l7 l1 true l3 l4 (a.put (some (d + 1)) (.pointer (some ⟨w.heap.size, 0, none⟩))) (w.alloc z30) := by
  obtain ⟨v1, v2, v3, v4, u0, u1, u2, u3, u4, u5, rfl, hM⟩ := h
  exact ⟨v1, _, v3, v4, u0, u1, u2, u3, u4, u5, chain_put2 hc _ _ _ _ _ _ _ _ _ _ _ _, hM.alloc2⟩
theorem JJ.al3 {d e : Nat} (hc : d + 3 < e - 8) {r : RF} {a0 : Act} {l7 l1 l2 l4 : Bool} {a : Act} {w : World} (h : JJ d e r a0 l7 l1 l2 false l4 a w) : JJ d e r a0 l7 l1 l2 true l4 (a.put (some (d + 2)) (.pointer (some ⟨w.heap.size, 0, none⟩))) (w.alloc z33) := by
  obtain ⟨v1, v2, v3, v4, u0, u1, u2, u3, u4, u5, rfl, hM⟩ := h
  exact ⟨v1, v2, _, v4, u0, u1, u2, u3, u4, u5, chain_put3 hc _ _ _ _ _ _ _ _ _ _ _ _, hM.alloc3⟩
theorem JJ.al4 {d e : Nat} (hc : d + 3 < e - 8) {r : RF} {a0 : Act} {l7 l1 l2 l3 : Bool} {a : Act} {w : World} (h : JJ d e r a0 l7 l1 l2 l3 false a w) : JJ d e r a0 l7 l1 l2 l3 true (a.put (some (d + 3)) (.pointer (some ⟨w.heap.size, 0, none⟩))) (w.alloc z39) := by
  obtain ⟨v1, v2, v3, v4, u0, u1, u2, u3, u4, u5, rfl, hM⟩ := h
  exact ⟨v1, v2, v3, _, u0, u1, u2, u3, u4, u5, chain_put4 hc _ _ _ _ _ _ _ _ _ _ _ _, hM.alloc4⟩
end Go.Proofs.YtmmliaobjendoaaDoor
