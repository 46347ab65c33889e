/- cell.with with each of its rules, by hand. No condition. -/
import Derived.Test.YtlapjaodhdifoaaHC1
namespace Go.Proofs.Ytlapjaodhdifoaa
open Go.RowKit Go.Maps
set_option linter.unusedVariables false
set_option maxRecDepth 100000 in
theorem with_load (φ : Int → Int) (w : World) (xs : List Int) (A : Addr) (n c k : Nat) (caps : Array Value) (x y : Int) (hk : k < n) (hsp : A.spot = none) (hN : n ≤ 1000) (hl : xs.length = n) (hlt : A.block < w.heap.size) (hrd : ∀ j u, (SY.encV [.int .u64] xs)[j]? = some u → w.cell? (A.add j) = some u) (hx : w.cell? ⟨A.block, A.off + k, none⟩ = some (.int .u64 x))
    (hcl : ∀ w', Below w.heap.size w w' → Calls Try.prog 17 (#[.int .u64 x] ++ caps) w' fun e w'' => e = .returned (.int .u64 (φ x)) ∧ Below w'.heap.size w' w'') :
    Calls Try.prog 16 #[.slice (some A) n c, .int .i64 k, .func (.func 17) #[] caps] w (WithPost w (xs.set k (φ x)) n x) := by
  obtain ⟨cap, cur, c1, c2, c3, c4, hc⟩ := clone_some w xs A n c (by omega) hN hl hlt hrd
  obtain ⟨B, off, spot⟩ := A
  simp only at hsp hx hlt
  subst hsp
  have hcur : k < cur.size := by omega
  have hns : (⟨w.heap.size + 1, k, none⟩ : Addr).block ≠ B := by show w.heap.size + 1 ≠ B; omega
  go_enter Try.func16, Try.ntmps16
  go_wp2_with (first | (go_at_call 22; refine hc.mono ?_; rintro e w1 ⟨rfl, d1, d2, d3⟩; have hx1 := (d3.cell (by exact hlt)).trans hx) | (go_at_call 17; refine (hcl _ d3).mono ?_; rintro e w2 ⟨rfl, d4⟩; have d5 := (d4.block _ (by omega)).trans d1; have d6 : w2.cell? ⟨w.heap.size + 1, k, none⟩ = some cur[k] := (cell_of_row _ _ _ _ _ _ d5).trans (Array.getElem?_eq_getElem hcur); have d7 : w2.frozen? ⟨w.heap.size + 1, k, none⟩ = false := (by simp [World.frozen?, d5]); have d8 : (w2.setCell ⟨w.heap.size + 1, k, none⟩ (.int .u64 (φ x))).cell? ⟨B, off + k, none⟩ = some (.int .u64 x) := (World.cell?_of_block (Below.heap_setCell _ _ _ _ (fun h => hns h.symm))).trans ((d4.cell (by show B < _; omega)).trans hx1)) | go_in)
  go_quiet (fail)
  go_wp2
  refine bodyPost_ret (v := .tuple #[.slice (some ⟨w.heap.size + 1, 0, none⟩) n cap, .int .u64 x, .bool true]) (by simp [results, Try.results16, go_sem]) rfl ?_
  refine ⟨cap, cur.set k (.int .u64 (φ x)) hcur, rfl, c1, c2, ?_, by simp [c3], fun j u h => ?_, ?_⟩
  · exact set_heap d5 hcur
  · exact enc_set hcur c4 j u h
  · exact below_drewN (Below.setCell (d3.trans (d4.mono d3.size)) (by show w.heap.size ≤ w.heap.size + 1; omega) _)
set_option maxRecDepth 100000 in
theorem with_store (φ : Int → Int) (w : World) (xs : List Int) (A : Addr) (n c k : Nat) (caps : Array Value) (x y : Int) (hk : k < n) (hsp : A.spot = none) (hN : n ≤ 1000) (hl : xs.length = n) (hlt : A.block < w.heap.size) (hrd : ∀ j u, (SY.encV [.int .u64] xs)[j]? = some u → w.cell? (A.add j) = some u) (hx : w.cell? ⟨A.block, A.off + k, none⟩ = some (.int .u64 x))
    (hcl : ∀ w', Below w.heap.size w w' → Calls Try.prog 18 (#[.int .u64 x] ++ caps) w' fun e w'' => e = .returned (.int .u64 (φ x)) ∧ Below w'.heap.size w' w'') :
    Calls Try.prog 16 #[.slice (some A) n c, .int .i64 k, .func (.func 18) #[] caps] w (WithPost w (xs.set k (φ x)) n x) := by
  obtain ⟨cap, cur, c1, c2, c3, c4, hc⟩ := clone_some w xs A n c (by omega) hN hl hlt hrd
  obtain ⟨B, off, spot⟩ := A
  simp only at hsp hx hlt
  subst hsp
  have hcur : k < cur.size := by omega
  have hns : (⟨w.heap.size + 1, k, none⟩ : Addr).block ≠ B := by show w.heap.size + 1 ≠ B; omega
  go_enter Try.func16, Try.ntmps16
  go_wp2_with (first | (go_at_call 22; refine hc.mono ?_; rintro e w1 ⟨rfl, d1, d2, d3⟩; have hx1 := (d3.cell (by exact hlt)).trans hx) | (go_at_call 18; refine (hcl _ d3).mono ?_; rintro e w2 ⟨rfl, d4⟩; have d5 := (d4.block _ (by omega)).trans d1; have d6 : w2.cell? ⟨w.heap.size + 1, k, none⟩ = some cur[k] := (cell_of_row _ _ _ _ _ _ d5).trans (Array.getElem?_eq_getElem hcur); have d7 : w2.frozen? ⟨w.heap.size + 1, k, none⟩ = false := (by simp [World.frozen?, d5]); have d8 : (w2.setCell ⟨w.heap.size + 1, k, none⟩ (.int .u64 (φ x))).cell? ⟨B, off + k, none⟩ = some (.int .u64 x) := (World.cell?_of_block (Below.heap_setCell _ _ _ _ (fun h => hns h.symm))).trans ((d4.cell (by show B < _; omega)).trans hx1)) | go_in)
  go_quiet (fail)
  go_wp2
  refine bodyPost_ret (v := .tuple #[.slice (some ⟨w.heap.size + 1, 0, none⟩) n cap, .int .u64 x, .bool true]) (by simp [results, Try.results16, go_sem]) rfl ?_
  refine ⟨cap, cur.set k (.int .u64 (φ x)) hcur, rfl, c1, c2, ?_, by simp [c3], fun j u h => ?_, ?_⟩
  · exact set_heap d5 hcur
  · exact enc_set hcur c4 j u h
  · exact below_drewN (Below.setCell (d3.trans (d4.mono d3.size)) (by show w.heap.size ≤ w.heap.size + 1; omega) _)
set_option maxRecDepth 100000 in
theorem with_swap (φ : Int → Int) (w : World) (xs : List Int) (A : Addr) (n c k : Nat) (caps : Array Value) (x y : Int) (hk : k < n) (hsp : A.spot = none) (hN : n ≤ 1000) (hl : xs.length = n) (hlt : A.block < w.heap.size) (hrd : ∀ j u, (SY.encV [.int .u64] xs)[j]? = some u → w.cell? (A.add j) = some u) (hx : w.cell? ⟨A.block, A.off + k, none⟩ = some (.int .u64 x))
    (hcl : ∀ w', Below w.heap.size w w' → Calls Try.prog 19 (#[.int .u64 x] ++ caps) w' fun e w'' => e = .returned (.int .u64 (φ x)) ∧ Below w'.heap.size w' w'') :
    Calls Try.prog 16 #[.slice (some A) n c, .int .i64 k, .func (.func 19) #[] caps] w (WithPost w (xs.set k (φ x)) n x) := by
  obtain ⟨cap, cur, c1, c2, c3, c4, hc⟩ := clone_some w xs A n c (by omega) hN hl hlt hrd
  obtain ⟨B, off, spot⟩ := A
  simp only at hsp hx hlt
  subst hsp
  have hcur : k < cur.size := by omega
  have hns : (⟨w.heap.size + 1, k, none⟩ : Addr).block ≠ B := by show w.heap.size + 1 ≠ B; omega
  go_enter Try.func16, Try.ntmps16
  go_wp2_with (first | (go_at_call 22; refine hc.mono ?_; rintro e w1 ⟨rfl, d1, d2, d3⟩; have hx1 := (d3.cell (by exact hlt)).trans hx) | (go_at_call 19; refine (hcl _ d3).mono ?_; rintro e w2 ⟨rfl, d4⟩; have d5 := (d4.block _ (by omega)).trans d1; have d6 : w2.cell? ⟨w.heap.size + 1, k, none⟩ = some cur[k] := (cell_of_row _ _ _ _ _ _ d5).trans (Array.getElem?_eq_getElem hcur); have d7 : w2.frozen? ⟨w.heap.size + 1, k, none⟩ = false := (by simp [World.frozen?, d5]); have d8 : (w2.setCell ⟨w.heap.size + 1, k, none⟩ (.int .u64 (φ x))).cell? ⟨B, off + k, none⟩ = some (.int .u64 x) := (World.cell?_of_block (Below.heap_setCell _ _ _ _ (fun h => hns h.symm))).trans ((d4.cell (by show B < _; omega)).trans hx1)) | go_in)
  go_quiet (fail)
  go_wp2
  refine bodyPost_ret (v := .tuple #[.slice (some ⟨w.heap.size + 1, 0, none⟩) n cap, .int .u64 x, .bool true]) (by simp [results, Try.results16, go_sem]) rfl ?_
  refine ⟨cap, cur.set k (.int .u64 (φ x)) hcur, rfl, c1, c2, ?_, by simp [c3], fun j u h => ?_, ?_⟩
  · exact set_heap d5 hcur
  · exact enc_set hcur c4 j u h
  · exact below_drewN (Below.setCell (d3.trans (d4.mono d3.size)) (by show w.heap.size ≤ w.heap.size + 1; omega) _)
set_option maxRecDepth 100000 in
theorem with_more (φ : Int → Int) (w : World) (xs : List Int) (A : Addr) (n c k : Nat) (caps : Array Value) (x y : Int) (hk : k < n) (hsp : A.spot = none) (hN : n ≤ 1000) (hl : xs.length = n) (hlt : A.block < w.heap.size) (hrd : ∀ j u, (SY.encV [.int .u64] xs)[j]? = some u → w.cell? (A.add j) = some u) (hx : w.cell? ⟨A.block, A.off + k, none⟩ = some (.int .u64 x))
    (hcl : ∀ w', Below w.heap.size w w' → Calls Try.prog 20 (#[.int .u64 x] ++ caps) w' fun e w'' => e = .returned (.int .u64 (φ x)) ∧ Below w'.heap.size w' w'') :
    Calls Try.prog 16 #[.slice (some A) n c, .int .i64 k, .func (.func 20) #[] caps] w (WithPost w (xs.set k (φ x)) n x) := by
  obtain ⟨cap, cur, c1, c2, c3, c4, hc⟩ := clone_some w xs A n c (by omega) hN hl hlt hrd
  obtain ⟨B, off, spot⟩ := A
  simp only at hsp hx hlt
  subst hsp
  have hcur : k < cur.size := by omega
  have hns : (⟨w.heap.size + 1, k, none⟩ : Addr).block ≠ B := by show w.heap.size + 1 ≠ B; omega
  go_enter Try.func16, Try.ntmps16
  go_wp2_with (first | (go_at_call 22; refine hc.mono ?_; rintro e w1 ⟨rfl, d1, d2, d3⟩; have hx1 := (d3.cell (by exact hlt)).trans hx) | (go_at_call 20; refine (hcl _ d3).mono ?_; rintro e w2 ⟨rfl, d4⟩; have d5 := (d4.block _ (by omega)).trans d1; have d6 : w2.cell? ⟨w.heap.size + 1, k, none⟩ = some cur[k] := (cell_of_row _ _ _ _ _ _ d5).trans (Array.getElem?_eq_getElem hcur); have d7 : w2.frozen? ⟨w.heap.size + 1, k, none⟩ = false := (by simp [World.frozen?, d5]); have d8 : (w2.setCell ⟨w.heap.size + 1, k, none⟩ (.int .u64 (φ x))).cell? ⟨B, off + k, none⟩ = some (.int .u64 x) := (World.cell?_of_block (Below.heap_setCell _ _ _ _ (fun h => hns h.symm))).trans ((d4.cell (by show B < _; omega)).trans hx1)) | go_in)
  go_quiet (fail)
  go_wp2
  refine bodyPost_ret (v := .tuple #[.slice (some ⟨w.heap.size + 1, 0, none⟩) n cap, .int .u64 x, .bool true]) (by simp [results, Try.results16, go_sem]) rfl ?_
  refine ⟨cap, cur.set k (.int .u64 (φ x)) hcur, rfl, c1, c2, ?_, by simp [c3], fun j u h => ?_, ?_⟩
  · exact set_heap d5 hcur
  · exact enc_set hcur c4 j u h
  · exact below_drewN (Below.setCell (d3.trans (d4.mono d3.size)) (by show w.heap.size ≤ w.heap.size + 1; omega) _)
set_option maxRecDepth 100000 in
theorem with_out (w : World) (a : Option Addr) (n c : Nat) (i : Int) (f : Nat) (caps : Array Value) (h : i < 0 ∨ (n : Int) ≤ i) :
    Calls Try.prog 16 #[.slice a n c, .int .i64 i, .func (.func f) #[] caps] w fun e w' => e = .returned (.tuple #[.slice none 0 0, .int .u64 0, .bool false]) ∧ w' = w := by
  go_enter Try.func16, Try.ntmps16
  by_cases h1 : i < 0
  · go_wp2
    exact bodyPost_ret (v := .tuple #[.slice none 0 0, .int .u64 0, .bool false]) (by simp [results, Try.results16, go_sem]) rfl ⟨rfl, rfl⟩
  · have h2 : (n : Int) ≤ i := by omega
    have h3 : (decide (i < 0) || decide ((n : Int) ≤ i)) = true := by simp [h2]
    go_wp2
    exact bodyPost_ret (v := .tuple #[.slice none 0 0, .int .u64 0, .bool false]) (by simp [results, Try.results16, go_sem]) rfl ⟨rfl, rfl⟩
end Go.Proofs.Ytlapjaodhdifoaa
