/- The cells' functions, by hand. No condition. -/
import Derived.Test.YtlapjaodhdifoaaHC2
namespace Go.Proofs.Ytlapjaodhdifoaa
open Go.RowKit Go.Maps
set_option linter.unusedVariables false
theorem ret_u {a b : Int} (h : a = b) : Ending.returned (.int .u64 a) = Ending.returned (.int .u64 b) := by rw [h]
set_option maxRecDepth 100000 in
theorem clo_load (x : Int) (w : World) : Calls Try.prog 17 #[.int .u64 x] w fun e w' => e = .returned (.int .u64 x) ∧ Below w.heap.size w w' := by
  go_enter Try.func17, Try.ntmps17
  go_wp2
  go_ret
  exact ⟨rfl, Below.refl _ _⟩
set_option maxRecDepth 100000 in
theorem clo_store (x y : Int) (b : Nat) (w : World) (h : w.cell? ⟨b, 0, none⟩ = some (.int .u64 y)) : Calls Try.prog 18 #[.int .u64 x, .pointer (some ⟨b, 0, none⟩)] w fun e w' => e = .returned (.int .u64 y) ∧ Below w.heap.size w w' := by
  go_enter Try.func18, Try.ntmps18
  go_wp2
  go_ret
  exact ⟨rfl, Below.refl _ _⟩
set_option maxRecDepth 100000 in
theorem clo_swap_t (old y : Int) (b b' : Nat) (w : World) (h : w.cell? ⟨b, 0, none⟩ = some (.int .u64 old)) (h' : w.cell? ⟨b', 0, none⟩ = some (.int .u64 y)) : Calls Try.prog 19 #[.int .u64 old, .pointer (some ⟨b, 0, none⟩), .pointer (some ⟨b', 0, none⟩)] w fun e w' => e = .returned (.int .u64 y) ∧ Below w.heap.size w w' := by
  go_enter Try.func19, Try.ntmps19
  go_wp2
  go_ret
  exact ⟨rfl, Below.refl _ _⟩
set_option maxRecDepth 100000 in
theorem clo_swap_f (x old y : Int) (ne : x ≠ old) (b b' : Nat) (w : World) (h : w.cell? ⟨b, 0, none⟩ = some (.int .u64 old)) (h' : w.cell? ⟨b', 0, none⟩ = some (.int .u64 y)) : Calls Try.prog 19 #[.int .u64 x, .pointer (some ⟨b, 0, none⟩), .pointer (some ⟨b', 0, none⟩)] w fun e w' => e = .returned (.int .u64 x) ∧ Below w.heap.size w w' := by
  go_enter Try.func19, Try.ntmps19
  go_wp2
  go_ret
  exact ⟨rfl, Below.refl _ _⟩
set_option maxRecDepth 100000 in
theorem clo_more (x y : Int) (b : Nat) (w : World) (h : w.cell? ⟨b, 0, none⟩ = some (.int .u64 y)) : Calls Try.prog 20 #[.int .u64 x, .pointer (some ⟨b, 0, none⟩)] w fun e w' => e = .returned (.int .u64 (IntKind.u64.wrap (x + y))) ∧ Below w.heap.size w w' := by
  go_enter Try.func20, Try.ntmps20
  go_wp2
  go_ret
  exact ⟨rfl, Below.refl _ _⟩
/-- A fresh slice of words. -/
def SlOut (w : World) (xs : List Int) (n : Nat) (v : Value) (w' : World) : Prop := ∃ (B cap : Nat) (cur : Array Value), v = .slice (some ⟨B, 0, none⟩) n cap ∧ w.heap.size ≤ B ∧ n ≤ cap ∧ cap ≤ maxLen ∧ w'.heap[B]? = some (.cells cur 23 (0, 0)) ∧
  (∀ (j : Nat) (u : Value), (SY.encV [SY.CK.int .u64] xs)[j]? = some u → cur[j]? = some u)
theorem one_below (w : World) (o : Obj) : Below w.heap.size w (w.alloc o) := (Below.refl _ _).alloc (Nat.le_refl _) _
theorem two_below (w : World) (o o' : Obj) : Below w.heap.size w ((w.alloc o).alloc o') := (one_below w o).alloc (by rw [al_size]; omega) _
def LoadPost (w : World) (x : Int) (e : Ending) (w' : World) : Prop := e = .returned (.tuple #[.int .u64 x, .bool true]) ∧ Below w.heap.size w w'
set_option maxRecDepth 100000 in
theorem load_in (w : World) (xs : List Int) (A : Addr) (n c k : Nat) (x : Int) (hk : k < n) (hsp : A.spot = none) (hN : n ≤ 1000) (hl : xs.length = n) (hlt : A.block < w.heap.size) (hrd : ∀ j u, (SY.encV [.int .u64] xs)[j]? = some u → w.cell? (A.add j) = some u) (hx : w.cell? ⟨A.block, A.off + k, none⟩ = some (.int .u64 x)) :
    Calls Try.prog 6 #[.slice (some A) n c, .int .i64 k] w (LoadPost w x) := by
  have hw := with_load (fun x => x) w xs A n c k #[] x 0 hk hsp hN hl hlt hrd hx fun w' _ => clo_load x w'
  go_enter Try.func6, Try.ntmps6
  go_wp2_with (first | (go_at_call 16; refine hw.mono ?_; rintro e w1 ⟨cap, cur, rfl, p1, p2, p3, p4, p5, p6⟩) | go_in)
  exact bodyPost_ret (v := .tuple #[.int .u64 x, .bool true]) (by simp [results, Try.results6, go_sem]) rfl ⟨rfl, p6⟩
set_option maxRecDepth 100000 in
theorem load_out (w : World) (a : Option Addr) (n c : Nat) (i : Int) (h : i < 0 ∨ (n : Int) ≤ i) :
    Calls Try.prog 6 #[.slice a n c, .int .i64 i] w fun e w' => e = .returned (.tuple #[.int .u64 0, .bool false]) ∧ Below w.heap.size w w' := by
  have hw := with_out w a n c i 17 #[] h
  go_enter Try.func6, Try.ntmps6
  go_wp2_with (first | (go_at_call 16; refine hw.mono ?_; rintro e w1 ⟨rfl, rfl⟩) | go_in)
  exact bodyPost_ret (v := .tuple #[.int .u64 0, .bool false]) (by simp [results, Try.results6, go_sem]) rfl ⟨rfl, Below.refl _ _⟩
def StorePost (w : World) (xs : List Int) (n : Nat) (e : Ending) (w' : World) : Prop := ∃ v, e = .returned (.tuple #[v, .bool true]) ∧ SlOut w xs n v w' ∧ Below w.heap.size w w'
set_option maxRecDepth 100000 in
theorem store_in (w : World) (xs : List Int) (A : Addr) (n c k : Nat) (x y : Int) (hk : k < n) (hsp : A.spot = none) (hN : n ≤ 1000) (hl : xs.length = n) (hlt : A.block < w.heap.size) (hrd : ∀ j u, (SY.encV [.int .u64] xs)[j]? = some u → w.cell? (A.add j) = some u) (hx : w.cell? ⟨A.block, A.off + k, none⟩ = some (.int .u64 x)) :
    Calls Try.prog 8 #[.slice (some A) n c, .int .i64 k, .int .u64 y] w (StorePost w (xs.set k y) n) := by
  have b1 := one_below w (.cells #[.int .u64 y] 23)
  have hy : (w.alloc (.cells #[.int .u64 y] 23)).cell? ⟨w.heap.size, 0, none⟩ = some (.int .u64 y) := by rw [cell_of_row _ _ _ _ _ _ (heap_alloc_new w _)]; rfl
  have hw := with_store (fun _ => y) (w.alloc (.cells #[.int .u64 y] 23)) xs A n c k #[.pointer (some ⟨w.heap.size, 0, none⟩)] x 0 hk hsp hN hl (by rw [al_size]; omega) (fun j u hj => (b1.cell (by rw [SY.add_block]; exact hlt)).trans (hrd j u hj)) ((b1.cell (by exact hlt)).trans hx)
    fun w' hb => clo_store x y w.heap.size w' ((hb.cell (by show w.heap.size < _; rw [al_size]; omega)).trans hy)
  go_enter Try.func8, Try.ntmps8
  go_wp2_with (first | (go_at_call 16; refine hw.mono ?_; rintro e w1 ⟨cap, cur, rfl, p1, p2, p3, p4, p5, p6⟩) | go_in)
  exact bodyPost_ret (v := .tuple #[.slice (some ⟨(w.alloc (.cells #[.int .u64 y] 23)).heap.size + 1, 0, none⟩) n cap, .bool true]) (by simp [results, Try.results8, go_sem]) rfl ⟨_, rfl, ⟨_, cap, cur, rfl, by rw [al_size]; omega, p1, p2, p3, p5⟩, b1.trans (p6.mono (by rw [al_size]; omega))⟩
set_option maxRecDepth 100000 in
theorem store_out (w : World) (a : Option Addr) (n c : Nat) (i y : Int) (h : i < 0 ∨ (n : Int) ≤ i) :
    Calls Try.prog 8 #[.slice a n c, .int .i64 i, .int .u64 y] w fun e w' => e = .returned (.tuple #[.slice none 0 0, .bool false]) ∧ Below w.heap.size w w' := by
  have b1 := one_below w (.cells #[.int .u64 y] 23)
  have hw := with_out (w.alloc (.cells #[.int .u64 y] 23)) a n c i 18 #[.pointer (some ⟨w.heap.size, 0, none⟩)] h
  go_enter Try.func8, Try.ntmps8
  go_wp2_with (first | (go_at_call 16; refine hw.mono ?_; rintro e w1 ⟨rfl, rfl⟩) | go_in)
  exact bodyPost_ret (v := .tuple #[.slice none 0 0, .bool false]) (by simp [results, Try.results8, go_sem]) rfl ⟨rfl, b1⟩
def SwapPost (w : World) (xs : List Int) (n : Nat) (b : Bool) (e : Ending) (w' : World) : Prop := ∃ v, e = .returned (.tuple #[v, .bool b, .bool true]) ∧ SlOut w xs n v w' ∧ Below w.heap.size w w'
set_option maxRecDepth 100000 in
theorem swap_in_t (w : World) (xs : List Int) (A : Addr) (n c k : Nat) (old y : Int) (hk : k < n) (hsp : A.spot = none) (hN : n ≤ 1000) (hl : xs.length = n) (hlt : A.block < w.heap.size) (hrd : ∀ j u, (SY.encV [.int .u64] xs)[j]? = some u → w.cell? (A.add j) = some u) (hx : w.cell? ⟨A.block, A.off + k, none⟩ = some (.int .u64 old)) :
    Calls Try.prog 10 #[.slice (some A) n c, .int .i64 k, .int .u64 old, .int .u64 y] w (SwapPost w (xs.set k y) n true) := by
  have b1 := two_below w (.cells #[.int .u64 old] 23) (.cells #[.int .u64 y] 23)
  have ho : ((w.alloc (.cells #[.int .u64 old] 23)).alloc (.cells #[.int .u64 y] 23)).cell? ⟨w.heap.size, 0, none⟩ = some (.int .u64 old) := by
    rw [World.cell?_of_block (Below.heap_alloc _ _ _ (by show w.heap.size < _; rw [al_size]; omega)), cell_of_row _ _ _ _ _ _ (heap_alloc_new w _)]; rfl
  have hy : ((w.alloc (.cells #[.int .u64 old] 23)).alloc (.cells #[.int .u64 y] 23)).cell? ⟨w.heap.size + 1, 0, none⟩ = some (.int .u64 y) := by
    have := heap_alloc_new (w.alloc (.cells #[.int .u64 old] 23)) (.cells #[.int .u64 y] 23)
    rw [al_size] at this
    rw [cell_of_row _ _ _ _ _ _ this]; rfl
  have s2 : ((w.alloc (.cells #[.int .u64 old] 23)).alloc (.cells #[.int .u64 y] 23)).heap.size = w.heap.size + 2 := by rw [al_size, al_size]
  have hw := with_swap (fun _ => y) ((w.alloc (.cells #[.int .u64 old] 23)).alloc (.cells #[.int .u64 y] 23)) xs A n c k #[.pointer (some ⟨w.heap.size, 0, none⟩), .pointer (some ⟨w.heap.size + 1, 0, none⟩)] old 0 hk hsp hN hl (by rw [s2]; omega) (fun j u hj => (b1.cell (by rw [SY.add_block]; exact hlt)).trans (hrd j u hj)) ((b1.cell (by exact hlt)).trans hx)
    fun w' hb => clo_swap_t old y w.heap.size (w.heap.size + 1) w' ((hb.cell (by show w.heap.size < _; rw [s2]; omega)).trans ho) ((hb.cell (by show w.heap.size + 1 < _; rw [s2]; omega)).trans hy)
  go_enter Try.func10, Try.ntmps10
  go_wp2_with (first | (go_at_call 16; refine hw.mono ?_; rintro e w1 ⟨cap, cur, rfl, p1, p2, p3, p4, p5, p6⟩; have ho1 : w1.cell? ⟨w.heap.size, 0, none⟩ = some (.int .u64 old) := (p6.cell (by show w.heap.size < _; rw [s2]; omega)).trans ho) | go_in)
  go_quiet (fail)
  go_wp2
  exact bodyPost_ret (v := .tuple #[.slice (some ⟨((w.alloc (.cells #[.int .u64 old] 23)).alloc (.cells #[.int .u64 y] 23)).heap.size + 1, 0, none⟩) n cap, .bool true, .bool true]) (by simp [results, Try.results10, go_sem]) rfl ⟨_, rfl, ⟨_, cap, cur, rfl, by rw [s2]; omega, p1, p2, p3, p5⟩, below_drewN (b1.trans (p6.mono (by rw [s2]; omega)))⟩
set_option maxRecDepth 100000 in
theorem swap_in_f (w : World) (xs : List Int) (A : Addr) (n c k : Nat) (x old y : Int) (ne : x ≠ old) (hk : k < n) (hsp : A.spot = none) (hN : n ≤ 1000) (hl : xs.length = n) (hlt : A.block < w.heap.size) (hrd : ∀ j u, (SY.encV [.int .u64] xs)[j]? = some u → w.cell? (A.add j) = some u) (hx : w.cell? ⟨A.block, A.off + k, none⟩ = some (.int .u64 x)) :
    Calls Try.prog 10 #[.slice (some A) n c, .int .i64 k, .int .u64 old, .int .u64 y] w (SwapPost w (xs.set k x) n false) := by
  have ne' : (x == old) = false := by simpa using ne
  have b1 := two_below w (.cells #[.int .u64 old] 23) (.cells #[.int .u64 y] 23)
  have ho : ((w.alloc (.cells #[.int .u64 old] 23)).alloc (.cells #[.int .u64 y] 23)).cell? ⟨w.heap.size, 0, none⟩ = some (.int .u64 old) := by
    rw [World.cell?_of_block (Below.heap_alloc _ _ _ (by show w.heap.size < _; rw [al_size]; omega)), cell_of_row _ _ _ _ _ _ (heap_alloc_new w _)]; rfl
  have hy : ((w.alloc (.cells #[.int .u64 old] 23)).alloc (.cells #[.int .u64 y] 23)).cell? ⟨w.heap.size + 1, 0, none⟩ = some (.int .u64 y) := by
    have := heap_alloc_new (w.alloc (.cells #[.int .u64 old] 23)) (.cells #[.int .u64 y] 23)
    rw [al_size] at this
    rw [cell_of_row _ _ _ _ _ _ this]; rfl
  have s2 : ((w.alloc (.cells #[.int .u64 old] 23)).alloc (.cells #[.int .u64 y] 23)).heap.size = w.heap.size + 2 := by rw [al_size, al_size]
  have hw := with_swap (fun _ => x) ((w.alloc (.cells #[.int .u64 old] 23)).alloc (.cells #[.int .u64 y] 23)) xs A n c k #[.pointer (some ⟨w.heap.size, 0, none⟩), .pointer (some ⟨w.heap.size + 1, 0, none⟩)] x 0 hk hsp hN hl (by rw [s2]; omega) (fun j u hj => (b1.cell (by rw [SY.add_block]; exact hlt)).trans (hrd j u hj)) ((b1.cell (by exact hlt)).trans hx)
    fun w' hb => clo_swap_f x old y ne w.heap.size (w.heap.size + 1) w' ((hb.cell (by show w.heap.size < _; rw [s2]; omega)).trans ho) ((hb.cell (by show w.heap.size + 1 < _; rw [s2]; omega)).trans hy)
  go_enter Try.func10, Try.ntmps10
  go_wp2_with (first | (go_at_call 16; refine hw.mono ?_; rintro e w1 ⟨cap, cur, rfl, p1, p2, p3, p4, p5, p6⟩; have ho1 : w1.cell? ⟨w.heap.size, 0, none⟩ = some (.int .u64 old) := (p6.cell (by show w.heap.size < _; rw [s2]; omega)).trans ho) | go_in)
  go_quiet (fail)
  go_wp2
  exact bodyPost_ret (v := .tuple #[.slice (some ⟨((w.alloc (.cells #[.int .u64 old] 23)).alloc (.cells #[.int .u64 y] 23)).heap.size + 1, 0, none⟩) n cap, .bool false, .bool true]) (by simp [results, Try.results10, go_sem]) rfl ⟨_, rfl, ⟨_, cap, cur, rfl, by rw [s2]; omega, p1, p2, p3, p5⟩, below_drewN (b1.trans (p6.mono (by rw [s2]; omega)))⟩
set_option maxRecDepth 100000 in
theorem swap_out (w : World) (a : Option Addr) (n c : Nat) (i old y : Int) (h : i < 0 ∨ (n : Int) ≤ i) :
    Calls Try.prog 10 #[.slice a n c, .int .i64 i, .int .u64 old, .int .u64 y] w fun e w' => e = .returned (.tuple #[.slice none 0 0, .bool false, .bool false]) ∧ Below w.heap.size w w' := by
  have b1 := two_below w (.cells #[.int .u64 old] 23) (.cells #[.int .u64 y] 23)
  have hw := with_out ((w.alloc (.cells #[.int .u64 old] 23)).alloc (.cells #[.int .u64 y] 23)) a n c i 19 #[.pointer (some ⟨w.heap.size, 0, none⟩), .pointer (some ⟨w.heap.size + 1, 0, none⟩)] h
  go_enter Try.func10, Try.ntmps10
  go_wp2_with (first | (go_at_call 16; refine hw.mono ?_; rintro e w1 ⟨rfl, rfl⟩) | go_in)
  go_quiet (fail)
  go_wp2
  exact bodyPost_ret (v := .tuple #[.slice none 0 0, .bool false, .bool false]) (by simp [results, Try.results10, go_sem]) rfl ⟨rfl, below_drewN b1⟩
def MorePost (w : World) (xs : List Int) (n : Nat) (x : Int) (e : Ending) (w' : World) : Prop := ∃ v, e = .returned (.tuple #[v, .int .u64 x, .bool true]) ∧ SlOut w xs n v w' ∧ Below w.heap.size w w'
set_option maxRecDepth 100000 in
theorem more_in (w : World) (xs : List Int) (A : Addr) (n c k : Nat) (x y : Int) (hk : k < n) (hsp : A.spot = none) (hN : n ≤ 1000) (hl : xs.length = n) (hlt : A.block < w.heap.size) (hrd : ∀ j u, (SY.encV [.int .u64] xs)[j]? = some u → w.cell? (A.add j) = some u) (hx : w.cell? ⟨A.block, A.off + k, none⟩ = some (.int .u64 x)) :
    Calls Try.prog 12 #[.slice (some A) n c, .int .i64 k, .int .u64 y] w (MorePost w (xs.set k (IntKind.u64.wrap (x + y))) n (IntKind.u64.wrap (x + y))) := by
  have b1 := one_below w (.cells #[.int .u64 y] 23)
  have hy : (w.alloc (.cells #[.int .u64 y] 23)).cell? ⟨w.heap.size, 0, none⟩ = some (.int .u64 y) := by rw [cell_of_row _ _ _ _ _ _ (heap_alloc_new w _)]; rfl
  have hw := with_more (fun x => IntKind.u64.wrap (x + y)) (w.alloc (.cells #[.int .u64 y] 23)) xs A n c k #[.pointer (some ⟨w.heap.size, 0, none⟩)] x 0 hk hsp hN hl (by rw [al_size]; omega) (fun j u hj => (b1.cell (by rw [SY.add_block]; exact hlt)).trans (hrd j u hj)) ((b1.cell (by exact hlt)).trans hx)
    fun w' hb => clo_more x y w.heap.size w' ((hb.cell (by show w.heap.size < _; rw [al_size]; omega)).trans hy)
  go_enter Try.func12, Try.ntmps12
  go_wp2_with (first | (go_at_call 16; refine hw.mono ?_; rintro e w1 ⟨cap, cur, rfl, p1, p2, p3, p4, p5, p6⟩; have hy1 : w1.cell? ⟨w.heap.size, 0, none⟩ = some (.int .u64 y) := (p6.cell (by show w.heap.size < _; rw [al_size]; omega)).trans hy) | go_in)
  go_quiet (fail)
  go_wp2
  exact bodyPost_ret (v := .tuple #[.slice (some ⟨(w.alloc (.cells #[.int .u64 y] 23)).heap.size + 1, 0, none⟩) n cap, .int .u64 (IntKind.u64.wrap (x + y)), .bool true]) (by simp [results, Try.results12, go_sem]) rfl ⟨_, rfl, ⟨_, cap, cur, rfl, by rw [al_size]; omega, p1, p2, p3, p5⟩, below_drewN (b1.trans (p6.mono (by rw [al_size]; omega)))⟩
set_option maxRecDepth 100000 in
theorem more_out (w : World) (a : Option Addr) (n c : Nat) (i y : Int) (h : i < 0 ∨ (n : Int) ≤ i) :
    Calls Try.prog 12 #[.slice a n c, .int .i64 i, .int .u64 y] w fun e w' => e = .returned (.tuple #[.slice none 0 0, .int .u64 0, .bool false]) ∧ Below w.heap.size w w' := by
  have b1 := one_below w (.cells #[.int .u64 y] 23)
  have hw := with_out (w.alloc (.cells #[.int .u64 y] 23)) a n c i 20 #[.pointer (some ⟨w.heap.size, 0, none⟩)] h
  go_enter Try.func12, Try.ntmps12
  go_wp2_with (first | (go_at_call 16; refine hw.mono ?_; rintro e w1 ⟨rfl, rfl⟩) | go_in)
  exact bodyPost_ret (v := .tuple #[.slice none 0 0, .int .u64 0, .bool false]) (by simp [results, Try.results12, go_sem]) rfl ⟨rfl, b1⟩
end Go.Proofs.Ytlapjaodhdifoaa
