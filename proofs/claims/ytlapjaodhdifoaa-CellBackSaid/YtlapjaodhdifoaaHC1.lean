/- A copy of a slice, by hand. No condition. -/
import Derived.Test.YtlapjaodhdifoaaSyX
import Derived.Test.YtlapjaodhdifoaaSyV
import Derived.Test.YtlapjaodhdifoaaCF
import Derived.WalkKit
import Derived.OwnWalk
import Derived.Maps.OwnOps
import Derived.LoopTactic
import Derived.Deep.QuietTactic
import Derived.BigQuiet
namespace Go.Proofs.Ytlapjaodhdifoaa
open Go.RowKit Go.Maps
set_option linter.unusedVariables false
theorem wp_append {P : Program} (w w' : World) {ops : Array Oper} {rest : List Oper} {o : Oper} {a : Act} {Q : Exit → Act → World → Prop} (hg : o.guard = none) (t u : TypeId) (x y : Operand) (hop : o.op = .call ⟨.builtin .append, #[x, y], #[t, u]⟩) (vx vy v' : Value)
    (hx : a.eval x = vx) (hy : a.eval y = vy) (hrun : (Builtin.append_ #[t, u] o.type #[vx, vy]).run P w = .ok v' w') (hK : wpList P ops Q rest (a.put o.dst v') w') : wpList P ops Q (o :: rest) a w := by
  refine wpList_plain hg fun K' hK' => ?_
  unfold Oper.wp
  simp [execOp, hop, resolve, invoke, builtin, hx, hy, hrun, Result.andThen]
  exact hK' _ _ hK
theorem eq_nil_no (w : World) (A : Addr) (n c : Nat) : (binOp .eql 22 (.slice (some A) n c) (.slice none 0 0)).run Try.prog w = .ok (.bool false) w := by
  kernel_rfl
set_option maxRecDepth 100000 in
theorem clone_calls (w : World) (A : Addr) (n c : Nat) (v' : Value) (w' : World) (hrun : (Builtin.append_ #[22, 22] 22 #[.slice (some ⟨w.heap.size, 0, none⟩) 0 0, .slice (some A) n c]).run Try.prog (w.alloc (.cells #[] 23)) = .ok v' w') :
    Calls Try.prog 22 #[.slice (some A) n c] w fun e w2 => e = .returned v' ∧ w2 = w' := by
  have hnil := eq_nil_no w A n c
  go_enter Try.func22, Try.ntmps22
  go_wp2_with (first | (at_builtin; refine wp_append _ _ rfl 22 22 _ _ rfl _ _ _ rfl rfl hrun ?_) | go_in)
  go_ret
  exact ⟨rfl, rfl⟩
open SY in
theorem al_size (w : World) (o : Obj) : (w.alloc o).heap.size = w.heap.size + 1 := by show (w.heap.push _).size = _; simp
open SY in
/-- The copy of some words. -/
theorem clone_some (w : World) (xs : List Int) (A : Addr) (n c : Nat) (hn : 0 < n) (hN : n ≤ 1000) (hl : xs.length = n) (hlt : A.block < w.heap.size) (hrd : ∀ j u, (encV [.int .u64] xs)[j]? = some u → w.cell? (A.add j) = some u) :
    ∃ (cap : Nat) (cur : Array Value), n ≤ cap ∧ cap ≤ maxLen ∧ cur.size = cap ∧ (∀ (j : Nat) (u : Value), (encV [CK.int .u64] xs)[j]? = some u → cur[j]? = some u) ∧
      Calls Try.prog 22 #[.slice (some A) n c] w fun e w' => e = .returned (.slice (some ⟨w.heap.size + 1, 0, none⟩) n cap) ∧ w'.heap[w.heap.size + 1]? = some (.cells cur 23 (0, 0)) ∧ w'.heap.size = w.heap.size + 2 ∧ Below w.heap.size w w' := by
  obtain ⟨ti, z, hel⟩ := el_ok (P := Try.prog) (e := 23) (ks := [.int .u64]) (by kernel_rfl) (by kernel_rfl)
  have hsz : ti.size = 1 := hel.size
  have b1 : Below w.heap.size w (w.alloc (.cells #[] 23)) := (Below.refl _ _).alloc (Nat.le_refl _) _
  have s1 := al_size w (.cells #[] 23)
  have hr := run_append_grow (P := Try.prog) (w.alloc (.cells #[] 23)) 22 22 23 ti z Try.underlying22 hel.info hel.zero ⟨w.heap.size, 0, none⟩ 0 0 [] (by simp) (fun j v h => by simp at h) A n c (encV [.int .u64] xs) (by rw [encV_len, hsz]; omega)
    (fun j v h => (b1.cell (by rw [add_block]; exact hlt)).trans (hrd j v h)) (by omega) (by omega) (growslice_fits (by omega) (by have := Nat.mul_le_mul (show 0 + n ≤ 1000 by omega) hel.bytes; omega))
  rw [Nat.zero_add] at hr
  have hcap := grownCap_ge (w.alloc (.cells #[] 23)) n 0 23
  have hcap' := grownCap_le_maxLen (w.alloc (.cells #[] 23)) n 0 23 (by unfold maxLen; omega)
  generalize grownCap (w.alloc (.cells #[] 23)) n 0 23 = cap at *
  have s2 : (w.alloc (.cells #[] 23)).drew.heap.size = w.heap.size + 1 := s1
  refine ⟨cap, [].toArray ++ (encV [CK.int .u64] xs).toArray ++ Builtin.zeroCells z.cells (cap - n), hcap, hcap', ?_, fun j u h => ?_, (clone_calls w A n c _ _ hr).mono ?_⟩
  · simp only [Array.size_append, List.size_toArray, List.length_nil, encV_len, Builtin.zeroCells]
    simp [hel.zsize, hsz]; omega
  · have hj : j < (encV [CK.int .u64] xs).length := by
      rcases Nat.lt_or_ge j (encV [CK.int .u64] xs).length with h' | h'
      · exact h'
      · rw [List.getElem?_eq_none h'] at h; cases h
    rw [Array.getElem?_append_left (by simp; simpa using hj)]
    simpa using h
  · rintro e w' ⟨rfl, rfl⟩
    refine ⟨by rw [s1], ?_, by rw [al_size, s2], b1.drew.alloc (by show w.heap.size ≤ _; rw [s2]; omega) _⟩
    have := heap_alloc_new (w.alloc (.cells #[] 23)).drew (.cells ([].toArray ++ (encV [.int .u64] xs).toArray ++ Builtin.zeroCells z.cells (cap - n)) 23)
    rw [s2] at this
    exact this
theorem set_heap {w : World} {b k : Nat} {cs : Array Value} {t : TypeId} {v : Value} (h : w.heap[b]? = some (.cells cs t (0, 0))) (hk : k < cs.size) : (w.setCell ⟨b, k, none⟩ v).heap[b]? = some (.cells (cs.set k v hk) t (0, 0)) := by
  have hlt := SY.lt_of_heap h
  have h' : w.heap[b] = .cells cs t (0, 0) := by simpa [Array.getElem?_eq_getElem hlt] using h
  show (w.heap.modify b _)[b]? = _
  rw [Array.getElem?_eq_getElem (by simpa using hlt), Array.getElem_modify_self, h']
  simp [Array.set!, Array.setIfInBounds, hk]
theorem below_drewN {w w' : World} {b n : Nat} (h : Below b w w') : Below b w (w'.drewN n) := ⟨h.os, h.tape, h.output, h.size, h.block⟩
theorem enc_set {xs : List Int} {k : Nat} {y : Int} {cur : Array Value} (hcur : k < cur.size) (h : ∀ (j : Nat) (u : Value), (SY.encV [SY.CK.int .u64] xs)[j]? = some u → cur[j]? = some u) (j : Nat) (u : Value) (hu : (SY.encV [SY.CK.int .u64] (xs.set k y))[j]? = some u) : (cur.set k (.int .u64 y) hcur)[j]? = some u := by
  rw [SY.encV_get, List.getElem?_set] at hu
  rw [Array.getElem?_set]
  have ka : SY.kAt [SY.CK.int .u64] j = .int .u64 := by simp [SY.kAt, Nat.mod_one]
  by_cases e : k = j
  · rw [if_pos e] at hu ⊢
    split at hu
    · simpa [ka, SY.rdV] using hu
    · simp at hu
  · rw [if_neg e] at hu ⊢
    exact h j u (by rw [SY.encV_get]; exact hu)
def WithPost (w : World) (xs' : List Int) (n : Nat) (x : Int) (e : Ending) (w' : World) : Prop := ∃ (cap : Nat) (cur : Array Value), e = .returned (.tuple #[.slice (some ⟨w.heap.size + 1, 0, none⟩) n cap, .int .u64 x, .bool true]) ∧ n ≤ cap ∧ cap ≤ maxLen ∧ w'.heap[w.heap.size + 1]? = some (.cells cur 23 (0, 0)) ∧ cur.size = cap ∧
  (∀ (j : Nat) (u : Value), (SY.encV [SY.CK.int .u64] xs')[j]? = some u → cur[j]? = some u) ∧ Below w.heap.size w w'
end Go.Proofs.Ytlapjaodhdifoaa
