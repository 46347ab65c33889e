/- Objects' steps: what the small functions answer, and the copy of three objects. No condition. -/
import Derived.Test.YtapjehgfekjdaaaDoorRQ1
import Derived.WalkKit
import Derived.OwnWalk
import Derived.Maps.OwnOps
import Derived.LoopTactic
import Derived.Deep.QuietTactic
import Derived.BigQuiet
namespace Go.Proofs.YtapjehgfekjdaaaDoor
open SY
open Go.RowKit Go.Maps
set_option linter.unusedVariables false
set_option maxRecDepth 100000
theorem cV_ds {g : G} {w : World} {c : SC} {v : Value} (h : cV c = some v) : DC g w c v := by
  cases c with
  | v x => simp only [cV, Option.some.injEq] at h; exact h.symm
  | st xs => simp only [cV, Option.some.injEq] at h; exact h.symm
  | _ => cases h
theorem csV_ds {g : G} {w : World} : ∀ {l : List SC} {vs : List Value}, csV l = some vs → All2 (DC g w) l vs
  | [], vs, h => by
    have h : some [] = some vs := h
    cases h; trivial
  | c :: l, vs, h => by
    have h : (match cV c with
      | some x => match csV l with
        | some xs => some (x :: xs)
        | none => none
      | none => none) = some vs := h
    split at h <;> try (cases h; done)
    rename_i x hx
    split at h <;> try (cases h; done)
    rename_i xs hxs
    cases h
    exact ⟨cV_ds hx, csV_ds hxs⟩
theorem tV_ds {g : G} {w : World} {c : T} {v : Value} (h : tV c = some v) : DT g w c v := by
  cases c with
  | c x => exact cV_ds h
  | agg l =>
    have h : (match csV l with
      | some vs => some (.agg vs.toArray)
      | none => none) = some v := h
    split at h <;> try (cases h; done)
    rename_i vs hvs
    cases h
    exact ⟨vs, rfl, csV_ds hvs⟩
theorem args_ds {g : G} {w : World} : ∀ {l : List T} {vs : List Value}, tsV l = some vs → All2 (DS g w) (l.map S.t) vs
  | [], vs, h => by
    have h : some [] = some vs := h
    cases h; trivial
  | c :: l, vs, h => by
    have h : (match tV c with
      | some x => match tsV l with
        | some xs => some (x :: xs)
        | none => none
      | none => none) = some vs := h
    split at h <;> try (cases h; done)
    rename_i x hx
    split at h <;> try (cases h; done)
    rename_i xs hxs
    cases h
    exact ⟨tV_ds hx, args_ds hxs⟩
theorem wp_append {P : Program} (w w' : World) {ops : Array Oper} {rest : List Oper} {o : Oper} {a : Act} {Q : Exit → Act → World → Prop} (hg : o.guard = none) (t u : TypeId) (x y : Operand) (hop : o.op = .call ⟨.builtin .append, #[x, y], #[t, u]⟩) (vx vy v' : Value)
    (hx : a.eval x = vx) (hy : a.eval y = vy) (hrun : (Builtin.append_ #[t, u] o.type #[vx, vy]).run P w = .ok v' w') (hK : wpList P ops Q rest (a.put o.dst v') w') : wpList P ops Q (o :: rest) a w := by
  refine wpList_plain hg fun K' hK' => ?_
  unfold Oper.wp
  simp [execOp, hop, resolve, invoke, builtin, hx, hy, hrun, Result.andThen]
  exact hK' _ _ hK
/-- A call whose arguments are values, by what the executor comes to. -/
theorem calls_val {hk : Hooks} {m f : Nat} {args : List T} {vals : List Value} {r : S} {x : Value} (hh : HookOK Tryd.prog hk) (h : callT Tryd.prog hk tab noL m f (args.map S.t) (fun u => u = r)) (ha : tsV args = some vals) (hx : sV r = some x) (W : World) :
    Calls Tryd.prog f vals.toArray W fun e w' => e = .returned x ∧ Below W.heap.size W w' :=
  ((callT_ok mixed tab_ok hh h).2 g0 W vals (g0_bound W) (args_ds ha)).mono fun e w' ⟨r', v, h1, h2, h3, h4⟩ => by
    subst h2
    have := sV_ok hx h3
    subst this
    exact ⟨h1, h4⟩
def obC (k a b wt : Int) : Array Value := #[.int .i64 k, .int .i64 a, .int .i64 b, .int .i64 0, .int .i64 0, .int .i64 0, .int .i64 0, .int .u32 wt, .int .u32 0, .slice none 0 0, .slice none 0 0]
def frC (op st since : Int) : Array Value := #[.int .i64 op, .int .i64 st, .int .i64 0, .int .i64 0, .int .i64 since, .int .i64 0, .bool false, .bool false, .int .i64 0, .bool false]
def acC (d : Bool) : Array Value := #[.bool d, .bool false, .bool false, .int .i64 0, .int .i64 0, .int .u64 0, .slice none 0 0]
theorem begin_calls (op : Int) (W : World) : Calls Tryd.prog 20 #[.int .i64 op] W fun e w' => e = .returned (.agg (frC op 0 (-1))) ∧ Below W.heap.size W w' := by
  refine calls_val (m := 10) (args := [.c (.v (.int .i64 op))]) (r := .t (frT op 0 (-1))) hkL_nil ?_ rfl rfl W
  rw [show ([.c (.v (.int .i64 op))] : List T).map S.t = [iS op] from rfl, qbegin_res]
theorem take_calls (W : World) : Calls Tryd.prog 44 #[.agg (obC 6 4 0 0), .agg (frC 39 0 (-1)), .int .i64 3, .int .i64 2] W fun e w' => e = .returned (.tuple #[.agg (obC 6 4 2 0), .agg (frC 0 0 0), .agg (acC true)]) ∧ Below W.heap.size W w' := by
  refine calls_val (m := 10) (args := [obT 6 4 0 0, frT 39 0 (-1), .c (.v (.int .i64 3)), .c (.v (.int .i64 2))]) (r := .tup [obT 6 4 2 0, frT 0 0 0, acT true]) hkL_nil ?_ rfl rfl W
  exact Eq.mpr (qtake_res 0) rfl
theorem kd_br {op r : Int} (h : KeepKd op = r) : callT Tryd.prog (hkL []) tab noL 10 16 [iS op] (fun u => u = iS r) := by
  rw [qkind_res]
  subst h
  unfold KeepKd
  repeat' (refine br_in (fun c => ?_) fun c => ?_)
  all_goals simp only [decide_eq_true_eq, decide_eq_false_iff_not] at *
  all_goals (repeat' split) <;> first | rfl | (exfalso; omega)
theorem kind_calls (op r : Int) (h : KeepKd op = r) (W : World) : Calls Tryd.prog 16 #[.int .i64 op] W fun e w' => e = .returned (.int .i64 r) ∧ Below W.heap.size W w' :=
  calls_val (m := 10) (args := [.c (.v (.int .i64 op))]) (r := iS r) hkL_nil (kd_br h) rfl rfl W
theorem home_calls (op a b c r : Int) (h : (if op = 36 then b else a) = r) (W : World) : Calls Tryd.prog 18 #[.agg #[.int .i64 op, .int .i64 a, .int .i64 b, .int .i64 c]] W fun e w' => e = .returned (.int .i64 r) ∧ Below W.heap.size W w' := by
  refine calls_val (m := 10) (args := [inT op a b c]) (r := iS r) hkL_nil ?_ rfl rfl W
  rw [show ([inT op a b c] : List T).map S.t = [.t (inT op a b c)] from rfl, qhome_res]
  subst h
  refine br_in (fun c => ?_) fun c => ?_
  · rw [if_pos (of_decide_eq_true c)]
  · rw [if_neg (of_decide_eq_false c)]
theorem make1_calls (W : World) : Calls Tryd.prog 13 #[.int .i64 6, .int .i64 7] W fun e w' => e = .returned (.tuple #[.agg (obC 6 7 0 0), .int .i64 0]) ∧ Below W.heap.size W w' := by
  refine calls_val (m := 10) (args := [.c (.v (.int .i64 6)), .c (.v (.int .i64 7))]) (r := .tup [obT 6 7 0 0, .c (.v (.int .i64 0))]) hkL_nil ?_ rfl rfl W
  exact Eq.mpr (qmake1_res 0) rfl
theorem make2_calls (W : World) : Calls Tryd.prog 13 #[.int .i64 1, .int .i64 1] W fun e w' => e = .returned (.tuple #[.agg (obC 0 0 0 0), .int .i64 1]) ∧ Below W.heap.size W w' := by
  refine calls_val (m := 10) (args := [.c (.v (.int .i64 1)), .c (.v (.int .i64 1))]) (r := .tup [obT 0 0 0 0, .c (.v (.int .i64 1))]) hkL_nil ?_ rfl rfl W
  exact Eq.mpr (qmake2_res 0) rfl

/-! Waiting -/
theorem al_size (w : World) (o : Obj) : (w.alloc o).heap.size = w.heap.size + 1 := by show (w.heap.push _).size = _; simp
set_option maxRecDepth 100000 in
theorem right_zero (w : World) : Calls Tryd.prog 64 #[.agg #[.int .u32 0, .int .u32 0, .slice none 0 0]] w fun e w' => e = .returned (.bool true) ∧ Below w.heap.size w w' := by
  have hmm := @run_makeMap Tryd.prog
  have b1 : ∀ A : Obj, Below w.heap.size w ((w.alloc A).alloc A) := fun A => Below.alloc (Below.alloc (Below.refl _ _) (Nat.le_refl _) _) (by rw [al_size]; omega) _
  have b2 : ∀ A B : Obj, Below w.heap.size w ((((w.alloc A).alloc A).alloc B).alloc B) := fun A B => Below.alloc (Below.alloc (b1 A) (by simp only [al_size]; omega) _) (by simp only [al_size]; omega) _
  go_enter Tryd.func64, Tryd.ntmps64
  go_wp2
  refine wp_loop_rounds 1 ?_
  rw [rounds_succ]; go_wp2
  go_ret
  exact ⟨rfl, b2 _ _⟩
theorem isFn_of {f : Nat} {fn : Func} (h1 : Tryd.prog.funcs[f]? = some fn) (h2 : fn.body.isSome = true) (h3 : (fn.name == "runtime.NumGoroutine") = false) : IsFn Tryd.prog f := by
  obtain ⟨c, hc⟩ := Option.isSome_iff_exists.1 h2
  exact ⟨_, c, h1, hc, h3⟩
theorem right0_ok : GOK Tryd.prog 64 hR0 := by
  intro vs s r hg hs
  unfold hR0 at hg
  simp only [Option.some.injEq, Prod.mk.injEq] at hg
  obtain ⟨rfl, rfl⟩ := hg
  subst hs
  refine .inl ⟨isFn_of (fn := Tryd.f64) (by kernel_rfl) (by kernel_rfl) (by kernel_rfl), fun g w vals hb hv => ?_⟩
  obtain ⟨v, l, rfl, h1, h2⟩ := hv.cons_left
  obtain rfl := h2.nil_left
  obtain ⟨us, rfl, d0⟩ := h1
  obtain ⟨z0, u1, rfl, rfl, d1⟩ := d0.cons_left
  obtain ⟨z1, u2, rfl, rfl, d2⟩ := d1.cons_left
  obtain ⟨z2, u3, rfl, rfl, d3⟩ := d2.cons_left
  obtain rfl := d3.nil_left
  refine (right_zero w).mono ?_
  rintro e w' ⟨rfl, hbel⟩
  exact ⟨_, rfl, rfl, hbel⟩
theorem await_calls (W : World) : Calls Tryd.prog 25 #[.agg (obC 5 0 0 0), .agg (obC 1 1 0 0), .agg (frC 36 0 (-1)), .int .i64 3, .int .i64 5, .int .i64 9] W fun e w' => e = .returned (.tuple #[.agg (obC 5 0 0 1), .agg (obC 1 1 0 0), .agg (frC 36 1 (-1)), .agg (acC false)]) ∧ Below W.heap.size W w' := by
  refine calls_val (m := 10) (args := [obT 5 0 0 0, obT 1 1 0 0, frT 36 0 (-1), .c (.v (.int .i64 3)), .c (.v (.int .i64 5)), .c (.v (.int .i64 9))]) (r := .tup [obT 5 0 0 1, obT 1 1 0 0, frT 36 1 (-1), acT false]) (hkL_cons right0_ok hkL_nil) ?_ rfl rfl W
  exact Eq.mpr (qawait_res 0) ⟨rfl, rfl⟩

/-! A copy of some objects -/
def elB (P : Program) (e : TypeId) (n : Nat) : Bool := match P.info? e with
  | some i => Nat.beq i.size n && (Nat.ble i.bytes 256 && (match i.zero with
    | some z => Nat.beq z.cells.size n
    | none => false))
  | none => false
theorem el_of {P : Program} {e : TypeId} {n : Nat} (h : elB P e n = true) : ∃ ti z, P.info? e = some ti ∧ ti.zero = some z ∧ ti.size = n ∧ z.cells.size = n ∧ ti.bytes ≤ 256 := by
  unfold elB at h
  split at h <;> try (cases h; done)
  rename_i i hi
  simp only [Bool.and_eq_true] at h
  obtain ⟨h1, h2, h3⟩ := h
  split at h3 <;> try (cases h3; done)
  rename_i z hz
  exact ⟨i, z, hi, hz, Nat.eq_of_beq_eq_true h1, Nat.eq_of_beq_eq_true h3, Nat.le_of_ble_eq_true h2⟩
theorem eq_nil_no (w : World) (A : Addr) (n c : Nat) : (binOp .eql 22 (.slice (some A) n c) (.slice none 0 0)).run Tryd.prog w = .ok (.bool false) w := by
  kernel_rfl
set_option maxRecDepth 100000 in
theorem clone_calls (w : World) (A : Addr) (n c : Nat) (v' : Value) (w' : World) (hrun : (Builtin.append_ #[22, 22] 22 #[.slice (some ⟨w.heap.size, 0, none⟩) 0 0, .slice (some A) n c]).run Tryd.prog (w.alloc (.cells #[] 53)) = .ok v' w') :
    Calls Tryd.prog 24 #[.slice (some A) n c] w fun e w2 => e = .returned v' ∧ w2 = w' := by
  have hnil := eq_nil_no w A n c
  go_enter Tryd.func24, Tryd.ntmps24
  go_wp2_with (first | (at_builtin; refine wp_append _ _ rfl 22 22 _ _ rfl _ _ _ rfl rfl hrun ?_) | go_in)
  go_ret
  exact ⟨rfl, rfl⟩
/-- The copy of some objects. -/
theorem clone_some (w : World) (xs : List Value) (A : Addr) (n c : Nat) (hn : 0 < n) (hN : n ≤ 1000) (hl : xs.length = n * 11) (hlt : A.block < w.heap.size) (hrd : ∀ (j : Nat) (u : Value), xs[j]? = some u → w.cell? (A.add j) = some u) :
    ∃ (cap : Nat) (rest : Array Value), n ≤ cap ∧
      Calls Tryd.prog 24 #[.slice (some A) n c] w fun e w' => e = .returned (.slice (some ⟨w.heap.size + 1, 0, none⟩) n cap) ∧ w'.heap[w.heap.size + 1]? = some (.cells (xs.toArray ++ rest) 53 (0, 0)) ∧ w'.heap.size = w.heap.size + 2 ∧ Below w.heap.size w w' := by
  obtain ⟨ti, z, h1, h2, h3, h4, h5⟩ := el_of (P := Tryd.prog) (e := 53) (n := 11) (by kernel_rfl)
  have b1 : Below w.heap.size w (w.alloc (.cells #[] 53)) := (Below.refl _ _).alloc (Nat.le_refl _) _
  have s1 := al_size w (.cells #[] 53)
  have hr := run_append_grow (P := Tryd.prog) (w.alloc (.cells #[] 53)) 22 22 53 ti z Tryd.underlying22 h1 h2 ⟨w.heap.size, 0, none⟩ 0 0 [] (by simp) (fun j v h => by simp at h) A n c xs (by rw [hl, h3])
    (fun j v h => (b1.cell (by rw [add_block]; exact hlt)).trans (hrd j v h)) (by omega) (by omega) (growslice_fits (by omega) (by have := Nat.mul_le_mul (show 0 + n ≤ 1000 by omega) h5; omega))
  rw [Nat.zero_add] at hr
  have hcap := grownCap_ge (w.alloc (.cells #[] 53)) n 0 53
  generalize grownCap (w.alloc (.cells #[] 53)) n 0 53 = cap at *
  have s2 : (w.alloc (.cells #[] 53)).drew.heap.size = w.heap.size + 1 := s1
  refine ⟨cap, Builtin.zeroCells z.cells (cap - n), hcap, (clone_calls w A n c _ _ hr).mono ?_⟩
  rintro e w' ⟨rfl, rfl⟩
  refine ⟨by rw [s1], ?_, by rw [al_size, s2], b1.drew.alloc (by show w.heap.size ≤ _; rw [s2]; omega) _⟩
  have := heap_alloc_new (w.alloc (.cells #[] 53)).drew (.cells ([].toArray ++ xs.toArray ++ Builtin.zeroCells z.cells (cap - n)) 53)
  rw [s2] at this
  simpa using this
end Go.Proofs.YtapjehgfekjdaaaDoor
