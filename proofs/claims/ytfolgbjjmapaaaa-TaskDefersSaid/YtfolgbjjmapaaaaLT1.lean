/- What tasks' making and sameness come to. No condition. -/
import Derived.Test.YtfolgbjjmapaaaaRT1
namespace Go.Proofs.Ytfolgbjjmapaaaa
open SY
open Go.RowKit
set_option linter.unusedSimpArgs false
set_option linter.unusedVariables false

theorem i64_nat {k : Nat} (h : k < 9223372036854775807) : ((k + 1 : Nat) : Int) = IntKind.i64.wrap ((k : Int) + 1) := by rw [IntKind.wrap_i64]; omega
/-- Two lists, place by place. -/
theorem eq_law {x y : List Int} {p f : Nat} (h3 : KeepFew x) (hr : ∀ r, callT Try.prog (hkL []) tab (lhL [(1, hintEq p x y)]) 10 f [slI x, slI y] (fun u => subS (bS r) u) =
    br (!decide (((x.length : Nat) : Int) = ((y.length : Nat) : Int))) (r = false) ((∃ (z : NX), KeepPre x y z ∧ ((z.i : Int) = 0 ∧ True) ∧ True) ∧ ∀ (z : NX), KeepPre x y z → br (decide ((z.i : Int) < ((x.length : Nat) : Int))) (br (decide (0 ≤ (z.i : Int)) && decide ((z.i : Int) < ((x.length : Nat) : Int))) (br (decide (0 ≤ (z.i : Int)) && decide ((z.i : Int) < ((y.length : Nat) : Int))) (br (!decide (gI x z.i = gI y z.i)) (r = false) (∃ (z' : NX), KeepPre x y z' ∧ x.length - z'.i < x.length - z.i ∧ ((z'.i : Int) = IntKind.i64.wrap ((z.i : Int) + 1) ∧ True) ∧ True)) False) False) (r = true))) :
    callT Try.prog (hkL []) tab (lhL [(1, hintEq p x y)]) 10 f [slI x, slI y] (fun u => subS (bS (KeepEq x y)) u) := by
  unfold KeepFew at h3
  rw [hr]
  unfold KeepEq
  refine br_in (fun c => ?_) fun c => ⟨⟨⟨0⟩, ⟨Nat.zero_le _, by rw [List.take_zero, List.take_zero]⟩, ⟨rfl, trivial⟩, trivial⟩, fun z hz => br_in (fun d => ?_) fun d => ?_⟩
  · apply decide_eq_false
    intro e; subst e; simp at c
  · have d := of_decide_eq_true d
    obtain ⟨z1, z2⟩ := hz
    have hl : x.length = y.length := by simp at c; omega
    have hx : z.i < x.length := by omega
    have hy : z.i < y.length := by omega
    have ex : gI x z.i = x[z.i] := by simp [gI, hx]
    have ey : gI y z.i = y[z.i] := by simp [gI, hy]
    refine br_y (by simp; omega) <| br_y (by simp; omega) <| br_in (fun e => ?_) fun e => ?_
    · apply decide_eq_false
      intro h; subst h; simp at e
    · have e : gI x z.i = gI y z.i := by simpa using e
      rw [ex, ey] at e
      refine ⟨⟨z.i + 1⟩, ⟨hx, ?_⟩, by show x.length - (z.i + 1) < x.length - z.i; omega, ⟨i64_nat (by omega), trivial⟩, trivial⟩
      show x.take (z.i + 1) = y.take (z.i + 1)
      rw [← List.take_append_getElem hx, ← List.take_append_getElem hy, z2, e]
  · have d := of_decide_eq_false d
    obtain ⟨z1, z2⟩ := hz
    have hl : x.length = y.length := by simp at c; omega
    apply decide_eq_true
    rw [List.take_of_length_le (by omega), List.take_of_length_le (by omega)] at z2
    exact z2
theorem equal_ok : GOK Try.prog 15 (hEqV KeepEq) := by
  refine gokW mixed tab_ok hkL_nil fun vs s r hg hs => ?_
  unfold hEqV at hg
  split at hg <;> try (cases hg; done)
  rename_i a b
  simp only [Option.some.injEq, Prod.mk.injEq] at hg
  obtain ⟨rfl, rfl⟩ := hg
  exact ⟨lhL [(1, hintEq 13 (cL a) (cL b))], 10, [slI (cL a), slI (cL b)], ⟨hs.1, hs.2.1, trivial⟩, eq_law hs.2.2 fun r => equal_res _ _ r⟩
theorem ints_ok : GOK Try.prog 14 (hEqV KeepEq) := by
  refine gokW mixed tab_ok hkL_nil fun vs s r hg hs => ?_
  unfold hEqV at hg
  split at hg <;> try (cases hg; done)
  rename_i a b
  simp only [Option.some.injEq, Prod.mk.injEq] at hg
  obtain ⟨rfl, rfl⟩ := hg
  exact ⟨lhL [(1, hintEq 5 (cL a) (cL b))], 10, [slI (cL a), slI (cL b)], ⟨hs.1, hs.2.1, trivial⟩, eq_law hs.2.2 fun r => ints_res _ _ r⟩
theorem hkE_ok : HookOK Try.prog (hkE KeepEq) := hkL_cons equal_ok <| hkL_cons ints_ok hkL_nil
def KeepSm (t u : TK) : Bool := decide (t.st = u.st) && (decide (t.pc = u.pc) && ((decide (t.r0 = u.r0) && (decide (t.r1 = u.r1) && (decide (t.r2 = u.r2) && (decide (t.r3 = u.r3) && true)))) && (KeepEq t.df u.df && ((t.pn == u.pn) && (decide (t.vl = u.vl) && (decide (t.ft = u.ft) &&
  (decide (t.fo = u.fo) && (decide (t.fs = u.fs) && (decide (t.fp = u.fp) && (decide (t.f0 = u.f0) && (decide (t.f1 = u.f1) && (decide (t.f2 = u.f2) && ((t.fa == u.fa) && ((t.fv == u.fv) && (decide (t.nd = u.nd) && ((t.ff == u.ff) && true))))))))))))))))
theorem sm_refl (t : TK) : KeepSm t t = true := by simp [KeepSm, KeepEq]
theorem br_and {b c r : Bool} {X : Prop} (h : r = (b && c)) (hx : r = c → X) : br b X (r = false) := by
  subst h; cases b
  · rfl
  · exact hx rfl
theorem same_law {t u : TK} {f : Nat} (h : KeepTf t) (hr : ∀ r : Bool, callT Try.prog (hkE KeepEq) tab noL 10 f [taskV t, taskV u] (fun x => subS (bS r) x) = callT Try.prog (hkE KeepEq) tab noL 10 11 [taskV t, taskV u] (fun x => subS (bS r) x)) :
    callT Try.prog (hkE KeepEq) tab noL 10 f [taskV t, taskV u] (fun x => subS (bS (KeepSm t u)) x) := by
  rw [hr, same_res]
  generalize hk : KeepSm t u = r
  unfold KeepSm at hk
  refine br_and hk.symm fun hk => br_and hk fun hk => br_and hk fun hk => ⟨⟨rfl, rfl, h⟩, br_and hk fun hk => br_and hk fun hk => br_and hk fun hk => br_and hk fun hk => hk⟩
theorem same_ok : GOK Try.prog 11 (hSm KeepSm) := by
  refine gokW mixed tab_ok hkE_ok fun vs s r hg hs => ?_
  unfold hSm at hg
  split at hg <;> try (cases hg; done)
  rename_i a b
  simp only [Option.some.injEq, Prod.mk.injEq] at hg
  obtain ⟨rfl, rfl⟩ := hg
  exact ⟨noL, 10, [taskV (cT a), taskV (cT b)], ⟨hs.1, hs.2.1, trivial⟩, same_law hs.2.2 fun r => rfl⟩
theorem rsame_ok : GOK Try.prog 7 (hSm KeepSm) := by
  refine gokW mixed tab_ok hkE_ok fun vs s r hg hs => ?_
  unfold hSm at hg
  split at hg <;> try (cases hg; done)
  rename_i a b
  simp only [Option.some.injEq, Prod.mk.injEq] at hg
  obtain ⟨rfl, rfl⟩ := hg
  exact ⟨noL, 10, [taskV (cT a), taskV (cT b)], ⟨hs.1, hs.2.1, trivial⟩, same_law hs.2.2 fun r => by rw [rsame_res, same_res]⟩
theorem bits_ok : GOK Try.prog 29 hBits := by
  intro vs s r hg hs
  unfold hBits at hg
  split at hg <;> try (cases hg; done)
  rename_i a
  simp only [Option.some.injEq, Prod.mk.injEq] at hg
  obtain ⟨rfl, rfl⟩ := hg
  refine .inr ⟨Extern.MathFloatBits.float64bits, ⟨Try.f29, by kernel_rfl, by kernel_rfl, by kernel_rfl, by kernel_rfl, by kernel_rfl⟩, fun g w vals _ hv => ?_⟩
  obtain ⟨v, l, rfl, h1, h2⟩ := hv.cons_left
  obtain rfl := h2.nil_left
  have h1 : DS g w (fS (cF a)) v := subS_ok hs h1
  have h1 : v = .float .f64 (cF a) := h1
  subst h1
  exact ⟨.int .u64 (cF a), w, rfl, rfl, Below.refl _ _⟩
theorem from_ok : GOK Try.prog 37 hFrom := by
  intro vs s r hg hs
  unfold hFrom at hg
  split at hg <;> try (cases hg; done)
  rename_i a
  simp only [Option.some.injEq, Prod.mk.injEq] at hg
  obtain ⟨rfl, rfl⟩ := hg
  refine .inr ⟨Extern.MathFloatBits.float64frombits, ⟨Try.f37, by kernel_rfl, by kernel_rfl, by kernel_rfl, by kernel_rfl, by kernel_rfl⟩, fun g w vals _ hv => ?_⟩
  obtain ⟨v, l, rfl, h1, h2⟩ := hv.cons_left
  obtain rfl := h2.nil_left
  have h1 : DS g w (uS (cI a)) v := subS_ok hs h1
  have h1 : v = .int .u64 (cI a) := h1
  subst h1
  exact ⟨.float .f64 (cI a).toNat, w, rfl, rfl, Below.refl _ _⟩
theorem hkW_ok : HookOK Try.prog hkW := hkL_cons bits_ok <| hkL_cons from_ok hkL_nil
theorem add_ok : GOK Try.prog 32 hAdd77 := by
  refine gokW mixed tab_ok hkW_ok fun vs s r hg hs => ?_
  unfold hAdd77 at hg
  split at hg <;> try (cases hg; done)
  rename_i a b
  simp only [Option.some.injEq, Prod.mk.injEq] at hg
  obtain ⟨rfl, rfl⟩ := hg
  refine ⟨noL, 10, [uS 77, uS 77], ⟨hs.1, hs.2, trivial⟩, ?_⟩
  rw [add_res 0]
  refine ⟨rfl, rfl, fun r h => ?_⟩
  have e : r = 154 := by
    unfold KeepFr fqBits at h
    simp only at h
    rw [show floatBits .add .f64 77 77 = some 154 by decide] at h
    exact h
  subst e
  exact br_n (by decide) ⟨rfl, rfl⟩
theorem hkB2_ok : HookOK Try.prog hkB2 := hkL_cons add_ok hkL_nil
theorem alive_ok : GOK Try.prog 5 hAlive := by
  refine gok mixed tab_ok hkB2_ok fun vs s r hg hs => ?_
  unfold hAlive at hg
  split at hg <;> try (cases hg; done)
  simp only [Option.some.injEq, Prod.mk.injEq] at hg
  obtain ⟨rfl, rfl⟩ := hg
  refine ⟨noL, 10, ?_⟩
  show callT Try.prog _ tab noL 10 _ [] tru
  rw [alive_res 0]
  (repeat' (first | exact trivial | exact rfl | refine And.intro ?_ ?_))
theorem hkM_ok : HookOK Try.prog (hkM KeepSm) := hkL_cons alive_ok <| hkL_cons same_ok <| hkL_cons rsame_ok hkL_nil
theorem task_open {H : Type} {enc : TypeId × Value → H} {P : Program} {W : World} {t e6 : TypeId} {v : Value} {d : DataW H} {p : List MemPlace} (hag : ∃ cs, v = .agg cs) (hs : shapeT P 20 t = some [.int .i64, .int .i64, .int .u64, .int .u64, .int .u64, .int .u64, .slice e6, .bool, .int .u64, .int .i64, .int .i64, .int .i64, .int .i64, .int .i64, .int .i64, .int .i64, .bool, .bool, .int .i64, .bool])
    (hs6 : shapeT P 20 e6 = some ([.int .i64].map ofCK)) (hc6 : P.cellsOf e6 = 1)
    (h : DataW.Trod enc P W 0 (fun _ => true) true t v d p) : ∃ x : TK, DS g0 W (taskV x) v ∧ InR [.int .i64] x.7 := by
  obtain ⟨cs, rfl⟩ := hag
  have hsh := trod_leafs hs h
  obtain ⟨l⟩ := cs
  simp only [Value.cells] at hsh
  obtain ⟨_, l, rfl, ⟨c0, rfl, r0⟩, q0⟩ := hsh.cons_left
  obtain ⟨_, l, rfl, ⟨c1, rfl, r1⟩, q1⟩ := q0.cons_left
  obtain ⟨_, l, rfl, ⟨c2, rfl, r2⟩, q2⟩ := q1.cons_left
  obtain ⟨_, l, rfl, ⟨c3, rfl, r3⟩, q3⟩ := q2.cons_left
  obtain ⟨_, l, rfl, ⟨c4, rfl, r4⟩, q4⟩ := q3.cons_left
  obtain ⟨_, l, rfl, ⟨c5, rfl, r5⟩, q5⟩ := q4.cons_left
  obtain ⟨_, l, rfl, s6, q6⟩ := q5.cons_left
  obtain ⟨_, l, rfl, ⟨c7, rfl⟩, q7⟩ := q6.cons_left
  obtain ⟨_, l, rfl, ⟨c8, rfl, r8⟩, q8⟩ := q7.cons_left
  obtain ⟨_, l, rfl, ⟨c9, rfl, r9⟩, q9⟩ := q8.cons_left
  obtain ⟨_, l, rfl, ⟨c10, rfl, r10⟩, q10⟩ := q9.cons_left
  obtain ⟨_, l, rfl, ⟨c11, rfl, r11⟩, q11⟩ := q10.cons_left
  obtain ⟨_, l, rfl, ⟨c12, rfl, r12⟩, q12⟩ := q11.cons_left
  obtain ⟨_, l, rfl, ⟨c13, rfl, r13⟩, q13⟩ := q12.cons_left
  obtain ⟨_, l, rfl, ⟨c14, rfl, r14⟩, q14⟩ := q13.cons_left
  obtain ⟨_, l, rfl, ⟨c15, rfl, r15⟩, q15⟩ := q14.cons_left
  obtain ⟨_, l, rfl, ⟨c16, rfl⟩, q16⟩ := q15.cons_left
  obtain ⟨_, l, rfl, ⟨c17, rfl⟩, q17⟩ := q16.cons_left
  obtain ⟨_, l, rfl, ⟨c18, rfl, r18⟩, q18⟩ := q17.cons_left
  obtain ⟨_, l, rfl, ⟨c19, rfl⟩, q19⟩ := q18.cons_left
  obtain rfl := q19.nil_left
  obtain ⟨c6, n6, m6⟩ := leaf_slice (ks := [.int .i64]) (by decide) hs6 hc6 s6
  exact ⟨⟨c0, c1, c2, c3, c4, c5, c6, c7, c8, c9, c10, c11, c12, c13, c14, c15, c16, c17, c18, c19⟩, ⟨_, rfl, rfl, rfl, rfl, rfl, rfl, rfl, n6, rfl, rfl, rfl, rfl, rfl, rfl, rfl, rfl, rfl, rfl, rfl, rfl, rfl, trivial⟩, m6⟩

section
variable {H : Type} {enc : TypeId × Value → H} {P : Program} {W : World}
theorem arr2_open {t : TypeId} {v : Value} {d : DataW H} {p : List MemPlace} (hag : ∃ cs, v = .agg cs) (hs : shapeT P 20 t = some [.int .i64, .int .i64])
    (h : DataW.Trod enc P W 0 (fun _ => true) true t v d p) : ∃ a b, v = .agg #[.int .i64 a, .int .i64 b] := by
  obtain ⟨cs, rfl⟩ := hag
  have hsh := trod_leafs hs h
  obtain ⟨l⟩ := cs
  simp only [Value.cells] at hsh
  obtain ⟨_, l, rfl, ⟨a, rfl, _⟩, q0⟩ := hsh.cons_left
  obtain ⟨_, l, rfl, ⟨b, rfl, _⟩, q1⟩ := q0.cons_left
  obtain rfl := q1.nil_left
  exact ⟨a, b, rfl⟩
end
theorem makes_walk (W : World) (v0 v1 : Value) (t u : TK) (a b : Int) (h0 : DS g0 W (taskV t) v0) (h1 : DS g0 W (taskV u) v1) :
    Calls Try.prog 3 #[v0, v1, .agg #[.int .i64 a, .int .i64 b]] W fun e w' => e = .returned (.bool true) ∧ Below W.heap.size W w' := by
  refine law (vals := [v0, v1, .agg #[.int .i64 a, .int .i64 b]]) (lh := noL) (m := 10) (args := [taskV t, taskV u, twoV a b]) mixed tab_ok hkM_ok ?_ ⟨h0, h1, ⟨_, rfl, rfl, rfl, trivial⟩, trivial⟩
  rw [makes_res]
  refine ⟨trivial, br_in (fun _ => rfl) fun h => br_in (fun _ => rfl) fun h' => ?_⟩
  have h := of_decide_eq_false h
  have h' := of_decide_eq_false h'
  have f1 : KeepTf t := by unfold KeepTf; omega
  have f2 : KeepTf u := by unfold KeepTf; omega
  have f0 : ∀ x : TK, x.df = [] → KeepTf x := fun x e => by unfold KeepTf; rw [e]; decide
  have c : ∀ x, cT (taskV x) = x := fun x => rfl
  simp [sm_refl, f1, f2, f0, br_tt]
end Go.Proofs.Ytfolgbjjmapaaaa
