/- The symbolic executor: callees that are told in the caller's own memory. No condition. -/
import Derived.Test.YtmmliaobjendoaaDoorSyV
namespace Go.Proofs.YtmmliaobjendoaaDoor
open Go.RowKit
namespace SY

abbrev XHk := Inl → List S → Tr (Option Blk) → Nat → (S → Tr (Option Blk) → Nat → Prop) → Prop
abbrev XHooks := Nat → Option XHk
def inlX (xh : XHooks) (lo hi : Inl) : Inl := fun f args bl nx k => match xh f with
  | some h => h lo args bl nx k
  | none => hi f args bl nx k
def inlNX (P : Program) (hk : Hooks) (xh : XHooks) (tab : List (Nat × CF)) (n : Nat) : Inl :=
  Nat.rec (motive := fun _ => Inl) (fun _ _ _ _ _ => False) (fun _ ih => inlX xh ih (callB (exec P hk (fun _ => none) ih) tab)) n
/-- The call of function f; callees told in its own memory. -/
def callX (P : Program) (hk : Hooks) (xh : XHooks) (tab : List (Nat × CF)) (lh : LH) (n : Nat) (f : Nat) (args : List S) (k : S → Prop) : Prop :=
  iso (callB (exec P hk lh (inlNX P hk xh tab n)) tab) f args k

def XOK (P : Program) (f : Nat) (h : XHk) : Prop := ∀ inl, InlOK P inl → InlEx inl → ∀ args bl nx k, h inl args bl nx k →
  (IsFn P f ∧ ∀ p w0 g w vals, All2 (DS g w) args vals → Mem p w0 g bl w →
    Calls P f vals.toArray w fun e w' => ∃ r v bl' nx' g', e = .returned v ∧ k r bl' nx' ∧ DS g' w' r v ∧ Mem p w0 g' bl' w' ∧ Ext g w g' w') ∧ ∃ r bl' nx', k r bl' nx'
def XHookOK (P : Program) (xh : XHooks) : Prop := ∀ f h, xh f = some h → XOK P f h

section
variable {P : Program} {hk : Hooks} {xh : XHooks}
theorem inlX_ok (hx : XHookOK P xh) {lo hi : Inl} (h0 : InlOK P lo) (h0' : InlEx lo) (h1 : InlOK P hi) : InlOK P (inlX xh lo hi) := by
  intro f args bl nx k h
  unfold inlX at h
  split at h
  · rename_i g hg
    exact (hx f g hg lo h0 h0' args bl nx k h).1
  · exact h1 f args bl nx k h
theorem inlX_ex (hx : XHookOK P xh) {lo hi : Inl} (h0 : InlOK P lo) (h0' : InlEx lo) (h1 : InlEx hi) : InlEx (inlX xh lo hi) := by
  intro f args bl nx k h
  unfold inlX at h
  split at h
  · rename_i g hg
    exact (hx f g hg lo h0 h0' args bl nx k h).2
  · exact h1 f args bl nx k h
theorem inlNX_both {tab : List (Nat × CF)} (hm : ProgOK P) (ht : TabOK P tab) (hh : HookOK P hk) (hx : XHookOK P xh) : ∀ m, InlOK P (inlNX P hk xh tab m) ∧ InlEx (inlNX P hk xh tab m)
  | 0 => ⟨fun f args bl nx k h => h.elim, fun _ _ _ _ _ h => h.elim⟩
  | m + 1 => by
    obtain ⟨i1, i2⟩ := inlNX_both hm ht hh hx m
    refine ⟨inlX_ok hx i1 i2 fun f args bl nx k h => ?_, inlX_ex hx i1 i2 (callB_ex (exec_ex i2))⟩
    obtain ⟨h1, h2⟩ := callB_ok (full := true) hm ht (exec_ok hm hh i1 i2 (fun _ _ => rfl)) h
    exact ⟨h1, fun p w0 g w vals ha hmem => (h2 p w0 g w vals ha hmem).mono fun e w' ⟨r, v, bl', nx', g', q1, q2, q3, q4, q5⟩ => ⟨r, v, bl', nx', g', q1, q2, q3, q4, q5.2 rfl⟩⟩
theorem callX_ok {tab : List (Nat × CF)} {lh : LH} (hm : ProgOK P) (ht : TabOK P tab) (hh : HookOK P hk) (hx : XHookOK P xh) {m f : Nat} {args : List S} {k : S → Prop} (h : callX P hk xh tab lh m f args k) : IsFn P f ∧ ∀ g w vals, Bound g w → All2 (DS g w) args vals →
    Calls P f vals.toArray w fun e w' => ∃ r v, e = .returned v ∧ k r ∧ DS g w' r v ∧ Below w.heap.size w w' :=
  iso_ok (fun f args bl nx k h => by
    obtain ⟨i1, i2⟩ := inlNX_both hm ht hh hx m
    obtain ⟨h1, h2⟩ := callB_ok (full := false) hm ht (exec_ok (lh := lh) hm hh i1 i2 (fun h => by cases h)) h
    exact ⟨h1, fun p w0 g w vals ha hmem => (h2 p w0 g w vals ha hmem).mono fun e w' ⟨r, v, bl', nx', g', q1, q2, q3, q4, _⟩ => ⟨r, v, bl', nx', g', q1, q2, q3, q4⟩⟩) h
theorem All2.sub {g : G} {w : World} : ∀ {us vs : List S} {vals : List Value}, All2 subS us vs → All2 (DS g w) vs vals → All2 (DS g w) us vals
  | [], [], vals, _, ha => ha
  | [], _ :: _, _, hu, _ => hu.elim
  | _ :: _, [], _, hu, _ => hu.elim
  | u :: us, v :: vs, vals, hu, ha => by
    obtain ⟨x, xs, rfl, q1, q2⟩ := ha.cons_left
    exact ⟨subS_ok hu.1 q1, All2.sub hu.2 q2⟩
/-- A told callee, by a run with told callees in its own memory. -/
theorem gokX {tab : List (Nat × CF)} (hm : ProgOK P) (ht : TabOK P tab) {f : Nat} {h : Hk}
    (hc : ∀ vs s r, h vs = some (s, r) → s → ∃ hk xh lh m us, HookOK P hk ∧ XHookOK P xh ∧ All2 subS us vs ∧ callX P hk xh tab lh m f us (fun u => subS r u)) : GOK P f h := by
  intro vs s r hr hs
  obtain ⟨hk, xh, lh, m, us, hh, hx, hu, hcall⟩ := hc vs s r hr hs
  obtain ⟨h1, h2⟩ := callX_ok hm ht hh hx hcall
  exact .inl ⟨h1, fun g w vals hb ha => (h2 g w vals hb (All2.sub hu ha)).mono fun e w' ⟨u, v, q1, q2, q3, q4⟩ => ⟨v, q1, subS_ok q2 q3, q4⟩⟩
noncomputable def xhL (l : List (Nat × XHk)) : XHooks :=
  List.rec (motive := fun _ => XHooks) (fun _ => none) (fun x _ ih f => match Nat.beq f x.1 with
    | true => some x.2
    | false => ih f) l
theorem xhL_cons' (x : Nat × XHk) (l : List (Nat × XHk)) (f : Nat) : xhL (x :: l) f = (match Nat.beq f x.1 with
    | true => some x.2
    | false => xhL l f) := rfl
theorem xhL_nil : XHookOK P (xhL []) := fun f h e => by cases e
theorem xhL_cons {f : Nat} {h : XHk} {l : List (Nat × XHk)} (hf : XOK P f h) (hl : XHookOK P (xhL l)) : XHookOK P (xhL ((f, h) :: l)) := by
  intro i k e
  rw [xhL_cons'] at e
  split at e
  · rename_i hb
    have hb : i = f := Nat.eq_of_beq_eq_true hb
    simp only [Option.some.injEq] at e
    subst e; subst hb
    exact hf
  · exact hl i k e
end
#print axioms callX_ok
end SY
end Go.Proofs.YtmmliaobjendoaaDoor
