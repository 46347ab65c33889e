/- The symbolic executor: what it says of a call the machine does. No condition. -/
import Derived.Test.YtapjehgfekjdaaaDoorSyR
namespace Go.Proofs.YtapjehgfekjdaaaDoor
open Go.RowKit
namespace SY
section
variable {P : Program} {p : Nat → Nat → Prop} {w0 w : World} {g : G} {n : Nat} {hk : Hooks}

/-! ### Results -/

def resOf (tmps : Array Value) : ResultVar → Sem Value
  | .tmp t => pure (tmps.getD t undef)
  | .cell a t => do loadVar t (← asAddr (tmps.getD a undef))
def packed (vs : Array Value) : Value := if h : vs.size = 1 then vs[0] else .tuple vs
theorem results_eq (fn : Func) (tmps : Array Value) : results fn tmps = (fn.results.mapM (resOf tmps) >>= fun vs => pure (packed vs)) := rfl

theorem resT_cons (st : St) (r : CRes) (l : List CRes) : resT st (r :: l) = (match r with
    | .tmp p => match st.sl.get undefS p with
      | .t x => match resT st l with
        | some l => some (x :: l)
        | none => none
      | _ => none
    | .cell p n ag => match st.sl.get undefS p with
      | .t (.c (.own k off)) => match lkB st.bl k with
        | some (.cells B _) => match partS B off n ag with
          | some x => match resT st l with
            | some l => some (x :: l)
            | none => none
          | none => none
        | _ => none
      | _ => none) := rfl

theorem resT_ok {st : St} {a : Act} (hr : Rep p w0 n g st a w) : ∀ (l : List ResultVar) (cl : List CRes) (ts : List T), cres P n l = some cl → resT st cl = some ts →
    ∃ vs : List Value, (l.mapM (resOf a.tmps)).run P w = .ok vs w ∧ All2 (DT g w) ts vs
  | [], cl, ts, hc, h => by
    simp only [cres, Option.some.injEq] at hc; subst hc
    simp only [resT, Option.some.injEq] at h; subst h
    exact ⟨[], by simp, trivial⟩
  | .tmp t :: l, cl, ts, hc, h => by
    simp only [cres] at hc
    split at hc <;> try (cases hc; done)
    rename_i hlt
    split at hc <;> try (cases hc; done)
    rename_i r hcr
    simp only [Option.some.injEq] at hc; subst hc
    rw [resT_cons] at h
    simp only at h
    split at h <;> try (cases h; done)
    rename_i x hx
    split at h <;> try (cases h; done)
    rename_i us hu
    simp only [Option.some.injEq] at h; subst h
    obtain ⟨vs, hv, hd⟩ := resT_ok hr l r us hcr hu
    have hdx := hr.sl t (Nat.le_of_ble_eq_true hlt)
    rw [hx] at hdx
    refine ⟨a.tmps.getD t undef :: vs, ?_, hdx, hd⟩
    have h1 : (resOf a.tmps (.tmp t)).run P w = .ok (a.tmps.getD t undef) w := rfl
    rw [List.mapM_cons, Sem.run_bind, h1]
    simp only [Result.andThen_ok, Sem.run_bind, hv, Sem.run_pure]
  | .cell x t :: l, cl, ts, hc, h => by
    simp only [cres] at hc
    split at hc <;> try (cases hc; done)
    rename_i hlt
    split at hc <;> try (cases hc; done)
    rename_i ag m hag hsz
    split at hc <;> try (cases hc; done)
    rename_i r hcr
    simp only [Option.some.injEq] at hc; subst hc
    rw [resT_cons] at h
    simp only at h
    split at h <;> try (cases h; done)
    rename_i k off hx
    split at h <;> try (cases h; done)
    rename_i B tt hB
    split at h <;> try (cases h; done)
    rename_i y hy
    split at h <;> try (cases h; done)
    rename_i us hu
    simp only [Option.some.injEq] at h; subst h
    obtain ⟨vs, hv, hd⟩ := resT_ok hr l r us hcr hu
    have hdx := hr.sl x (Nat.le_of_ble_eq_true hlt)
    rw [hx] at hdx
    obtain ⟨b, hb, hpv⟩ := hdx
    obtain ⟨b', cs, h1, h2, h3, h4⟩ := hr.mem.blk k _ hB
    rw [hb] at h1; cases h1
    obtain ⟨v, hrun, hdv⟩ := load_ok (A := ⟨b, 0, none⟩) hag hsz hy h4 rfl (fun j u hu => by rw [add_own, cell_of_row _ _ _ _ _ _ h3]; simpa using hu)
    rw [add_own, Nat.zero_add] at hrun
    refine ⟨v :: vs, ?_, hdv, hd⟩
    have h1 : (resOf a.tmps (.cell x t)).run P w = .ok v w := by
      simp only [resOf, hpv, asAddr, pure_bind, hrun]
    rw [List.mapM_cons, Sem.run_bind, h1]
    simp only [Result.andThen_ok, Sem.run_bind, hv, Sem.run_pure]

theorem resS_ok {fn : Func} {st : St} {a : Act} {cl : List CRes} {s : S} (hr : Rep p w0 n g st a w) (hc : cres P n fn.results.toList = some cl) (h : resS st cl = some s) : ∃ v, (results fn a.tmps).run P w = .ok v w ∧ DS g w s v := by
  unfold resS at h
  cases ht : resT st cl with
  | none => rw [ht] at h; cases h
  | some ts =>
    rw [ht] at h
    obtain ⟨vs, hv, hd⟩ := resT_ok hr fn.results.toList cl ts hc ht
    refine ⟨packed vs.toArray, ?_, ?_⟩
    · rw [results_eq, Array.mapM_eq_mapM_toList]
      simp only [Sem.run_bind, Sem.run_map]
      rw [hv]
      simp only [Result.andThen_ok, Sem.run_pure]
    · have hlen := hd.len
      unfold packed
      split at h
      · rename_i x hx
        simp only [Option.some.injEq] at hx h
        subst hx; subst h
        obtain ⟨v, r, rfl, h1, h2⟩ := hd.cons_left
        rw [h2.nil_left]
        exact h1
      · rename_i l hne hl
        simp only [Option.some.injEq] at hl h
        subst hl; subst h
        rw [dif_neg]
        · exact ⟨vs, rfl, hd⟩
        · intro h1
          cases ts with
          | nil => simp at hlen; simp [← hlen] at h1
          | cons x xs => cases xs with
            | nil => exact hne x rfl
            | cons y ys => simp at hlen h1; omega
      · rename_i h1; cases h1

/-! ### Calls -/

def TabOK (P : Program) (tab : List (Nat × CF)) : Prop := ∀ f cf, lkF tab f = some cf → ∃ fn, P.funcs[f]? = some fn ∧ cfOf P fn = some cf
theorem lkF_cons (x : Nat × CF) (l : List (Nat × CF)) (i : Nat) : lkF (x :: l) i = (match Nat.beq i x.1 with
    | true => some x.2
    | false => lkF l i) := rfl
theorem tab_nil : TabOK P [] := fun f cf h => by cases h
theorem tab_cons {f : Nat} {cf : CF} {fn : Func} {l : List (Nat × CF)} (h1 : P.funcs[f]? = some fn) (h2 : cfOf P fn = some cf) (hl : TabOK P l) : TabOK P ((f, cf) :: l) := by
  intro i c h
  rw [lkF_cons] at h
  split at h
  · rename_i hb
    have hb : i = f := Nat.eq_of_beq_eq_true hb
    simp only [Option.some.injEq] at h
    subst h; subst hb
    exact ⟨fn, h1, h2⟩
  · exact hl i c h

theorem setArgs_cons (a : S) (l : List S) (i : Nat) (t : Tr S) : setArgs (a :: l) i t = setArgs l (i + 1) (t.set undefS a (pth i)) := rfl
theorem setArgs_low : ∀ (l : List S) (i : Nat) (t : Tr S) (j : Nat), j < i → (setArgs l i t).get undefS (pth j) = t.get undefS (pth j)
  | [], _, _, _, _ => rfl
  | a :: l, i, t, j, h => by
    rw [setArgs_cons, setArgs_low l (i + 1) _ j (by omega), get_set_ne _ _ _ _ _ (pth_ne (by omega))]
theorem setArgs_ok : ∀ (l : List S) (vals : List Value) (i : Nat) (t : Tr S), All2 (DS g w) l vals → ∀ j, (i ≤ j → t.get undefS (pth j) = undefS) → i ≤ j → DS g w ((setArgs l i t).get undefS (pth j)) (vals.getD (j - i) undef)
  | [], vals, i, t, h, j, ht, hj => by
    rw [h.nil_left]
    show DS g w (t.get undefS (pth j)) _
    rw [ht hj]
    exact undefS_ok
  | a :: l, vals, i, t, h, j, ht, hj => by
    obtain ⟨v, vs, rfl, h1, h2⟩ := h.cons_left
    rw [setArgs_cons]
    by_cases hij : i = j
    · subst hij
      rw [setArgs_low l (i + 1) _ i (by omega), get_set_same, Nat.sub_self]
      exact h1
    · have := setArgs_ok l vs (i + 1) (t.set undefS a (pth i)) h2 j (fun _ => by rw [get_set_ne _ _ _ _ _ (pth_ne hij)]; exact ht hj) (by omega)
      rw [show j - i = (j - (i + 1)) + 1 from by omega]
      exact this

theorem callB_ok {tab : List (Nat × CF)} (hm : ProgOK P) (ht : TabOK P tab) {full : Bool} {ex : CC → St → (Exit → St → Prop) → Prop} (he : ∀ c, ExOK P full ex c) {f : Nat} {args : List S} {bl : Tr (Option Blk)} {nx : Nat} {k : S → Tr (Option Blk) → Nat → Prop}
    (h : callB ex tab f args bl nx k) : IsFn P f ∧ ∀ p w0 g w vals, All2 (DS g w) args vals → Mem p w0 g bl w →
    Calls P f vals.toArray w fun e w' => ∃ r v bl' nx' g', e = .returned v ∧ k r bl' nx' ∧ DS g' w' r v ∧ Mem p w0 g' bl' w' ∧ Rel full g w g' w' := by
  unfold callB at h
  split at h <;> try (exact h.elim)
  rename_i cf hcf
  split at h <;> try (exact h.elim)
  rename_i hle
  have hle := Nat.le_of_ble_eq_true hle
  obtain ⟨fn, hfn, hcomp⟩ := ht f cf hcf
  unfold cfOf at hcomp
  split at hcomp <;> try (cases hcomp; done)
  rename_i c hb
  split at hcomp <;> try (cases hcomp; done)
  rename_i res hres
  simp only [Option.some.injEq] at hcomp
  subst hcomp
  refine ⟨⟨fn, c, hfn, hb, hm.name hfn⟩, fun p w0 g w vals ha hmem => ?_⟩
  have hlen := ha.len
  refine calls_of_wp hfn hb ?_
  refine he c 0 fn.ntmps p w0 g _ _ w _ _ h ⟨fun t htl => ?_, ?_, rfl, hmem⟩ ?_
  · have := setArgs_ok args vals 0 .lf ha t (fun _ => rfl) (by omega)
    have e : (vals.toArray ++ Array.replicate (fn.ntmps - vals.toArray.size) undef).getD t undef = vals.getD (t - 0) undef := by
      simp only [List.size_toArray, Nat.sub_zero, Array.getD_eq_getD_getElem?, List.getD_eq_getElem?_getD, Array.getElem?_append]
      split
      · simp
      · rename_i hge
        rw [List.getElem?_eq_none (by simpa using hge)]
        simp only [Array.getElem?_replicate]
        split <;> rfl
    rw [e]
    exact this
  · simp only [Array.size_append, List.size_toArray, Array.size_replicate]
    have hle : args.length ≤ fn.ntmps := hle
    omega
  · intro e g' st' a' w' hk hr' _ hx'
    split at hk <;> try (exact hk.elim)
    rename_i hret
    split at hk <;> try (exact hk.elim)
    rename_i r hrr
    obtain ⟨v, hrun, hds⟩ := resS_ok hr' hres hrr
    cases e <;> simp only [isRet] at hret <;> try (cases hret; done)
    all_goals exact ⟨hr'.df, v, hrun, r, v, st'.bl, st'.nx, g', rfl, hk, hds, hr'.mem, hx'⟩

theorem inlN_ok {tab : List (Nat × CF)} (hm : ProgOK P) (ht : TabOK P tab) (hh : HookOK P hk) : ∀ m, InlOK P (inlN P hk tab m)
  | 0 => fun f args bl nx k h => h.elim
  | m + 1 => fun f args bl nx k h => by
    obtain ⟨h1, h2⟩ := callB_ok (full := true) hm ht (exec_ok hm hh (inlN_ok hm ht hh m) (inlN_ex m) (fun _ _ => rfl)) h
    exact ⟨h1, fun p w0 g w vals ha hmem => (h2 p w0 g w vals ha hmem).mono fun e w' ⟨r, v, bl', nx', g', q1, q2, q3, q4, q5⟩ => ⟨r, v, bl', nx', g', q1, q2, q3, q4, q5.2 rfl⟩⟩

/-- THE EXECUTOR'S WORD: what a call comes to. -/
theorem callT_ok {tab : List (Nat × CF)} {lh : LH} (hm : ProgOK P) (ht : TabOK P tab) (hh : HookOK P hk) {m f : Nat} {args : List S} {k : S → Prop} (h : callT P hk tab lh m f args k) : IsFn P f ∧ ∀ g w vals, Bound g w → All2 (DS g w) args vals →
    Calls P f vals.toArray w fun e w' => ∃ r v, e = .returned v ∧ k r ∧ DS g w' r v ∧ Below w.heap.size w w' :=
  iso_ok (fun f args bl nx k h => by
    obtain ⟨h1, h2⟩ := callB_ok (full := false) hm ht (exec_ok (lh := lh) hm hh (inlN_ok hm ht hh m) (inlN_ex m) (fun h => by cases h)) h
    exact ⟨h1, fun p w0 g w vals ha hmem => (h2 p w0 g w vals ha hmem).mono fun e w' ⟨r, v, bl', nx', g', q1, q2, q3, q4, _⟩ => ⟨r, v, bl', nx', g', q1, q2, q3, q4⟩⟩) h

/-! ### Told callees, one by one -/

noncomputable def hkL (l : List (Nat × Hk)) : Hooks :=
  List.rec (motive := fun _ => Hooks) (fun _ => none) (fun x _ ih f => match Nat.beq f x.1 with
    | true => some x.2
    | false => ih f) l
theorem hkL_cons' (x : Nat × Hk) (l : List (Nat × Hk)) (f : Nat) : hkL (x :: l) f = (match Nat.beq f x.1 with
    | true => some x.2
    | false => hkL l f) := rfl
theorem hkL_nil : HookOK P (hkL []) := fun f h e => by cases e
theorem hkL_cons {f : Nat} {h : Hk} {l : List (Nat × Hk)} (hf : GOK P f h) (hl : HookOK P (hkL l)) : HookOK P (hkL ((f, h) :: l)) := by
  intro i k e
  rw [hkL_cons'] at e
  split at e
  · rename_i hb
    have hb : i = f := Nat.eq_of_beq_eq_true hb
    simp only [Option.some.injEq] at e
    subst e; subst hb
    exact hf
  · exact hl i k e

theorem gok {tab : List (Nat × CF)} (hm : ProgOK P) (ht : TabOK P tab) (hh : HookOK P hk) {f : Nat} {h : Hk}
    (hc : ∀ as s r, h as = some (s, r) → s → ∃ lh m, callT P hk tab lh m f as (fun u => u = r)) : GOK P f h := by
  intro as s r hr hs
  obtain ⟨lh, m, hcall⟩ := hc as s r hr hs
  obtain ⟨h1, h2⟩ := callT_ok hm ht hh hcall
  exact .inl ⟨h1, fun g w vals hb ha => (h2 g w vals hb ha).mono fun e w' ⟨u, v, q1, q2, q3, q4⟩ => ⟨v, q1, by rw [← q2]; exact q3, q4⟩⟩

def noL : LH := fun _ => none
noncomputable def lhL (l : List (Nat × Hint)) : LH :=
  List.rec (motive := fun _ => LH) (fun _ => none) (fun x _ ih f => match Nat.beq f x.1 with
    | true => some fun _ => x.2
    | false => ih f) l
/-- Likewise, by the state there. -/
noncomputable def lhS (l : List (Nat × (St → Hint))) : LH :=
  List.rec (motive := fun _ => LH) (fun _ => none) (fun x _ ih f => match Nat.beq f x.1 with
    | true => some x.2
    | false => ih f) l


end
#print axioms callT_ok
end SY
end Go.Proofs.YtapjehgfekjdaaaDoor
