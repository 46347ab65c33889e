/- What the symbolic executor says of a call the machine does. No condition. -/
import Derived.Test.YtegdbpbafdpkfaaSxH
import Derived.LoopN
namespace Go.Proofs.Ytegdbpbafdpkfaa
open Go.RowKit
namespace SX
section
variable {P : Program} {ad : Ad} {w0 w W : World}

theorem runC_true {call : FuncId → List Value → (Value → Prop) → Prop} (hc : CallOK P W call) (hW : Below W.heap.size W w) {ops : Array Oper} {k : St → Prop} :
    ∀ (l : List Oper) (j : Nat) (st : St), (∀ i, l[i]? = ops[j + i]?) → runC P W call true ops.toList j l st k → ∃ sf, Runs P W call ops (List.range' j l.length) st sf ∧ k sf
  | [], j, st, _, h => ⟨st, rfl, h⟩
  | o :: l, j, st, hl, h => by
    obtain ⟨ef, he, hk⟩ := stepC_true hc hW h
    obtain ⟨sf, hr, hks⟩ := runC_true hc hW l (j + 1) _ (fun i => by have := hl (i + 1); simpa [Nat.add_assoc, Nat.add_comm 1 i] using this) hk
    refine ⟨sf, ?_, hks⟩
    simp only [List.length_cons, List.range'_succ]
    exact ⟨o, ef, by simpa using (hl 0).symm, he, hr⟩

theorem runC_false {call : FuncId → List Value → (Value → Prop) → Prop} (hc : CallOK P W call) (hW : Below W.heap.size W w0) {ops : Array Oper} {k : St → Prop} {Q : Exit → Act → World → Prop} :
    ∀ (l : List Oper) (j : Nat) (ad : Ad) (st : St) (a : Act) (w : World), (∀ i, l[i]? = ops[j + i]?) → runC P W call false ops.toList j l st k → Rep w0 ad st a w →
      (∀ ad' st' a' w', k st' → Rep w0 ad' st' a' w' → Q .normal a' w') → wpOps P ops Q (List.range' j l.length) a w
  | [], j, ad, st, a, w, _, h, hr, hQ => hQ ad st a w h hr
  | o :: l, j, ad, st, a, w, hl, h, hr, hQ => by
    simp only [List.length_cons, List.range'_succ, wpOps_cons]
    refine stepC_false hc hW (by simpa using (hl 0).symm) h hr fun ad' st' a' w' hk hr' => ?_
    exact runC_false hc hW l (j + 1) ad' st' a' w' (fun i => by have := hl (i + 1); simpa [Nat.add_assoc, Nat.add_comm 1 i] using this) hk hr' hQ

theorem Rep.bump {st : St} {a : Act} (h : Rep w0 ad st a w) (n : Nat) : Rep w0 ad ⟨st.slots, st.blocks, n⟩ a w := ⟨h.sl, h.df, h.mem⟩

theorem lit_ok {st : St} {c : Operand} {b : Bool} (hb : boolS (opd st.slots c) = some b) : litO st c b = st := by
  cases c with
  | tmp t =>
    simp only [litO]
    have h := boolS_eq hb
    simp only [opd] at h
    cases hs : st.slots[t]? with
    | none => rw [hs] at h; cases h
    | some s =>
      rw [hs] at h
      have h : s = ofB b := h
      rw [set_same (by rw [hs, h])]
  | _ => rfl

/-! ### Results -/

def resOf (tmps : Array Value) : ResultVar → Sem Value
  | .tmp t => pure (tmps.getD t undef)
  | .cell a t => do loadVar t (← asAddr (tmps.getD a undef))

def packed (vs : Array Value) : Value := if h : vs.size = 1 then vs[0] else .tuple vs
theorem results_eq (fn : Func) (tmps : Array Value) : results fn tmps = (fn.results.mapM (resOf tmps) >>= fun vs => pure (packed vs)) := rfl

theorem resT_ok {st : St} {a : Act} (hr : Rep w0 ad st a w) : ∀ (l : List ResultVar) (ts : List T), resT P st l = some ts →
    ∃ vs : List Value, (l.mapM (resOf a.tmps)).run P w = .ok vs w ∧ All2 (DT ad) ts vs
  | [], ts, h => by
    simp only [resT, Option.some.injEq] at h; subst h
    exact ⟨[], by simp, trivial⟩
  | .tmp t :: l, ts, h => by
    simp only [resT] at h
    split at h <;> try (cases h; done)
    rename_i x hx
    split at h <;> try (cases h; done)
    rename_i us hu
    simp only [Option.some.injEq] at h; subst h
    obtain ⟨vs, hv, hd⟩ := resT_ok hr l us hu
    have hdx := opd_ok hr.sl (.tmp t)
    rw [hx] at hdx
    refine ⟨a.tmps.getD t undef :: vs, ?_, hdx, hd⟩
    have h1 : (resOf a.tmps (.tmp t)).run P w = .ok (a.tmps.getD t undef) w := rfl
    rw [List.mapM_cons, Sem.run_bind, h1]
    simp only [Result.andThen_ok, Sem.run_bind, hv, Sem.run_pure]
  | .cell x t :: l, ts, h => by
    simp only [resT] at h
    split at h <;> try (cases h; done)
    rename_i k off hx
    split at h <;> try (cases h; done)
    rename_i B hB
    split at h <;> try (cases h; done)
    rename_i y hy
    split at h <;> try (cases h; done)
    rename_i us hu
    simp only [Option.some.injEq] at h; subst h
    obtain ⟨vs, hv, hd⟩ := resT_ok hr l us hu
    have hdx := opd_ok hr.sl (.tmp x)
    rw [hx] at hdx
    obtain ⟨b, hb, hpv⟩ := DS_own hdx
    have hpv : a.tmps.getD x undef = .pointer (some ⟨b, off, none⟩) := hpv
    obtain ⟨b', cs, h1, h2, h3, h4⟩ := hr.mem.blk k B hB
    rw [hb] at h1; cases h1
    obtain ⟨v, hrun, hdv⟩ := loadS_ok hy h3 h4
    refine ⟨v :: vs, ?_, hdv, hd⟩
    have h1 : (resOf a.tmps (.cell x t)).run P w = .ok v w := by
      simp only [resOf, hpv, asAddr, pure_bind, hrun]
    rw [List.mapM_cons, Sem.run_bind, h1]
    simp only [Result.andThen_ok, Sem.run_bind, hv, Sem.run_pure]

theorem resV_ok {fn : Func} {st : St} {a : Act} {v : Value} (hr : Rep w0 ad st a w) (h : resV P fn st = some v) : (results fn a.tmps).run P w = .ok v w := by
  have key : ∀ ts vs, All2 (DT ad) ts vs → (match some ts with
      | some [x] => tV x
      | some l => match tsV l with
        | some vs => some (.tuple vs.toArray)
        | none => none
      | none => none) = some v → packed vs.toArray = v := by
    intro ts vs hd h
    unfold packed
    split at h
    · rename_i x hx
      simp only [Option.some.injEq] at hx; subst hx
      cases vs with
      | nil => exact hd.elim
      | cons y ys =>
        cases ys with
        | cons z zs => exact hd.2.elim
        | nil => simp [tV_ok h hd.1]
    · rename_i l hne hl
      simp only [Option.some.injEq] at hl; subst hl
      split at h <;> try (cases h; done)
      rename_i us hu
      simp only [Option.some.injEq] at h
      have := tsV_ok hu hd
      subst this
      have hlen := hd.len
      rw [dif_neg, h]
      intro h1
      cases ts with
      | nil => simp at hlen; simp [← hlen] at h1
      | cons x xs => cases xs with
        | nil => exact hne x rfl
        | cons y ys => simp at hlen h1; omega
    · cases h
  unfold resV at h
  cases ht : resT P st fn.results.toList with
  | none => rw [ht] at h; cases h
  | some ts =>
    rw [ht] at h
    obtain ⟨vs, hv, hd⟩ := resT_ok hr fn.results.toList ts ht
    rw [results_eq, Array.mapM_eq_mapM_toList]
    simp only [Sem.run_bind, Sem.run_map]
    rw [hv]
    simp only [Result.andThen_ok, Sem.run_pure]
    rw [key ts vs hd h]

/-! ### Code, and calls -/

/-- What is taken of the callees that are told. -/
def HookOK (P : Program) (W : World) (hk : Hooks) : Prop :=
  ∀ f g vs s v, hk f = some g → g vs = some (s, v) → s → ∀ w, Below W.heap.size W w → Calls P f vs.toArray w fun e w' => e = .returned v ∧ Below w.heap.size w w'

def ExOK (P : Program) (W : World) (ex : Code → St → (Exit → St → Prop) → Prop) : Prop :=
  ∀ c st k w0 ad a w Q, ex c st k → Below W.heap.size W w0 → Rep w0 ad st a w → (∀ e ad' st' a' w', k e st' → Rep w0 ad' st' a' w' → Q e a' w') → c.wp P Q a w

theorem all_undef (n : Nat) : All2 (DS ad) (List.replicate n undefS) (List.replicate n undef) := All2.rep n undefS_ok

theorem ProgOK.name (hm : ProgOK P) {f : FuncId} {fn : Func} (h : P.funcs[f]? = some fn) : (fn.name == "runtime.NumGoroutine") = false := by
  have hm := hm.quiet
  rw [List.all_eq_true] at hm
  have := hm fn (by
    have := Array.mem_of_getElem? h
    simpa using this)
  simpa using this

theorem callW_ok {hk : Hooks} {ex : Code → St → (Exit → St → Prop) → Prop} (hm : ProgOK P) (hh : HookOK P W hk) (hx : ExOK P W ex) : CallOK P W (callW P hk ex) := by
  intro f vs k h
  unfold callW at h
  split at h <;> try (exact h.elim)
  rename_i fn hf
  split at h <;> try (exact h.elim)
  rename_i c hb
  rw [Array.getElem?_toList] at hf
  have hn := hm.name hf
  refine ⟨⟨fn, c, hf, hb, hn⟩, fun w hW => ?_⟩
  split at h
  · rename_i g hg
    split at h <;> try (exact h.elim)
    rename_i s v hv
    exact (hh f g vs s v hg hv h.1 w hW).mono fun e w' ⟨h1, h2⟩ => ⟨v, h1, h.2, h2⟩
  · refine calls_of_wp hf hb ?_
    have hrep : Rep w (fun _ => none) ⟨vs.map ofV ++ List.replicate (fn.ntmps - vs.length) undefS, fun _ => none, 0⟩ { tmps := vs.toArray ++ Array.replicate (fn.ntmps - vs.toArray.size) undef, defers := [] } w := by
      refine ⟨?_, rfl, Below.refl _ _, fun k B hB => (by cases hB), fun k b hb => (by cases hb), fun k k' b hb => (by cases hb)⟩
      simp only [Array.toList_append, List.size_toArray, Array.toList_replicate]
      exact (All2.mapl ofV (fun v => ofV_ok v) vs).app (all_undef _)
    refine hx c _ _ w _ _ w _ h hW hrep ?_
    intro e ad' st' a' w' hk hr'
    split at hk <;> try (exact hk.elim)
    rename_i hret
    split at hk <;> try (exact hk.elim)
    rename_i v hv
    have hres := resV_ok hr' hv
    cases e <;> simp only [isRet] at hret <;> try (cases hret; done)
    all_goals exact ⟨hr'.df, v, hres, v, rfl, hk, hr'.mem.base⟩

theorem inBlock_ok {id : Nat} {k : Exit → St → Prop} {Q : Exit → Act → World → Prop} (hQ : ∀ e ad' st' a' w', k e st' → Rep w0 ad' st' a' w' → Q e a' w') :
    ∀ e ad' st' a' w', blockK id k e st' → Rep w0 ad' st' a' w' → Exit.inBlock id Q e a' w' := by
  intro e ad' st' a' w' hk hr
  cases e with
  | exit i =>
    simp only [Exit.inBlock]
    simp only [blockK] at hk
    split at hk
    · rename_i hi
      rw [if_pos (Nat.eq_of_beq_eq_true hi)]
      exact hQ _ _ _ _ _ hk hr
    · rename_i hi
      rw [if_neg (fun e => by rw [e] at hi; simp at hi)]
      exact hQ _ _ _ _ _ hk hr
  | _ => exact hQ _ _ _ _ _ hk hr

theorem rounds_ok {ihb : St → (Exit → St → Prop) → Prop} {k : Exit → St → Prop} {c : Code} {Q : Exit → Act → World → Prop}
    (hb : ∀ st k ad a w Q, ihb st k → Rep w0 ad st a w → (∀ e ad' st' a' w', k e st' → Rep w0 ad' st' a' w' → Q e a' w') → c.wp P Q a w) :
    ∀ (r : Nat) (ad : Ad) (st : St) (a : Act) (w : World), loopX ihb k r st → Rep w0 ad st a w → (∀ e ad' st' a' w', k e st' → Rep w0 ad' st' a' w' → Q e a' w') → Code.rounds P c Q r a w := by
  intro r
  induction r with
  | zero => intro ad st a w h; exact h.elim
  | succ r ih =>
    intro ad st a w h hr hQ
    rw [rounds_succ]
    refine hb st _ ad a w _ h hr ?_
    intro e ad' st' a' w' hk hr'
    cases e with
    | normal => exact ih ad' st' a' w' hk hr' hQ
    | _ => exact hQ _ _ _ _ _ hk hr'

/-! ### A loop with a hint -/

def cut (bl : List (Nat × Blk)) (ad : Ad) : Ad := fun k => match hasK bl k with
  | true => ad k
  | false => none

theorem cut_at {bl : List (Nat × Blk)} {ad : Ad} {k : Nat} (h : hasK bl k = true) : cut bl ad k = ad k := by
  simp [cut, h]

theorem cut_C {bl : List (Nat × Blk)} {c : SC} {v : Value} (h : refC bl [c] = true) (d : DC ad c v) : DC (cut bl ad) c v := by
  cases c with
  | v x => exact d
  | own k off =>
    obtain ⟨b, hb, e⟩ := d
    simp only [refC] at h
    split at h
    · rename_i hk
      exact ⟨b, by rw [cut_at hk]; exact hb, e⟩
    · cases h
  | any => trivial
theorem refC_cons {bl : List (Nat × Blk)} {c : SC} {l : List SC} (h : refC bl (c :: l) = true) : refC bl [c] = true ∧ refC bl l = true := by
  cases c with
  | own k off =>
    simp only [refC] at h ⊢
    split at h
    · simp [h]
    · cases h
  | _ => exact ⟨rfl, h⟩
theorem cut_Cs {bl : List (Nat × Blk)} : ∀ {l : List SC} {vs : List Value}, refC bl l = true → All2 (DC ad) l vs → All2 (DC (cut bl ad)) l vs
  | [], [], _, _ => trivial
  | _ :: _, _ :: _, h, d => ⟨cut_C (refC_cons h).1 d.1, cut_Cs (refC_cons h).2 d.2⟩
theorem refTs_cons {bl : List (Nat × Blk)} {x : T} {l : List T} (h : refTs bl (x :: l) = true) : refTs bl [x] = true ∧ refTs bl l = true := by
  cases x <;> simp only [refTs] at h ⊢ <;> split at h <;> simp_all
theorem cut_T {bl : List (Nat × Blk)} {x : T} {v : Value} (h : refTs bl [x] = true) (d : DT ad x v) : DT (cut bl ad) x v := by
  cases x with
  | c c =>
    simp only [refTs] at h
    split at h
    · rename_i hc
      exact cut_C hc d
    · cases h
  | agg l =>
    simp only [refTs] at h
    split at h
    · rename_i hc
      obtain ⟨vs, e, hl⟩ := d
      exact ⟨vs, e, cut_Cs hc hl⟩
    · cases h
theorem cut_Ts {bl : List (Nat × Blk)} : ∀ {l : List T} {vs : List Value}, refTs bl l = true → All2 (DT ad) l vs → All2 (DT (cut bl ad)) l vs
  | [], [], _, _ => trivial
  | _ :: _, _ :: _, h, d => ⟨cut_T (refTs_cons h).1 d.1, cut_Ts (refTs_cons h).2 d.2⟩
theorem refS_cons {bl : List (Nat × Blk)} {s : S} {l : List S} (h : refS bl (s :: l) = true) : (∀ v, DS ad s v → DS (cut bl ad) s v) ∧ refS bl l = true := by
  cases s with
  | any => exact ⟨fun _ _ => trivial, h⟩
  | t x =>
    simp only [refS] at h
    split at h
    · rename_i hx
      exact ⟨fun v d => cut_T hx d, h⟩
    · cases h
  | tup ts =>
    simp only [refS] at h
    split at h
    · rename_i hx
      exact ⟨fun v ⟨vs, e, d⟩ => ⟨vs, e, cut_Ts hx d⟩, h⟩
    · cases h

theorem weakS_ok {bl : List (Nat × Blk)} : ∀ {l m : List S} {vs : List Value}, weakS l m → refS bl l = true → All2 (DS ad) m vs → All2 (DS (cut bl ad)) l vs
  | [], [], [], _, _, _ => trivial
  | s :: _, [], _, h, _, _ => by cases s <;> exact h.elim
  | s :: l, x :: m, v :: vs, h, hr, d => by
    have hc := refS_cons (ad := ad) hr
    cases s with
    | any => exact ⟨trivial, weakS_ok h hc.2 d.2⟩
    | t y =>
      obtain ⟨rfl, h⟩ := h
      exact ⟨hc.1 v d.1, weakS_ok h hc.2 d.2⟩
    | tup y =>
      obtain ⟨rfl, h⟩ := h
      exact ⟨hc.1 v d.1, weakS_ok h hc.2 d.2⟩
theorem weakC_ok {bl : List (Nat × Blk)} : ∀ {l m : List SC} {vs : List Value}, weakC l m → refC bl l = true → All2 (DC ad) m vs → All2 (DC (cut bl ad)) l vs
  | [], [], [], _, _, _ => trivial
  | s :: _, [], _, h, _, _ => by cases s <;> exact h.elim
  | s :: l, x :: m, v :: vs, h, hr, d => by
    have hc := refC_cons hr
    cases s with
    | any => exact ⟨trivial, weakC_ok h hc.2 d.2⟩
    | v y =>
      obtain ⟨rfl, h⟩ := h
      exact ⟨cut_C hc.1 d.1, weakC_ok h hc.2 d.2⟩
    | own i o =>
      obtain ⟨rfl, h⟩ := h
      exact ⟨cut_C hc.1 d.1, weakC_ok h hc.2 d.2⟩

theorem weakB_at : ∀ {r : List (Nat × Blk)} {s1 : Nat → Option Blk}, weakB r s1 → ∀ {k : Nat} {B : Blk}, lkp r k = some B → ∃ B', s1 k = some B' ∧ weakC B.cells B'.cells ∧ B.t = B'.t
  | [], _, _, k, B, h => by cases h
  | (q, C) :: r, s1, hw, k, B, h => by
    simp only [weakB] at hw
    split at hw <;> try exact hw.elim
    rename_i B' hB'
    simp only [lkp] at h
    split at h
    · rename_i hk
      have hk := Nat.eq_of_beq_eq_true hk
      subst hk
      simp only [Option.some.injEq] at h
      subst h
      exact ⟨B', hB', hw.1, hw.2.1⟩
    · exact weakB_at hw.2.2 h
theorem refB_at {bl : List (Nat × Blk)} : ∀ {r : List (Nat × Blk)}, refB bl r = true → ∀ {k : Nat} {B : Blk}, lkp r k = some B → refC bl B.cells = true
  | [], _, k, B, h => by cases h
  | (q, C) :: r, hr, k, B, h => by
    simp only [refB] at hr
    split at hr <;> try cases hr
    rename_i hc
    simp only [lkp] at h
    split at h
    · simp only [Option.some.injEq] at h
      subst h
      exact hc
    · exact refB_at hr h

theorem weakP_ok {h : Hint} {x : h.X} {s1 : St} {a : Act} (hw : weakP h x s1) (hr : Rep w0 ad s1 a w) : Rep w0 (cut (h.bl x) ad) (h.st x) a w := by
  unfold weakP at hw
  split at hw <;> try exact hw.elim
  rename_i href
  simp only [Bool.and_eq_true] at href
  refine ⟨weakS_ok hw.1 href.1 hr.sl, hr.df, hr.mem.base, ?_, ?_, ?_⟩
  · intro k B hB
    have hB : lkp (h.bl x) k = some B := hB
    obtain ⟨B', h1, h2, h3⟩ := weakB_at hw.2 hB
    obtain ⟨b, cs, g1, g2, g3, g4⟩ := hr.mem.blk k B' h1
    refine ⟨b, cs, ?_, g2, by rw [h3]; exact g3, weakC_ok h2 (refB_at href.2 hB) g4⟩
    rw [cut_at (by simp [hasK, hB])]
    exact g1
  · intro k b hb
    simp only [cut] at hb
    split at hb
    · rename_i hk
      simp only [hasK] at hk
      split at hk
      · rename_i B hB
        exact ⟨B, hB⟩
      · cases hk
    · cases hb
  · intro k k' b hb hb'
    simp only [cut] at hb hb'
    split at hb <;> split at hb' <;> try (first | cases hb | cases hb')
    exact hr.mem.inj k k' b hb hb'

theorem loopH_ok {h : Hint} {ihc : St → (Exit → St → Prop) → Prop} {k : Exit → St → Prop} {c : Code} {Q : Exit → Act → World → Prop} {st : St} {a : Act}
    (hb : ∀ st k ad a w Q, ihc st k → Rep w0 ad st a w → (∀ e ad' st' a' w', k e st' → Rep w0 ad' st' a' w' → Q e a' w') → c.wp P Q a w)
    (hl : loopH h ihc k st) (hr : Rep w0 ad st a w) (hQ : ∀ e ad' st' a' w', k e st' → Rep w0 ad' st' a' w' → Q e a' w') : (Code.loop c).wp P Q a w := by
  obtain ⟨⟨x, hI, hw⟩, hround⟩ := hl
  have key : ∀ (n : Nat) (x : h.X) (ad : Ad) (a : Act) (w : World), h.I x → h.mu x < n → Rep w0 ad (h.st x) a w → Code.rounds P c Q n a w := by
    intro n
    induction n with
    | zero => intro x ad a w _ hlt; omega
    | succ n ih =>
      intro x ad a w hI hlt hrep
      rw [rounds_succ]
      refine hb _ _ ad a w _ (hround x hI) hrep ?_
      intro e ad' st' a' w' hk hr'
      cases e with
      | normal =>
        obtain ⟨x', hI', hmu, hw'⟩ := hk
        exact ih x' _ a' w' hI' (by omega) (weakP_ok hw' hr')
      | _ => exact hQ _ _ _ _ _ hk hr'
  exact wp_loop_rounds (h.mu x + 1) (key _ x _ a w hI (by omega) (weakP_ok hw hr))

theorem forceC_eq (x : SC) (k : SC → Prop) : forceC x k = k x := by cases x <;> rfl
theorem forceCs_eq : ∀ (l : List SC) (k : List SC → Prop), forceCs l k = k l
  | [], _ => rfl
  | c :: r, k => by rw [forceCs, forceC_eq, forceCs_eq r]
theorem forceT_eq (x : T) (k : T → Prop) : forceT x k = k x := by
  cases x
  · rw [forceT, forceC_eq]
  · rw [forceT, forceCs_eq]
theorem forceTs_eq : ∀ (l : List T) (k : List T → Prop), forceTs l k = k l
  | [], _ => rfl
  | c :: r, k => by rw [forceTs, forceT_eq, forceTs_eq r]
theorem forceS_eq (x : S) (k : S → Prop) : forceS x k = k x := by
  cases x
  · rw [forceS, forceT_eq]
  · rw [forceS, forceTs_eq]
  · rfl
theorem forceL_eq : ∀ (l : List S) (k : List S → Prop), forceL l k = k l
  | [], _ => rfl
  | c :: r, k => by rw [forceL, forceS_eq, forceL_eq r]
theorem forceSt_eq (st : St) (k : St → Prop) : forceSt st k = k st := forceL_eq _ _

theorem execB_ok {lh : Nat → Option Hint} {ih : Code → St → (Exit → St → Prop) → Prop} {call : FuncId → List Value → (Value → Prop) → Prop} (hm : ProgOK P) (hc : CallOK P W call) (hx : ExOK P W ih) : ExOK P W (execB P W lh ih call) := by
  intro c st k w0 ad a w Q h hW hr hQ
  cases c <;> simp only [execB, forceSt_eq] at h <;> try exact h.elim
  case skip => exact wp_skip (hQ _ _ _ _ _ h hr)
  case ret => exact wp_ret (hQ _ _ _ _ _ h hr)
  case exit id => exact wp_exit (hQ _ _ _ _ _ h hr)
  case seq x y =>
    refine wp_seq (hx x st _ w0 ad a w _ h hW hr ?_)
    intro e ad' st' a' w' hk hr'
    cases e with
    | normal => exact hx y st' k w0 ad' a' w' Q hk hW hr' hQ
    | _ => exact hQ _ _ _ _ _ hk hr'
  case block id b =>
    split at h
    · exact wp_block (hx b st _ w0 ad a w _ h hW hr (inBlock_ok hQ))
    · split at h <;> try exact h.elim
      rename_i c
      exact wp_block (loopH_ok (fun st k ad a w Q h hr hQ => hx c st k w0 ad a w Q h hW hr hQ) h hr (inBlock_ok hQ))
  case loop b =>
    refine wp_loop_rounds 1000 (rounds_ok (fun st k ad a w Q h hr hQ => hx b st k w0 ad a w Q h hW hr hQ) 1000 ad st a w h hr hQ)
  case cond c t e =>
    split at h <;> try exact h.elim
    rename_i b hb
    have hcb := boolS_ok hb (opd_ok hr.sl c)
    refine wp_cond hcb ?_
    cases b
    · simp only [br, lit_ok hb] at h
      exact hx e st k w0 ad a w Q h hW hr hQ
    · simp only [br, lit_ok hb] at h
      exact hx t st k w0 ad a w Q h hW hr hQ
  case region id ops draw =>
    split at h
    · refine wp_region ?_
      have := runC_false (k := fun st' => k .normal ⟨st'.slots, st'.blocks, st'.next + ops.size⟩) (Q := Q) hc hW ops.toList 0 ad st a w (by simp) h hr fun ad' st' a' w' hk hr' => hQ _ _ _ _ _ hk (hr'.bump _)
      rwa [Array.length_toList, ← List.range_eq_range'] at this
    · split at h <;> try exact h.elim
      rename_i hall
      simp only [Bool.and_eq_true] at hall
      have hWw : Below W.heap.size W w := hW.trans (hr.mem.base.mono hW.size)
      obtain ⟨sf, hruns, hk⟩ := runC_true hc hWw ops.toList 0 st (by simp) h
      rw [Array.length_toList] at hruns
      refine wp_region_any hm.mixed ?_
      refine any_ok hc hW (st0 := st) (sf := sf) hall.2 ops.size (List.range' 0 ops.size) _ ad st a _ (by simp) (List.pairwise_lt_range' ..) ?_ (by simp) hruns Inv.start ⟨hr.sl, hr.df, hr.mem.drew⟩ fun ad' a' w' hr' => hQ _ _ _ _ _ hk (hr'.bump _)
      intro i
      constructor
      · intro hi
        have : i < ops.size := by simpa using hi
        exact ⟨this, by simp [this]⟩
      · intro ⟨hi, _⟩
        simpa using hi

theorem execN_ok {hk : Hooks} (hm : ProgOK P) (hh : HookOK P W hk) : ∀ n, ExOK P W (execN P W hk n) := by
  intro n
  induction n with
  | zero => intro c st k w0 ad a w Q h; exact h.elim
  | succ n ih => exact execB_ok (lh := fun _ => none) hm (callW_ok hm hh ih) ih

theorem execL_ok {hk : Hooks} {lh : Nat → Option Hint} (hm : ProgOK P) (hh : HookOK P W hk) : ∀ n, ExOK P W (execL P W hk lh n) := by
  intro n
  induction n with
  | zero => intro c st k w0 ad a w Q h; exact h.elim
  | succ n ih => exact execB_ok (lh := lh) hm (callW_ok hm hh (execN_ok hm hh n)) ih

/-- THE EXECUTOR'S WORD: what a call comes to. -/
theorem callL_ok {hk : Hooks} {lh : Nat → Option Hint} (hm : ProgOK P) (hh : HookOK P W hk) {n : Nat} {f : FuncId} {vs : List Value} {k : Value → Prop} (h : callL P W hk lh n f vs k) (w : World) (hW : Below W.heap.size W w) :
    Calls P f vs.toArray w fun e w' => ∃ v, e = .returned v ∧ k v ∧ Below w.heap.size w w' :=
  (callW_ok hm hh (execL_ok hm hh n) f vs k h).2 w hW

theorem noHook (P : Program) (W : World) : HookOK P W (fun _ => none) := fun f g vs s v h => by cases h
end
#print axioms callL_ok
end SX
end Go.Proofs.Ytegdbpbafdpkfaa
