/- The symbolic executor's state; calls; one operation behind the other. No condition. -/
import Derived.Test.YtapjehgfekjdaaaDoorSyJ
import Derived.Laws.Externs
namespace Go.Proofs.YtapjehgfekjdaaaDoor
open Go.RowKit
namespace SY

structure Rep (p : Nat → Nat → Prop) (w0 : World) (n : Nat) (g : G) (st : St) (a : Act) (w : World) : Prop where
  sl : ∀ t, t < n → DS g w (st.sl.get undefS (pth t)) (a.tmps.getD t undef)
  sz : a.tmps.size = n
  df : a.defers = []
  mem : Mem p w0 g st.bl w

theorem Rep.stale {p : Nat → Nat → Prop} {w0 w : World} {n : Nat} {g : G} {st : St} {a : Act} (h : Rep p w0 n g st a w) (d : Dyn) : Rep p w0 n g (dynSt st d) a w := by
  refine ⟨fun t ht => ?_, h.sz, h.df, h.mem⟩
  show DS g w ((staleL st d.slots).get undefS (pth t)) _
  generalize d.slots = l
  induction l with
  | nil => exact h.sl t ht
  | cons x l ih =>
    show DS g w (Tr.get undefS (match eqO (ownK (st.sl.get undefS x.1)) (krt st x.2) with
      | true => staleL st l
      | false => (staleL st l).set undefS .any x.1) (pth t)) _
    split
    · exact ih
    · by_cases hx : x.1 = pth t
      · rw [← hx, get_set_same]; trivial
      · rw [get_set_ne _ _ _ _ _ hx]; exact ih
def Same (L : List Nat) (a a' : Act) : Prop := ∀ t, t ∉ L → a'.tmps.getD t undef = a.tmps.getD t undef
theorem Same.refl (L : List Nat) (a : Act) : Same L a a := fun _ _ => rfl
theorem Same.trans {L : List Nat} {a b c : Act} (h : Same L a b) (h' : Same L b c) : Same L a c := fun t ht => (h' t ht).trans (h t ht)
theorem Same.sub {L M : List Nat} {a b : Act} (h : Same L a b) (hs : ∀ t, t ∈ L → t ∈ M) : Same M a b := fun t ht => h t fun hm => ht (hs t hm)

section
variable {P : Program} {p : Nat → Nat → Prop} {w0 w : World} {g : G} {n : Nat} {hk : Hooks} {inl : Inl}

theorem forceC_eq (x : SC) (k : SC → Prop) : forceC x k = k x := by cases x <;> rfl
theorem forceCs_eq : ∀ (l : List SC) (k : List SC → Prop), forceCs l k = k l
  | [], _ => rfl
  | c :: r, k => by
    show (forceC c fun c' => forceCs r fun r' => k (c' :: r')) = _
    rw [forceC_eq, forceCs_eq r]
theorem forceT_eq (x : T) (k : T → Prop) : forceT x k = k x := by
  cases x
  · rw [forceT, forceC_eq]
  · rw [forceT, forceCs_eq]
theorem forceTs_eq : ∀ (l : List T) (k : List T → Prop), forceTs l k = k l
  | [], _ => rfl
  | c :: r, k => by
    show (forceT c fun c' => forceTs r fun r' => k (c' :: r')) = _
    rw [forceT_eq, forceTs_eq r]
theorem forceS_eq (x : S) (k : S → Prop) : forceS x k = k x := by
  cases x
  · rw [forceS, forceT_eq]
  · rw [forceS, forceTs_eq]
  · rw [forceS, forceCs_eq]
  · rw [forceS, forceCs_eq]
  · rw [forceS, forceCs_eq]
  · rfl
  · rfl
theorem forceB_eq (x : Blk) (k : Blk → Prop) : forceB x k = k x := by
  cases x
  · rw [forceB, forceCs_eq]
  · rfl
  · rfl
theorem appK_eq (d : Option Pa) (ef : Ef) (st : St) (k : St → Prop) : appK d ef st k = k (appE d ef st) := by
  obtain ⟨s, u, q⟩ := ef
  unfold appK appE updB
  simp only [forceS_eq]
  cases u with
  | none => rfl
  | some x => obtain ⟨i, B⟩ := x; simp only [forceB_eq]

theorem br_and {b : Bool} {k : Prop} (h : br b k False) : b = true ∧ k := by
  cases b
  · exact h.elim
  · exact ⟨rfl, h⟩

/-! ### Plain values -/

theorem Far.down {g2 : G} {A : Addr} {m : Nat} (h : Far g w A m) (hl : ∀ b f, b < w.heap.size → Lim g2 b f → Lim g b f) : Far g2 w A m := ⟨h.spot, h.lt, fun f hf => h.lim f (hl _ f h.lt hf)⟩

theorem pureC_ok {g2 : G} (hl : ∀ b f, b < w.heap.size → Lim g2 b f → Lim g b f) {c d : SC} {v : Value} (h : pureC c = some d) (hc : DC g w c v) : DC g2 w d v := by
  cases c <;> simp only [pureC, Option.some.injEq] at h
  case v x => subst h; exact hc
  case own => cases h
  case sl ks xs tok =>
    subst h
    obtain ⟨a, n, c, hv, hI⟩ := hc
    exact ⟨a, n, c, hv, hI.cap, hI.most, hI.pos, hI.len, hI.nil, fun A hA => ⟨fun h => ((hI.at_ A hA).1 h).down hl, (hI.at_ A hA).2⟩, trivial⟩
  case st xs => subst h; exact hc
  case any => subst h; trivial
theorem pureCs_cons (c : SC) (l : List SC) : pureCs (c :: l) = (match pureC c with
    | some x => match pureCs l with
      | some xs => some (x :: xs)
      | none => none
    | none => none) := rfl
theorem pureCs_ok {g2 : G} (hl : ∀ b f, b < w.heap.size → Lim g2 b f → Lim g b f) : ∀ {l m : List SC} {vs : List Value}, pureCs l = some m → All2 (DC g w) l vs → All2 (DC g2 w) m vs
  | [], m, vs, h, hc => by
    simp only [pureCs, Option.some.injEq] at h; subst h
    rw [hc.nil_left]; trivial
  | c :: l, m, vs, h, hc => by
    rw [pureCs_cons] at h
    split at h <;> try (cases h; done)
    rename_i x hx
    split at h <;> try (cases h; done)
    rename_i xs hxs
    simp only [Option.some.injEq] at h; subst h
    obtain ⟨v, vs, rfl, h1, h2⟩ := hc.cons_left
    exact ⟨pureC_ok hl hx h1, pureCs_ok hl hxs h2⟩
theorem pureT_ok {g2 : G} (hl : ∀ b f, b < w.heap.size → Lim g2 b f → Lim g b f) {c d : T} {v : Value} (h : pureT c = some d) (hc : DT g w c v) : DT g2 w d v := by
  cases c with
  | c x =>
    simp only [pureT] at h
    split at h <;> try (cases h; done)
    rename_i y hy
    simp only [Option.some.injEq] at h; subst h
    exact pureC_ok hl hy hc
  | agg l =>
    simp only [pureT] at h
    split at h <;> try (cases h; done)
    rename_i y hy
    simp only [Option.some.injEq] at h; subst h
    obtain ⟨vs, e, hvs⟩ := hc
    exact ⟨vs, e, pureCs_ok hl hy hvs⟩
theorem pureTs_cons (c : T) (l : List T) : pureTs (c :: l) = (match pureT c with
    | some x => match pureTs l with
      | some xs => some (x :: xs)
      | none => none
    | none => none) := rfl
theorem pureTs_ok {g2 : G} (hl : ∀ b f, b < w.heap.size → Lim g2 b f → Lim g b f) : ∀ {l m : List T} {vs : List Value}, pureTs l = some m → All2 (DT g w) l vs → All2 (DT g2 w) m vs
  | [], m, vs, h, hc => by
    simp only [pureTs, Option.some.injEq] at h; subst h
    rw [hc.nil_left]; trivial
  | c :: l, m, vs, h, hc => by
    rw [pureTs_cons] at h
    split at h <;> try (cases h; done)
    rename_i x hx
    split at h <;> try (cases h; done)
    rename_i xs hxs
    simp only [Option.some.injEq] at h; subst h
    obtain ⟨v, vs, rfl, h1, h2⟩ := hc.cons_left
    exact ⟨pureT_ok hl hx h1, pureTs_ok hl hxs h2⟩
theorem pureS_ok {g2 : G} (hl : ∀ b f, b < w.heap.size → Lim g2 b f → Lim g b f) {c d : S} {v : Value} (h : pureS c = some d) (hc : DS g w c v) : DS g2 w d v := by
  cases c <;> simp only [pureS] at h <;> try (cases h; done)
  · split at h <;> try (cases h; done)
    rename_i y hy
    simp only [Option.some.injEq] at h; subst h
    exact pureT_ok hl hy hc
  · split at h <;> try (cases h; done)
    rename_i y hy
    simp only [Option.some.injEq] at h; subst h
    obtain ⟨vs, e, hvs⟩ := hc
    exact ⟨vs, e, pureTs_ok hl hy hvs⟩
  · split at h <;> try (cases h; done)
    rename_i y hy
    simp only [Option.some.injEq] at h; subst h
    obtain ⟨A, vs, e, hf, hvs, hr⟩ := hc
    have h1 := pureCs_ok hl hy hvs
    have h2 := h1.len.trans hvs.len.symm
    exact ⟨A, vs, by rw [h2]; exact e, by rw [h2]; exact hf.down hl, h1, hr⟩
theorem pureL_cons (c : S) (l : List S) : pureL (c :: l) = (match pureS c with
    | some x => match pureL l with
      | some xs => some (x :: xs)
      | none => none
    | none => none) := rfl
theorem pureL_ok {g2 : G} (hl : ∀ b f, b < w.heap.size → Lim g2 b f → Lim g b f) : ∀ {l m : List S} {vs : List Value}, pureL l = some m → All2 (DS g w) l vs → All2 (DS g2 w) m vs
  | [], m, vs, h, hc => by
    simp only [pureL, Option.some.injEq] at h; subst h
    rw [hc.nil_left]; trivial
  | c :: l, m, vs, h, hc => by
    rw [pureL_cons] at h
    split at h <;> try (cases h; done)
    rename_i x hx
    split at h <;> try (cases h; done)
    rename_i xs hxs
    simp only [Option.some.injEq] at h; subst h
    obtain ⟨v, vs, rfl, h1, h2⟩ := hc.cons_left
    exact ⟨pureS_ok hl hx h1, pureL_ok hl hxs h2⟩

/-! ### What calls are worth -/

def IsFn (P : Program) (f : Nat) : Prop := ∃ fn c, P.funcs[f]? = some fn ∧ fn.body = some c ∧ (fn.name == "runtime.NumGoroutine") = false

def InlOK (P : Program) (inl : Inl) : Prop :=
  ∀ f args bl nx k, inl f args bl nx k → IsFn P f ∧ ∀ p w0 g w vals, All2 (DS g w) args vals → Mem p w0 g bl w →
    Calls P f vals.toArray w fun e w' => ∃ r v bl' nx' g', e = .returned v ∧ k r bl' nx' ∧ DS g' w' r v ∧ Mem p w0 g' bl' w' ∧ Ext g w g' w'

/-- Likewise, nothing said of the caller's own. -/
def InlOK0 (P : Program) (inl : Inl) : Prop :=
  ∀ f args bl nx k, inl f args bl nx k → IsFn P f ∧ ∀ p w0 g w vals, All2 (DS g w) args vals → Mem p w0 g bl w →
    Calls P f vals.toArray w fun e w' => ∃ r v bl' nx' g', e = .returned v ∧ k r bl' nx' ∧ DS g' w' r v ∧ Mem p w0 g' bl' w'
theorem InlOK.zero (h : InlOK P inl) : InlOK0 P inl := fun f args bl nx k hk => ⟨(h f args bl nx k hk).1, fun p w0 g w vals ha hm => ((h f args bl nx k hk).2 p w0 g w vals ha hm).mono fun _ _ ⟨r, v, bl', nx', g', h1, h2, h3, h4, _⟩ => ⟨r, v, bl', nx', g', h1, h2, h3, h4⟩⟩

/-- Limits lie among what there is. -/
def Bound (g : G) (w : World) : Prop := ∀ b f, Lim g b f → b < w.heap.size

/-- A function without a text of its own: the model's own answer. -/
def ExtFn (P : Program) (f : Nat) (e : Array Value → Sem Value) : Prop := ∃ fn, P.funcs[f]? = some fn ∧ (fn.name == "runtime.NumGoroutine") = false ∧ fn.body.isNone = true ∧ Extern.findNext fn = none ∧ Extern.find fn = some e
def CallsS (P : Program) (f : Nat) (as : List S) (r : S) : Prop := IsFn P f ∧ ∀ g w vals, Bound g w → All2 (DS g w) as vals → Calls P f vals.toArray w fun e w' => ∃ v, e = .returned v ∧ DS g w' r v ∧ Below w.heap.size w w'
def ExtS (P : Program) (f : Nat) (as : List S) (r : S) : Prop := ∃ e, ExtFn P f e ∧ ∀ g w vals, Bound g w → All2 (DS g w) as vals → ∃ v w', (e vals.toArray).run P w = .ok v w' ∧ DS g w' r v ∧ Below w.heap.size w w'
/-- What is taken of a callee that is told. -/
def GOK (P : Program) (f : Nat) (h : Hk) : Prop :=
  ∀ as s r, h as = some (s, r) → s → CallsS P f as r ∨ ExtS P f as r
def HookOK (P : Program) (hk : Hooks) : Prop := ∀ f h, hk f = some h → GOK P f h

theorem iso_ok (hi : InlOK0 P inl) {f : Nat} {args : List S} {k : S → Prop} (h : iso inl f args k) : IsFn P f ∧ ∀ g w vals, Bound g w → All2 (DS g w) args vals →
    Calls P f vals.toArray w fun e w' => ∃ r v, e = .returned v ∧ k r ∧ DS g w' r v ∧ Below w.heap.size w w' := by
  unfold iso at h
  split at h <;> try (exact h.elim)
  rename_i as has
  obtain ⟨h1, h2⟩ := hi _ _ _ _ _ h
  refine ⟨h1, fun g w vals hb ha => ?_⟩
  have hlk : ∀ i, lkB (.lf : Tr (Option Blk)) i = none := fun _ => rfl
  have hlim : ∀ b f, Lim (⟨fun _ => none, fun _ => none, fun _ => none, Lim g⟩ : G) b f → Lim g b f := by
    rintro b f (⟨_, k, hk⟩ | ⟨k, hk⟩ | hp)
    · cases hk
    · cases hk
    · exact hp
  have hm : Mem (Lim g) w ⟨fun _ => none, fun _ => none, fun _ => none, Lim g⟩ .lf w :=
    ⟨Below.refl _ _, rfl, hb, fun k B hB => (by rw [hlk] at hB; cases hB), fun k b h => (by cases h), fun k e i h => (by cases h), fun k q h => (by cases h), fun k k' b h => (by cases h), fun k k' b f f' h => (by cases h), fun k k' b f h => (by cases h), fun k b f h => (by cases h)⟩
  refine (h2 (Lim g) w _ w vals (pureL_ok (fun b f _ => hlim b f) has ha) hm).mono ?_
  rintro e w' ⟨r, v, bl', nx', g', rfl, hk, hd, hm'⟩
  split at hk <;> try (exact hk.elim)
  rename_i r' hr'
  exact ⟨r', v, rfl, hk, pureS_ok (fun b f _ hl => .inr (.inr (by rw [hm'.pl]; exact hl))) hr' hd, hm'.base⟩

/-- What comes of a call that may hand back a slice of its own. -/
def RT (g : G) (ks : List CK) (e : TypeId) (key : Nat) (w w' : World) (r : S) (v : Value) : Prop :=
  DS g w' r v ∨ ∃ xs a n c q, r = sc (.sl ks xs (some (key, key + key))) ∧ v = .slice a n c ∧ SlI g w' ks xs none a n c ∧ (∀ b f, q = some (b, f) → w.heap.size ≤ b ∧ b < w'.heap.size) ∧
    ((q = none ∧ c = n) ∨ ∃ A cur, a = some A ∧ (A.off = 0 ∧ A.spot = none) ∧ q = some (A.block, xs.length) ∧ w'.heap[A.block]? = some (.cells cur e (0, 0)) ∧ c * ks.length = cur.size)
theorem isoT_ok (hi : InlOK0 P inl) {f : Nat} {args : List S} {ks : List CK} {e : TypeId} {key : Nat} {k : S → Prop} (h : isoT inl f args ks e key k) : IsFn P f ∧ ∀ g w vals, Bound g w → All2 (DS g w) args vals →
    Calls P f vals.toArray w fun e' w' => ∃ r v, e' = .returned v ∧ k r ∧ RT g ks e key w w' r v ∧ Below w.heap.size w w' := by
  unfold isoT at h
  split at h <;> try (exact h.elim)
  rename_i as has
  obtain ⟨h1, h2⟩ := hi _ _ _ _ _ h
  refine ⟨h1, fun g w vals hb ha => ?_⟩
  have hlk : ∀ i, lkB (.lf : Tr (Option Blk)) i = none := fun _ => rfl
  have hlim : ∀ b f, Lim (⟨fun _ => none, fun _ => none, fun _ => none, Lim g⟩ : G) b f → Lim g b f := by
    rintro b f (⟨_, k, hk⟩ | ⟨k, hk⟩ | hp)
    · cases hk
    · cases hk
    · exact hp
  have hm : Mem (Lim g) w ⟨fun _ => none, fun _ => none, fun _ => none, Lim g⟩ .lf w :=
    ⟨Below.refl _ _, rfl, hb, fun k B hB => (by rw [hlk] at hB; cases hB), fun k b h => (by cases h), fun k e i h => (by cases h), fun k q h => (by cases h), fun k k' b h => (by cases h), fun k k' b f f' h => (by cases h), fun k k' b f h => (by cases h), fun k b f h => (by cases h)⟩
  refine (h2 (Lim g) w _ w vals (pureL_ok (fun b f _ => hlim b f) has ha) hm).mono ?_
  rintro e' w' ⟨r, v, bl', nx', g', rfl, hk, hd, hm'⟩
  have hdown : ∀ b f, b < w'.heap.size → Lim g b f → Lim g' b f := fun b f _ hl => .inr (.inr (by rw [hm'.pl]; exact hl))
  split at hk <;> try (exact hk.elim)
  rename_i r' hr'
  refine ⟨r', v, rfl, hk, ?_, hm'.base⟩
  have pur : ∀ {r}, pureS r = some r' → DS g' w' r v → RT g ks e key w w' r' v := fun hp hd => .inl (pureS_ok hdown hp hd)
  unfold rebase at hr'
  split at hr'
  · rename_i ks' xs k0 i0
    have hd0 : DS g' w' (sc (.sl ks' xs none)) v := by
      obtain ⟨a, n, c, hv, hS⟩ := hd
      exact ⟨a, n, c, hv, hS.cap, hS.most, hS.pos, hS.len, hS.nil, hS.at_, trivial⟩
    have plain : some (sc (.sl ks' xs none)) = some r' → RT g ks e key w w' r' v := fun he => pur (r := sc (.sl ks' xs none)) he hd0
    split at hr'
    · rename_i e1 g1 hl
      split at hr'
      · rename_i hq
        simp only [Bool.and_eq_true] at hq
        obtain ⟨q1, q2, q3⟩ := hq
        have q1 := Nat.eq_of_beq_eq_true q1
        have q2 := Nat.eq_of_beq_eq_true q2
        have q3 := ksEq_eq q3
        subst q1 q2 q3
        simp only [Option.some.injEq] at hr'
        subst hr'
        have hd1 := pureS_ok (g2 := g) hdown (show pureS (sc (.sl ks xs none)) = some (sc (.sl ks xs none)) from rfl) hd0
        obtain ⟨a, n, c, hv, hS⟩ := hd
        obtain ⟨a', n', c', hv', hS'⟩ := hd1
        rw [hv] at hv'
        cases hv'
        obtain ⟨e2, i2, t1, t2, t3⟩ := hS.tok
        have hbk : g'.tb k0 = some (e, i0) := hm'.blk k0 _ hl
        rw [hbk] at t1
        cases t1
        rcases t3 rfl with ⟨u1, u2⟩ | ⟨A, cur, u1, u2, u3, u4, u5⟩
        · exact .inr ⟨xs, a, n, c, none, rfl, hv, hS', fun b f h => (by cases h), .inl ⟨rfl, u2⟩⟩
        · refine .inr ⟨xs, a, n, c, some (A.block, xs.length), rfl, hv, hS', fun b f h => ?_, .inr ⟨A, cur, u1, u2, rfl, u4, u5⟩⟩
          cases h
          exact hm'.told k0 _ _ u3
      · exact plain hr'
    · exact plain hr'
  · exact pur hr' hd

theorem Mem.bound {bl : Tr (Option Blk)} (h : Mem p w0 g bl w) : Bound g w := fun _ _ => h.lim_lt

/-- A call of a told callee. -/
def HookR (hk : Hooks) (f : Nat) (as : List S) (r : S) : Prop := ∃ h as' s r0, hk f = some h ∧ pureL as = some as' ∧ h as' = some (s, r0) ∧ s ∧ pureS r0 = some r
theorem hookC_ok {f : Nat} {as : List S} {k : S → Prop} {other : Prop} (h : hookC hk f as k other) : (∃ r, HookR hk f as r ∧ k r) ∨ (hk f = none ∧ other) := by
  unfold hookC at h
  split at h
  · rename_i gk hg
    split at h <;> try (exact h.elim)
    rename_i as' has
    split at h <;> try (exact h.elim)
    rename_i s r0 hr0
    split at h <;> try (exact h.elim)
    rename_i r hr
    exact .inl ⟨r, ⟨gk, as', s, r0, hg, has, hr0, h.1, hr⟩, h.2⟩
  · rename_i hn
    exact .inr ⟨hn, h⟩
theorem HookR_ok (hh : HookOK P hk) {f : Nat} {as : List S} {r : S} (h : HookR hk f as r) : CallsS P f as r ∨ ExtS P f as r := by
  obtain ⟨gk, as', s, r0, h1, h2, h3, h4, h5⟩ := h
  rcases hh f gk h1 as' s r0 h3 h4 with ⟨hf, hc⟩ | ⟨e, he, hc⟩
  · refine .inl ⟨hf, fun g w vals hb ha => (hc g w vals hb (pureL_ok (fun _ _ _ h => h) h2 ha)).mono ?_⟩
    rintro e w' ⟨v, rfl, hd, hbel⟩
    exact ⟨v, rfl, pureS_ok (fun _ _ _ h => h) h5 hd, hbel⟩
  · refine .inr ⟨e, he, fun g w vals hb ha => ?_⟩
    obtain ⟨v, w', q1, q2, q3⟩ := hc g w vals hb (pureL_ok (fun _ _ _ h => h) h2 ha)
    exact ⟨v, w', q1, pureS_ok (fun _ _ _ h => h) h5 q2, q3⟩

/-! ### Reading and writing slots -/

theorem Rep.opd {st : St} {a : Act} (h : Rep p w0 n g st a w) {x : Operand} {y : Opd} (hy : cpo n x = some y) : DS g w (opv st.sl y) (a.eval x) := by
  cases x with
  | tmp t =>
    simp only [cpo] at hy
    split at hy <;> try (cases hy; done)
    rename_i hlt
    have hlt := Nat.le_of_ble_eq_true hlt
    simp only [Option.some.injEq] at hy; subst hy
    exact h.sl t hlt
  | const v => simp only [cpo, Option.some.injEq] at hy; subst hy; exact ofV_ok v
  | global i => simp only [cpo, Option.some.injEq] at hy; subst hy; show DS g w (ofV (a.eval (.global i))) _; exact ofV_ok _
  | func f => simp only [cpo, Option.some.injEq] at hy; subst hy; show DS g w (ofV (a.eval (.func f))) _; exact ofV_ok _
theorem cpl_ok {st : St} {a : Act} (h : Rep p w0 n g st a w) : ∀ {l : List Operand} {m : List Opd}, cpl n l = some m → All2 (DS g w) (m.map (opv st.sl)) (l.map a.eval)
  | [], m, hm => by simp only [cpl, Option.some.injEq] at hm; subst hm; trivial
  | x :: l, m, hm => by
    simp only [cpl] at hm
    split at hm <;> try (cases hm; done)
    rename_i y hy
    split at hm <;> try (cases hm; done)
    rename_i r hr
    simp only [Option.some.injEq] at hm; subst hm
    exact ⟨h.opd hy, cpl_ok h hr⟩

theorem getD_put_ne {a : Act} {d : Option Nat} {v : Value} {t : Nat} (h : d ≠ some t) : (a.put d v).tmps.getD t undef = a.tmps.getD t undef := by
  cases d with
  | none => rfl
  | some d =>
    have hne : d ≠ t := fun e => h (e ▸ rfl)
    simp [Act.put, Array.getD_eq_getD_getElem?, hne]
theorem getD_put_same {a : Act} {d : Nat} {v : Value} (h : d < a.tmps.size) : (a.put (some d) v).tmps.getD d undef = v := by
  simp [Act.put, h]
theorem put_size (a : Act) (d : Option Nat) (v : Value) : (a.put d v).tmps.size = a.tmps.size := by
  cases d <;> simp [Act.put]
theorem put_df {a : Act} (h : a.defers = []) (d : Option Nat) (v : Value) : (a.put d v).defers = [] := by
  cases d <;> exact h

def dOk (n : Nat) (d : Option Nat) : Prop := ∀ t, d = some t → t < n

theorem sl_put {sl : Tr S} {a : Act} {d : Option Nat} {s : S} {v : Value} (hs : ∀ t, t < n → DS g w (sl.get undefS (pth t)) (a.tmps.getD t undef)) (hsz : a.tmps.size = n) (hd : dOk n d) (hv : DS g w s v) :
    ∀ t, t < n → DS g w ((putO sl (optP d) s).get undefS (pth t)) ((a.put d v).tmps.getD t undef) := by
  intro t ht
  cases d with
  | none => exact hs t ht
  | some d =>
    by_cases h : d = t
    · subst h
      show DS g w ((sl.set undefS s (pth d)).get undefS (pth d)) _
      rw [get_set_same, getD_put_same (by rw [hsz]; exact ht)]
      exact hv
    · show DS g w ((sl.set undefS s (pth d)).get undefS (pth t)) _
      rw [get_set_ne _ _ _ _ _ (pth_ne h), getD_put_ne (by simpa using h)]
      exact hs t ht

theorem Rep.put {st : St} {a : Act} {g' : G} {w' : World} (h : Rep p w0 n g st a w) (hx : Ext g w g' w') {d : Option Nat} (hd : dOk n d) {s : S} {v : Value} (hv : DS g' w' s v) {bl' : Tr (Option Blk)} (hm : Mem p w0 g' bl' w') (nx : Nat) :
    Rep p w0 n g' ⟨putO st.sl (optP d) s, bl', nx⟩ (a.put d v) w' :=
  ⟨sl_put (fun t ht => hx.s _ _ (h.sl t ht)) h.sz hd hv, by rw [put_size]; exact h.sz, put_df h.df _ _, hm⟩

theorem Same.put (a : Act) (d : Option Nat) (v : Value) (L : List Nat) (h : ∀ t, d = some t → t ∈ L) : Same L a (a.put d v) := fun t ht => getD_put_ne fun e => ht (h t e)

/-! ### One operation -/

theorem effC_wp {st : St} {a : Act} {key : Nat} {o : Oper} {ef : Ef} {K : Act → World → Prop} {Q : Exit → Act → World → Prop} (h : effC P st.sl st.bl key (cop P n o) = some ef) (hp : ef.p = true) (hr : Rep p w0 n g st a w) (hd : dOk n o.dst)
    (hK : ∀ g' v w', Rep p w0 n g' (appE (optP o.dst) ef st) (a.put o.dst v) w' → Ext g w g' w' → K (a.put o.dst v) w') : o.wp P a w K Q := by
  obtain ⟨nx, v, w', g', hrun, hn, hx, hds, hm⟩ := effC_ok (e := a.eval) h hp (fun x y hy => hr.opd hy) hr.mem
  have hk : K (a.put o.dst v) w' := hK g' v w' (hr.put hx hd hds hm st.nx) hx
  unfold Oper.wp
  rw [hrun]
  rcases hn with rfl | ⟨rfl, rfl⟩
  · exact hk
  · exact hk

theorem cop_pick {o : Oper} {c x y : Opd} (h : cop P n o = .pick c x y) : ∃ c' x' y', o.op = .pick c' x' y' ∧ cpo n c' = some c ∧ cpo n x' = some x ∧ cpo n y' = some y := by
  obtain ⟨dst, op, type, pos, after, guard⟩ := o
  cases op <;> simp only [cop, c1, c2, cO, cgen] at h
  case pick c' x' y' =>
    refine ⟨c', x', y', rfl, ?_⟩
    split at h <;> try (cases h; done)
    rename_i c0 hc
    split at h <;> try (cases h; done)
    rename_i x0 hx
    split at h <;> try (cases h; done)
    rename_i y0 hy
    cases h
    exact ⟨hc, hx, hy⟩
  all_goals first
    | ((repeat' split at h) <;> cases h; done)
    | ((repeat' split at h) <;> simp_all; done)
theorem cop_call {o : Oper} {f : Opd} {l : List Opd} (h : cop P n o = .call f l) : ∃ c f', o.op = .call c ∧ c.callee = .value f' ∧ cpo n f' = some f ∧ cpl n c.args.toList = some l := by
  obtain ⟨dst, op, type, pos, after, guard⟩ := o
  cases op <;> simp only [cop, c1, c2, cO, cgen] at h
  case call c =>
    obtain ⟨callee, args, argTypes⟩ := c
    simp only at h
    cases callee with
    | value f' =>
      simp only at h
      split at h <;> try (cases h; done)
      rename_i f0 hf
      split at h <;> try (cases h; done)
      rename_i l0 hl
      split at h <;> try (cases h; done)
      cases h
      exact ⟨_, f', rfl, rfl, hf, hl⟩
    | invoke r m => cases h
    | builtin b => cases b <;> simp only at h <;> (repeat' split at h) <;> cases h
  all_goals first
    | ((repeat' split at h) <;> cases h; done)
    | ((repeat' split at h) <;> simp_all; done)

theorem cop_callS {o : Oper} {ks : List CK} {e : TypeId} {f : Opd} {l : List Opd} (h : cop P n o = .callS ks e f l) : ∃ c f', o.op = .call c ∧ c.callee = .value f' ∧ cpo n f' = some f ∧ cpl n c.args.toList = some l := by
  obtain ⟨dst, op, type, pos, after, guard⟩ := o
  cases op <;> simp only [cop, c1, c2, cO, cgen] at h
  case call c =>
    obtain ⟨callee, args, argTypes⟩ := c
    simp only at h
    cases callee with
    | value f' =>
      simp only at h
      split at h <;> try (cases h; done)
      rename_i f0 hf
      split at h <;> try (cases h; done)
      rename_i l0 hl
      split at h <;> try (cases h; done)
      cases h
      exact ⟨_, f', rfl, rfl, hf, hl⟩
    | invoke r m => cases h
    | builtin b => cases b <;> simp only at h <;> (repeat' split at h) <;> cases h
  all_goals first
    | ((repeat' split at h) <;> cases h; done)
    | ((repeat' split at h) <;> simp_all; done)

theorem target_ok {st : St} {a : Act} {o : Oper} {f : Opd} {l : List Opd} {i : Nat} {as : List S} (hr : Rep p w0 n g st a w) (hc : ∃ c f', o.op = .call c ∧ c.callee = .value f' ∧ cpo n f' = some f ∧ cpl n c.args.toList = some l) (ht : target st.sl f l = some (i, as)) :
    ∃ vals : List Value, All2 (DS g w) as vals ∧ (IsFn P i → ∀ w, (execOp a.eval o).run P w = .ok (.enter i vals.toArray) w) ∧ (∀ e, ExtFn P i e → ∀ w, (execOp a.eval o).run P w = ((e vals.toArray).run P w).andThen fun v w' => .ok (.value v) w') := by
  obtain ⟨c, f', ho, hcal, hf, hl⟩ := hc
  have hfv := hr.opd hf
  have hlv := cpl_ok hr hl
  have mapof : ∀ vs : List Value, All2 (DS g w) (vs.map ofV) vs := fun vs => All2.mapl ofV (fun v => ofV_ok v) vs
  unfold target at ht
  split at ht <;> try (cases ht; done)
  · rename_i j first captured hv
    simp only [Option.some.injEq, Prod.mk.injEq] at ht
    obtain ⟨rfl, rfl⟩ := ht
    rw [hv] at hfv
    have hfv : a.eval f' = .func (.func j) first captured := hfv
    have harr : first ++ c.args.map a.eval ++ captured = (first.toList ++ (c.args.toList.map a.eval ++ captured.toList)).toArray := by
      apply Array.ext'
      simp
    refine ⟨first.toList ++ (c.args.toList.map a.eval ++ captured.toList), (mapof _).app (hlv.app (mapof _)), ?_, ?_⟩
    rotate_left
    · rintro e ⟨fn, h1, h2, h3, h4, h5⟩ w
      simp only [execOp, ho, resolve, hcal, Sem.run_bind, hfv, Deferred.ofValue, Sem.run_pure, Result.andThen_ok, invoke, run_callFunc_extern h1 h2 h3 h4 h5, harr]
    rintro ⟨fn, b, h1, h2, h3⟩ w
    simp only [execOp, ho, resolve, hcal, Sem.run_bind, hfv, Deferred.ofValue, Sem.run_pure, Result.andThen_ok, invoke, callFunc, run_program, h1, h3, h2, Bool.false_eq_true, if_false, Option.isNone_some, harr]
  · rename_i j caps hv
    simp only [Option.some.injEq, Prod.mk.injEq] at ht
    obtain ⟨rfl, rfl⟩ := ht
    rw [hv] at hfv
    obtain ⟨vs, hfv, hcaps⟩ := hfv
    have hcaps' : All2 (DS g w) (caps.map sc) vs := by
      clear hfv hv
      induction caps generalizing vs with
      | nil => rw [hcaps.nil_left]; trivial
      | cons c caps ih => obtain ⟨v, vs, rfl, h1, h2⟩ := hcaps.cons_left; exact ⟨h1, ih vs h2⟩
    have harr : #[] ++ c.args.map a.eval ++ vs.toArray = (c.args.toList.map a.eval ++ vs).toArray := by
      apply Array.ext'
      simp
    refine ⟨c.args.toList.map a.eval ++ vs, hlv.app hcaps', ?_, ?_⟩
    rotate_left
    · rintro e ⟨fn, h1, h2, h3, h4, h5⟩ w
      simp only [execOp, ho, resolve, hcal, Sem.run_bind, hfv, Deferred.ofValue, Sem.run_pure, Result.andThen_ok, invoke, run_callFunc_extern h1 h2 h3 h4 h5, harr]
    rintro ⟨fn, b, h1, h2, h3⟩ w
    simp only [execOp, ho, resolve, hcal, Sem.run_bind, hfv, Deferred.ofValue, Sem.run_pure, Result.andThen_ok, invoke, callFunc, run_program, h1, h3, h2, Bool.false_eq_true, if_false, Option.isNone_some, harr]

theorem run_pick {o : Oper} {e : Operand → Value} {c x y : Operand} {b : Bool} (ho : o.op = .pick c x y) (hb : e c = .bool b) (w : World) :
    (execOp e o).run P w = .ok (.value (bif b then e x else e y)) w := by
  cases b <;> simp [execOp, ho, hb, asBool]

theorem cop_fa {o : Oper} {op : BinOp} {x y : Opd} (h : cop P n o = .fa op x y) : ∃ t x' y' yt, o.op = .binOp op t x' y' yt ∧ isAr op = true ∧ cpo n x' = some x ∧ cpo n y' = some y := by
  obtain ⟨dst, o, type, pos, after, guard⟩ := o
  cases o <;> simp only [cop, c1, c2, cO, cgen] at h
  case binOp op t x' y' yt =>
    split at h
    all_goals try ((repeat' split at h) <;> cases h; done)
    split at h
    · rename_i har
      split at h <;> try (cases h; done)
      rename_i a ha
      split at h <;> try (cases h; done)
      rename_i b hb
      cases h
      exact ⟨_, _, _, _, rfl, har, ha, hb⟩
    · (repeat' split at h) <;> cases h
  case call c =>
    obtain ⟨callee, args, argTypes⟩ := c
    simp only at h
    cases callee with
    | value f' => simp only at h; (repeat' split at h) <;> cases h
    | invoke r m => cases h
    | builtin b => cases b <;> simp only at h <;> (repeat' split at h) <;> cases h
  all_goals first
    | ((repeat' split at h) <;> cases h; done)
    | ((repeat' split at h) <;> simp_all; done)
theorem cop_mm {o : Oper} {m : Bool} {x y : Opd} (h : cop P n o = .mm m x y) : ∃ x' y' ts, o.op = .call ⟨.builtin (match m with
    | true => .max
    | false => .min), #[x', y'], ts⟩ ∧ cpo n x' = some x ∧ cpo n y' = some y := by
  obtain ⟨dst, o, type, pos, after, guard⟩ := o
  cases o <;> simp only [cop, c1, c2, cO, cgen] at h
  case call c =>
    obtain ⟨callee, args, argTypes⟩ := c
    simp only at h
    cases callee with
    | value f' => simp only at h; (repeat' split at h) <;> cases h
    | invoke r m => cases h
    | builtin b =>
      cases b <;> simp only at h
      case max =>
        split at h <;> try (cases h; done)
        rename_i x0 y0 hargs
        have ha : args = #[x0, y0] := by apply Array.ext'; simpa using hargs
        subst ha
        split at h <;> try (cases h; done)
        rename_i a ha
        split at h <;> try (cases h; done)
        rename_i b hb
        cases h
        exact ⟨_, _, _, rfl, ha, hb⟩
      case min =>
        split at h <;> try (cases h; done)
        rename_i x0 y0 hargs
        have ha : args = #[x0, y0] := by apply Array.ext'; simpa using hargs
        subst ha
        split at h <;> try (cases h; done)
        rename_i a ha
        split at h <;> try (cases h; done)
        rename_i b hb
        cases h
        exact ⟨_, _, _, rfl, ha, hb⟩
      all_goals ((repeat' split at h) <;> cases h)
  all_goals first
    | ((repeat' split at h) <;> cases h; done)
    | ((repeat' split at h) <;> simp_all; done)
theorem cut_nan (q : Question) (t : Nat) (h : (∃ a b, q = .nanBits .f64 a b) ∨ (∃ m a b, q = .nanMinMax .f64 m a b)) : nanW (q.cut t) := by
  have key : nanW (t % 2 * 2 ^ 63 + 0x7ff0000000000000 + 1 + t / 2 % (2 ^ 52 - 1)) := by
    unfold nanW
    have h2 : t / 2 % (2 ^ 52 - 1) < 2 ^ 52 - 1 := Nat.mod_lt _ (by decide)
    generalize t / 2 % (2 ^ 52 - 1) = z at *
    rcases Nat.mod_two_eq_zero_or_one t with h | h <;> rw [h] <;> omega
  rcases h with ⟨a, b, rfl⟩ | ⟨m, a, b, rfl⟩ <;> exact key
theorem run_fa {o : Oper} {e : Operand → Value} {op : BinOp} {t : TypeId} {x y : Operand} {yt : TypeId} {a b : Nat} (ho : o.op = .binOp op t x y yt) (har : isAr op = true) (e1 : e x = .float .f64 a) (e2 : e y = .float .f64 b) (w : World) :
    ∃ r w', (execOp e o).run P w = .ok (.value (.float .f64 r)) w' ∧ KeepFr (.ar op) a b r ∧ Below w.heap.size w w' := by
  cases hb : floatBits op .f64 a b with
  | some r =>
    refine ⟨r, w, ?_, by simp [KeepFr, fqBits, hb], Below.refl _ _⟩
    have := run_float_arith (P := P) w op t .f64 a b r hb
    cases op <;> simp [isAr] at har <;> simp only [execOp, ho, e1, e2, eqGuard, Sem.run_bind] <;> simp_all
  | none =>
    refine ⟨(Question.nanBits .f64 a b).cut (w.tape w.drawn (.nanBits .f64 a b)), w.drew, ?_, ?_, Below.drew (Below.refl _ _)⟩
    · cases op <;> simp [isAr] at har <;> simp only [floatBits] at hb <;> simp [execOp, ho, e1, e2, eqGuard, binOp, Op.floatArith, hb, Question.forced]
    · simp only [KeepFr, fqBits, hb]
      exact cut_nan _ _ (.inl ⟨_, _, rfl⟩)
theorem run_mm {o : Oper} {e : Operand → Value} {m : Bool} {x y : Operand} {ts : Array TypeId} {a b : Nat} (ho : o.op = .call ⟨.builtin (match m with
    | true => .max
    | false => .min), #[x, y], ts⟩) (e1 : e x = .float .f64 a) (e2 : e y = .float .f64 b) (w : World) :
    ∃ r w', (execOp e o).run P w = .ok (.value (.float .f64 r)) w' ∧ KeepFr (.mx m) a b r ∧ Below w.heap.size w w' := by
  have hf : FloatKind.f64.format = Ieee.double := rfl
  cases hc : Ieee.double.order a b with
  | none =>
    refine ⟨(Question.nanMinMax .f64 m a b).cut (w.tape w.drawn (.nanMinMax .f64 m a b)), w.drew, ?_, ?_, Below.drew (Below.refl _ _)⟩
    · cases m <;> simp [execOp, ho, resolve, invoke, builtin, Builtin.max_, Builtin.max2, Builtin.min_, Builtin.min2, e1, e2, hf, hc, Question.forced]
    · simp only [KeepFr, fqBits, mmBits, hc]
      exact cut_nan _ _ (.inr ⟨_, _, _, rfl⟩)
  | some c =>
    cases c with
    | lt =>
      cases m
      · exact ⟨a, w, by simp [execOp, ho, resolve, invoke, builtin, Builtin.min_, Builtin.min2, e1, e2, hf, hc], by simp [KeepFr, fqBits, mmBits, hc], Below.refl _ _⟩
      · exact ⟨b, w, by simp [execOp, ho, resolve, invoke, builtin, Builtin.max_, Builtin.max2, e1, e2, hf, hc], by simp [KeepFr, fqBits, mmBits, hc], Below.refl _ _⟩
    | gt =>
      cases m
      · exact ⟨b, w, by simp [execOp, ho, resolve, invoke, builtin, Builtin.min_, Builtin.min2, e1, e2, hf, hc], by simp [KeepFr, fqBits, mmBits, hc], Below.refl _ _⟩
      · exact ⟨a, w, by simp [execOp, ho, resolve, invoke, builtin, Builtin.max_, Builtin.max2, e1, e2, hf, hc], by simp [KeepFr, fqBits, mmBits, hc], Below.refl _ _⟩
    | eq =>
      cases m
      · exact ⟨if (FloatKind.f64.decode a).neg then a else b, w, by simp [execOp, ho, resolve, invoke, builtin, Builtin.min_, Builtin.min2, e1, e2, hf, hc], by simp [KeepFr, fqBits, mmBits, hc], Below.refl _ _⟩
      · exact ⟨if (FloatKind.f64.decode a).neg then b else a, w, by simp [execOp, ho, resolve, invoke, builtin, Builtin.max_, Builtin.max2, e1, e2, hf, hc], by simp [KeepFr, fqBits, mmBits, hc], Below.refl _ _⟩

theorem doC_false (hh : HookOK P hk) (hi : InlOK P inl) {N : Nat} {st : St} {a : Act} {j : Nat} {o : Oper} {gg : Option (Option Pa × Bool)} {k : St → Prop} {K : Act → World → Prop} {Q : Exit → Act → World → Prop}
    (h : doC P hk inl false N ⟨optP o.dst, gg, cop P n o⟩ j st k) (hr : Rep p w0 n g st a w) (hd : dOk n o.dst) (hK : ∀ g' st' v w', k st' → Rep p w0 n g' st' (a.put o.dst v) w' → Ext g w g' w' → K (a.put o.dst v) w') : o.wp P a w K Q := by
  have eff : (match effC P st.sl st.bl (st.nx + j) (cop P n o) with
    | some ef => br ef.p (appK (optP o.dst) ef st k) False
    | none => False) → o.wp P a w K Q := by
    intro h
    split at h <;> try (exact h.elim)
    rename_i ef hef
    obtain ⟨h1, h2⟩ := br_and h
    rw [appK_eq] at h2
    exact effC_wp hef h1 hr hd fun g' v w' hr' hx => hK g' _ v w' h2 hr' hx
  unfold doC at h
  simp only at h
  split at h
  · rename_i c x y hco
    obtain ⟨c', x', y', ho, hc, hx, hy⟩ := cop_pick hco
    split at h <;> try (exact h.elim)
    rename_i b hb
    have hcb := boolS_ok hb (hr.opd hc)
    unfold Oper.wp
    rw [run_pick ho hcb]
    cases b
    · simp only [br, forceS_eq] at h
      exact hK g _ _ _ h (hr.put (Ext.refl _ _) hd (hr.opd hy) hr.mem _) (Ext.refl _ _)
    · simp only [br, forceS_eq] at h
      exact hK g _ _ _ h (hr.put (Ext.refl _ _) hd (hr.opd hx) hr.mem _) (Ext.refl _ _)
  · rename_i f l hco
    split at h <;> try (exact h.elim)
    rename_i i as ht
    obtain ⟨vals, hvals, hrun, hrunx⟩ := target_ok hr (cop_call hco) ht
    rcases hookC_ok h with ⟨r, hR, hk⟩ | ⟨_, h⟩
    · simp only [forceS_eq] at hk
      rcases HookR_ok hh hR with ⟨hf, hc⟩ | ⟨e, he, hc⟩
      · unfold Oper.wp
        rw [hrun hf]
        refine (hc g w vals hr.mem.bound hvals).mono ?_
        rintro e w' ⟨v, rfl, hds, hbel⟩
        exact hK g _ v w' hk (hr.put (ext_below g hbel) hd hds (hr.mem.grow hbel) _) (ext_below g hbel)
      · obtain ⟨v, w', q1, hds, hbel⟩ := hc g w vals hr.mem.bound hvals
        unfold Oper.wp
        rw [hrunx e he, q1]
        exact hK g _ v w' hk (hr.put (ext_below g hbel) hd hds (hr.mem.grow hbel) _) (ext_below g hbel)
    · obtain ⟨hf, hc⟩ := hi _ _ _ _ _ h
      unfold Oper.wp
      rw [hrun hf]
      refine (hc p w0 g w vals hvals hr.mem).mono ?_
      rintro e w' ⟨r, v, bl', nx', g', rfl, hk, hds, hm, hx⟩
      simp only [forceS_eq] at hk
      exact hK g' _ v w' hk (hr.put hx hd hds hm _) hx
  · rename_i ks e0 f l hco
    split at h <;> try (exact h.elim)
    rename_i i as ht
    obtain ⟨vals, hvals, hrun, hrunx⟩ := target_ok hr (cop_callS hco) ht
    rcases hookC_ok h with ⟨r, hR, hk⟩ | ⟨_, h⟩
    · simp only [forceS_eq] at hk
      rcases HookR_ok hh hR with ⟨hf, hc⟩ | ⟨e, he, hc⟩
      · unfold Oper.wp
        rw [hrun hf]
        refine (hc g w vals hr.mem.bound hvals).mono ?_
        rintro e w' ⟨v, rfl, hds, hbel⟩
        exact hK g _ v w' hk (hr.put (ext_below g hbel) hd hds (hr.mem.grow hbel) _) (ext_below g hbel)
      · obtain ⟨v, w', q1, hds, hbel⟩ := hc g w vals hr.mem.bound hvals
        unfold Oper.wp
        rw [hrunx e he, q1]
        exact hK g _ v w' hk (hr.put (ext_below g hbel) hd hds (hr.mem.grow hbel) _) (ext_below g hbel)
    · obtain ⟨hf, hc⟩ := hi _ _ _ _ _ h
      unfold Oper.wp
      rw [hrun hf]
      refine (hc p w0 g w vals hvals hr.mem).mono ?_
      rintro e w' ⟨r, v, bl', nx', g', rfl, hk, hds, hm, hx⟩
      simp only [forceS_eq] at hk
      exact hK g' _ v w' hk (hr.put hx hd hds hm _) hx
  · rename_i op x y hco
    obtain ⟨t, x', y', yt, ho, har, hx, hy⟩ := cop_fa hco
    unfold faK at h
    split at h <;> try (exact h.elim)
    split at h <;> try (exact h.elim)
    rename_i a ha
    split at h <;> try (exact h.elim)
    rename_i b hb
    have e1 := fltS_ok ha (hr.opd hx)
    have e2 := fltS_ok hb (hr.opd hy)
    obtain ⟨r, w', hrun, hkr, hbel⟩ := run_fa (P := P) ho har e1 e2 w
    unfold Oper.wp
    rw [hrun]
    exact hK g _ _ _ (h r hkr) (hr.put (ext_below g hbel) hd (show DS g w' (ofF r) (.float .f64 r) from rfl) (hr.mem.grow hbel) _) (ext_below g hbel)
  · rename_i m x y hco
    split at h
    · obtain ⟨x', y', ts, ho, hx, hy⟩ := cop_mm hco
      unfold faK at h
      split at h <;> try (exact h.elim)
      split at h <;> try (exact h.elim)
      rename_i a ha
      split at h <;> try (exact h.elim)
      rename_i b hb
      have e1 := fltS_ok ha (hr.opd hx)
      have e2 := fltS_ok hb (hr.opd hy)
      obtain ⟨r, w', hrun, hkr, hbel⟩ := run_mm (P := P) ho e1 e2 w
      unfold Oper.wp
      rw [hrun]
      exact hK g _ _ _ (h r hkr) (hr.put (ext_below g hbel) hd (show DS g w' (ofF r) (.float .f64 r) from rfl) (hr.mem.grow hbel) _) (ext_below g hbel)
    · rw [hco] at eff
      exact eff h
  · exact eff h
end
end SY
end Go.Proofs.YtapjehgfekjdaaaDoor
