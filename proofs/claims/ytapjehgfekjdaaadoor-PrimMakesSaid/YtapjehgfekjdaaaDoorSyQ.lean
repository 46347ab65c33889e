/- The symbolic executor: a region that draws its order comes to what its text's order comes to: all of it. No condition. -/
import Derived.Test.YtapjehgfekjdaaaDoorSyO
namespace Go.Proofs.YtapjehgfekjdaaaDoor
open Go.RowKit
namespace SY
section
variable {P : Program} {p : Nat → Nat → Prop} {w0 w : World} {g : G} {n : Nat} {hk : Hooks} {inl : Inl}

/-- What two unordered operations ask of the state, met. -/
def Met (st0 : St) (l : List (Rt × Rt)) : Prop := ∀ q ∈ l, neO (krt st0 q.1) (krt st0 q.2) = true
theorem neO_spec {a b : Option Nat} (h : neO a b = true) {k : Nat} (ha : a = some k) (hb : b = some k) : False := by
  subst ha; subst hb
  simp [neO] at h
theorem needNe_ok {st0 : St} {a b : Rt} {l : List (Rt × Rt)} (h : needNe a b = some l) (hm : Met st0 l) {k : Nat} (ha : krt st0 a = some k) (hb : krt st0 b = some k) : False := by
  unfold needNe at h
  split at h
  · rename_i p q
    split at h
    · cases h
    · rename_i hne
      simp only [krt, Option.some.injEq] at ha hb
      have : p = q := by omega
      subst this
      simp at hne
  · simp only [Option.some.injEq] at h; subst h
    exact neO_spec (hm (a, b) (by simp)) ha hb

theorem apartOk_cons (st : St) (x : Rt × Rt) (l : List (Rt × Rt)) : apartOk st (x :: l) = (neO (krt st x.1) (krt st x.2) && apartOk st l) := rfl
theorem apartOk_met {st0 : St} : ∀ {l : List (Rt × Rt)}, apartOk st0 l = true → Met st0 l
  | [], _, q, hq => by cases hq
  | x :: l, h, q, hq => by
    rw [apartOk_cons, Bool.and_eq_true] at h
    rcases List.mem_cons.1 hq with rfl | hq
    · exact h.1
    · exact apartOk_met h.2 q hq

theorem mk_free {ops : Array Oper} {st0 st : St} (h : Inv ops.toList st0 st) {j i : Nat} {oj oi : Oper} {e1 e2 : Ef} {l : List (Rt × Rt)} (hji : j ≠ i)
    (hm : mkNeed (markO P ops.toList j oj) (markO P ops.toList i oi) = some l) (hmet : Met st0 l)
    (h1 : EffR P n hk inl ops.toList st.sl st.bl (st.nx + j) oj e1) (h2 : EffR P n hk inl ops.toList st.sl (updB st.bl e1.u) (st.nx + i) oi e2) : Free P n hk inl ops st j i oj oi e1 e2 := by
  refine free_of h1 h2 fun f1 f2 k hj hi => ?_
  have mj := mark_ok (P := P) (n := n) (ops := ops) h (j := j) (o := oj)
  have mi := mark_ok (P := P) (n := n) (ops := ops) h (j := i) (o := oi)
  revert hm mj mi
  generalize markO P ops.toList j oj = a
  generalize markO P ops.toList i oi = b
  intro hm mj mi
  -- by what the operations are
  have no1 : clsC (cop P n oj) = .no → False := fun hc => by have := (f1.no hc).1; rw [hj] at this; cases this
  have no2 : clsC (cop P n oi) = .no → False := fun hc => by have := (f2.no hc).1; rw [hi] at this; cases this
  have ldst : ∀ {c : Cls}, (c = .ld ∨ c = .st) → clsC (cop P n oj) = c → ∃ B, lkB (updB st.bl e1.u) k = some B ∧ NT B := by
    intro c hc hcc
    rcases hc with rfl | rfl
    · obtain ⟨u, hB⟩ := f1.ld hcc
      rw [u]; exact hB k hj
    · obtain ⟨⟨B, hB, hn⟩, hu⟩ := f1.st hcc k hj
      rcases updB_cases (bl := st.bl) (u := e1.u) (k := k) with ⟨B', h1, h2⟩ | ⟨h1, h2⟩
      · exact ⟨B', h2, hu B' h1⟩
      · exact ⟨B, by rw [h2]; exact hB, hn⟩
  have need1 : clsC (cop P n oi) = .ld ∨ clsC (cop P n oi) = .st → ∃ B, lkB (updB st.bl e1.u) k = some B ∧ NT B := by
    rintro (hc | hc)
    · exact (f2.ld hc).2 k hi
    · exact (f2.st hc k hi).1
  have alB : clsC (cop P n oj) = .al → ∃ B, lkB (updB st.bl e1.u) k = some B ∧ NT B := fun hc => by
    obtain ⟨q1, q2, B, q3, q4⟩ := f1.al hc
    rw [hj] at q1; cases q1
    exact ⟨B, by rw [q3]; exact updB_same, q4⟩
  have ntB : clsC (cop P n oj) = .nt → ∃ e i, lkB (updB st.bl e1.u) k = some (.tok e i) := fun hc => by
    obtain ⟨q1, q2, e, i, q3⟩ := f1.nt hc
    rw [hj] at q1; cases q1
    exact ⟨e, i, by rw [q3]; exact updB_same⟩
  have tkB : clsC (cop P n oj) = .tk → ∃ e i, lkB (updB st.bl e1.u) k = some (.tok e i) := fun hc => by
    obtain ⟨k', e, i, q1, q2, q3⟩ := f1.tk hc
    rw [hj] at q1; cases q1
    exact ⟨e, i, by rw [q2]; exact updB_same⟩
  have newI : clsC (cop P n oi) = .al ∨ clsC (cop P n oi) = .nt → lkB (updB st.bl e1.u) k = none := by
    rintro (hc | hc)
    · obtain ⟨q1, q2, _⟩ := f2.al hc
      rw [hi] at q1; cases q1; exact q2
    · obtain ⟨q1, q2, _⟩ := f2.nt hc
      rw [hi] at q1; cases q1; exact q2
  have tkI : clsC (cop P n oi) = .tk → (∃ B, lkB (updB st.bl e1.u) k = some B ∧ NT B) → False := by
    intro hc ⟨B, hB, hn⟩
    obtain ⟨k', e, i, q1, _, q3⟩ := f2.tk hc
    rw [hi] at q1; cases q1
    rcases q3 with ⟨e', i', q3⟩ | ⟨_, q3⟩
    · rw [hB] at q3; cases q3; exact hn _ _ rfl
    · rw [hB] at q3; cases q3
  have clash : (∃ e i, lkB (updB st.bl e1.u) k = some (.tok e i)) → (∃ B, lkB (updB st.bl e1.u) k = some B ∧ NT B) → False := by
    rintro ⟨e, i, q⟩ ⟨B, hB, hn⟩
    rw [q] at hB; cases hB; exact hn _ _ rfl
  have someNone : (∃ B, lkB (updB st.bl e1.u) k = some B) → lkB (updB st.bl e1.u) k = none → False := by
    rintro ⟨B, hB⟩ hN
    rw [hB] at hN; cases hN
  have ldu1 : clsC (cop P n oj) = .ld → e1.u = none := fun hc => (f1.ld hc).1
  have ldu2 : clsC (cop P n oi) = .ld → e2.u = none := fun hc => (f2.ld hc).1
  have keyJ : clsC (cop P n oj) = .al → krt st0 (.mk j) = some k := fun hc => by
    obtain ⟨q1, _⟩ := f1.al hc
    rw [hj] at q1
    simp only [krt, ← h.nx]
    exact q1.symm
  cases a <;> cases b <;> simp only [mkNeed, Option.some.injEq] at hm <;> simp only [MarkOK] at mj mi <;> try (cases hm; done)
  case no.no => exact (no1 mj).elim
  case no.rd => exact (no1 mj).elim
  case no.ru => exact (no1 mj).elim
  case no.wr => exact (no1 mj).elim
  case no.al => exact (no1 mj).elim
  case no.un => exact (no1 mj).elim
  case no.tk => exact (no1 mj).elim
  case no.nt => exact (no1 mj).elim
  case rd.no => exact (no2 mi).elim
  case ru.no => exact (no2 mi).elim
  case wr.no => exact (no2 mi).elim
  case al.no => exact (no2 mi).elim
  case un.no => exact (no2 mi).elim
  case tk.no => exact (no2 mi).elim
  case nt.no => exact (no2 mi).elim
  case rd.rd => exact ⟨ldu1 (mj.1.resolve_left no1), ldu2 (mi.1.resolve_left no2)⟩
  case rd.ru => exact ⟨ldu1 (mj.1.resolve_left no1), ldu2 (mi.resolve_left no2)⟩
  case ru.rd => exact ⟨ldu1 (mj.resolve_left no1), ldu2 (mi.1.resolve_left no2)⟩
  case ru.ru => exact ⟨ldu1 (mj.resolve_left no1), ldu2 (mi.resolve_left no2)⟩
  case rd.wr => exact (needNe_ok hm hmet (mj.2 k hj) (mi.2 k hi)).elim
  case wr.rd => exact (needNe_ok hm hmet (mj.2 k hj) (mi.2 k hi)).elim
  case wr.wr => exact (needNe_ok hm hmet (mj.2 k hj) (mi.2 k hi)).elim
  case al.rd => rw [mj.2] at hm; exact (needNe_ok hm hmet (keyJ (mj.1.resolve_left no1)) (mi.2 k hi)).elim
  case al.wr => rw [mj.2] at hm; exact (needNe_ok hm hmet (keyJ (mj.1.resolve_left no1)) (mi.2 k hi)).elim
  case al.al => exact (someNone ((alB (mj.1.resolve_left no1)).imp fun _ h => h.1) (newI (.inl (mi.1.resolve_left no2)))).elim
  case rd.al => exact (someNone ((ldst (.inl rfl) (mj.1.resolve_left no1)).imp fun _ h => h.1) (newI (.inl (mi.1.resolve_left no2)))).elim
  case ru.al => exact (someNone ((ldst (.inl rfl) (mj.resolve_left no1)).imp fun _ h => h.1) (newI (.inl (mi.1.resolve_left no2)))).elim
  case wr.al => exact (someNone ((ldst (.inr rfl) (mj.1.resolve_left no1)).imp fun _ h => h.1) (newI (.inl (mi.1.resolve_left no2)))).elim
  case un.al => exact (someNone ((ldst (.inr rfl) (mj.resolve_left no1)).imp fun _ h => h.1) (newI (.inl (mi.1.resolve_left no2)))).elim
  case rd.tk => exact (tkI (mi.resolve_left no2) (ldst (.inl rfl) (mj.1.resolve_left no1))).elim
  case ru.tk => exact (tkI (mi.resolve_left no2) (ldst (.inl rfl) (mj.resolve_left no1))).elim
  case wr.tk => exact (tkI (mi.resolve_left no2) (ldst (.inr rfl) (mj.1.resolve_left no1))).elim
  case un.tk => exact (tkI (mi.resolve_left no2) (ldst (.inr rfl) (mj.resolve_left no1))).elim
  case al.tk => exact (tkI (mi.resolve_left no2) (alB (mj.1.resolve_left no1))).elim
  case tk.rd => exact (clash (tkB (mj.resolve_left no1)) (need1 (.inl (mi.1.resolve_left no2)))).elim
  case tk.ru => exact (clash (tkB (mj.resolve_left no1)) (need1 (.inl (mi.resolve_left no2)))).elim
  case tk.wr => exact (clash (tkB (mj.resolve_left no1)) (need1 (.inr (mi.1.resolve_left no2)))).elim
  case tk.un => exact (clash (tkB (mj.resolve_left no1)) (need1 (.inr (mi.resolve_left no2)))).elim
  case tk.al => exact (someNone ((tkB (mj.resolve_left no1)).elim fun _ ⟨_, h⟩ => ⟨_, h⟩) (newI (.inl (mi.1.resolve_left no2)))).elim
  case tk.nt => exact (someNone ((tkB (mj.resolve_left no1)).elim fun _ ⟨_, h⟩ => ⟨_, h⟩) (newI (.inr (mi.resolve_left no2)))).elim
  case nt.rd => exact (clash (ntB (mj.resolve_left no1)) (need1 (.inl (mi.1.resolve_left no2)))).elim
  case nt.ru => exact (clash (ntB (mj.resolve_left no1)) (need1 (.inl (mi.resolve_left no2)))).elim
  case nt.wr => exact (clash (ntB (mj.resolve_left no1)) (need1 (.inr (mi.1.resolve_left no2)))).elim
  case nt.un => exact (clash (ntB (mj.resolve_left no1)) (need1 (.inr (mi.resolve_left no2)))).elim
  case nt.al => exact (someNone ((ntB (mj.resolve_left no1)).elim fun _ ⟨_, h⟩ => ⟨_, h⟩) (newI (.inl (mi.1.resolve_left no2)))).elim
  case nt.nt => exact (someNone ((ntB (mj.resolve_left no1)).elim fun _ ⟨_, h⟩ => ⟨_, h⟩) (newI (.inr (mi.resolve_left no2)))).elim
  case rd.nt => exact (someNone ((ldst (.inl rfl) (mj.1.resolve_left no1)).imp fun _ h => h.1) (newI (.inr (mi.resolve_left no2)))).elim
  case ru.nt => exact (someNone ((ldst (.inl rfl) (mj.resolve_left no1)).imp fun _ h => h.1) (newI (.inr (mi.resolve_left no2)))).elim
  case wr.nt => exact (someNone ((ldst (.inr rfl) (mj.1.resolve_left no1)).imp fun _ h => h.1) (newI (.inr (mi.resolve_left no2)))).elim
  case un.nt => exact (someNone ((ldst (.inr rfl) (mj.resolve_left no1)).imp fun _ h => h.1) (newI (.inr (mi.resolve_left no2)))).elim
  case al.nt => exact (someNone ((alB (mj.1.resolve_left no1)).imp fun _ h => h.1) (newI (.inr (mi.resolve_left no2)))).elim

/-- Operations run one behind the other. -/
def Runs (P : Program) (n : Nat) (hk : Hooks) (inl : Inl) (ops : Array Oper) : List Nat → St → St → Prop
  | [], st, sf => st = sf
  | j :: l, st, sf => ∃ o ef, ops[j]? = some o ∧ EffR P n hk inl ops.toList st.sl st.bl (st.nx + j) o ef ∧ Runs P n hk inl ops l (appE (optP o.dst) ef st) sf

/-- Operation i comes to the front. -/
theorem bubble {ops : Array Oper} {st0 sf : St} {i : Nat} {oi : Oper} (hi : ops[i]? = some oi) {post : List Nat} :
    ∀ (pre : List Nat) (st : St), (∀ j ∈ pre, j ≠ i ∧ ∀ oj, ops[j]? = some oj → oj.apart ops oi = true ∧ ∃ l, mkNeed (markO P ops.toList j oj) (markO P ops.toList i oi) = some l ∧ Met st0 l) →
      Inv ops.toList st0 st → Runs P n hk inl ops (pre ++ i :: post) st sf → ∃ ef, EffR P n hk inl ops.toList st.sl st.bl (st.nx + i) oi ef ∧ Runs P n hk inl ops (pre ++ post) (appE (optP oi.dst) ef st) sf
  | [], st, _, _, h => by
    obtain ⟨o, ef, ho, he, hr⟩ := h
    rw [hi] at ho
    cases ho
    exact ⟨ef, he, hr⟩
  | j :: pre, st, hp, hinv, h => by
    obtain ⟨oj, e1, hj, he1, hr⟩ := h
    obtain ⟨e2, he2, hr2⟩ := bubble hi pre _ (fun j' hj' => hp j' (by simp [hj'])) (hinv.app hj he1) hr
    obtain ⟨hne, hpj⟩ := hp j (by simp)
    obtain ⟨h1, l, h2, h3⟩ := hpj oj hj
    have he2' : EffR P n hk inl ops.toList (appE (optP oj.dst) e1 st).sl (appE (optP oj.dst) e1 st).bl (st.nx + i) oi e2 := he2
    obtain ⟨s1, s2, s3⟩ := swap h1 (mk_free hinv hne h2 h3 he1 (later_slots h1 he2'))
    refine ⟨e2, s1, oj, e1, hj, s2, ?_⟩
    rw [s3]
    exact hr2

theorem aheadP_spec {ops : Array Oper} {i : Nat} {oi : Oper} : ∀ {l : List Oper} {j0 : Nat} {ps : List (Rt × Rt)}, aheadP P ops i oi j0 l = some ps →
    ∀ (m : Nat) o, l[m]? = some o → j0 + m < i → reachO ops 3 oi (j0 + m) = true ∨ (o.apart ops oi = true ∧ ∃ q, mkNeed (markO P ops.toList (j0 + m) o) (markO P ops.toList i oi) = some q ∧ ∀ x ∈ q, x ∈ ps)
  | [], j0, ps, _, m, o, h, _ => by simp at h
  | x :: l, j0, ps, h, m, o, hn, hlt => by
    simp only [aheadP] at h
    have hb : Nat.blt j0 i = true := by
      rw [Nat.blt_eq]; omega
    rw [hb] at h
    dsimp only at h
    have sub : ∀ {qs : List (Rt × Rt)}, aheadP P ops i oi (j0 + 1) l = some qs → (∀ x ∈ qs, x ∈ ps) → ∀ m', m = m' + 1 → reachO ops 3 oi (j0 + m) = true ∨ (o.apart ops oi = true ∧ ∃ q, mkNeed (markO P ops.toList (j0 + m) o) (markO P ops.toList i oi) = some q ∧ ∀ x ∈ q, x ∈ ps) := by
      intro qs hq hs m' hm
      subst hm
      have := aheadP_spec hq m' o (by simpa using hn) (by omega)
      rw [show j0 + 1 + m' = j0 + (m' + 1) from by omega] at this
      exact this.imp id fun ⟨h1, q, h2, h3⟩ => ⟨h1, q, h2, fun x hx => hs x (h3 x hx)⟩
    split at h
    · rename_i he
      cases m with
      | zero => simp at hn; subst hn; exact .inl (by unfold reachO; rw [show j0 + 0 = j0 from rfl, he]; rfl)
      | succ m => exact sub h (fun _ hp => hp) m rfl
    · split at h
      · rename_i q hneed
        unfold needO at hneed
        split at hneed <;> try (cases hneed; done)
        rename_i ha
        split at h <;> try (cases h; done)
        rename_i r hr
        simp only [Option.some.injEq] at h; subst h
        cases m with
        | zero => simp at hn; subst hn; exact .inr ⟨ha, q, hneed, fun x hx => by simp [hx]⟩
        | succ m => exact sub hr (fun _ hp => by simp [hp]) m rfl
      · split at h <;> try (cases h; done)
        rename_i he
        cases m with
        | zero => simp at hn; subst hn; exact .inl he
        | succ m => exact sub h (fun _ hp => hp) m rfl

theorem allP_spec {ops : Array Oper} : ∀ {l : List Oper} {i0 : Nat} {ps : List (Rt × Rt)}, allP P ops i0 l = some ps →
    ∀ (m : Nat) o, l[m]? = some o → backOk (i0 + m) o = true ∧ ∃ qs, aheadP P ops (i0 + m) o 0 ops.toList = some qs ∧ ∀ p ∈ qs, p ∈ ps
  | [], i0, ps, _, m, o, h => by simp at h
  | x :: l, i0, ps, h, m, o, hn => by
    simp only [allP] at h
    split at h <;> try (cases h; done)
    rename_i hbk
    split at h <;> try (cases h; done)
    rename_i r hr
    split at h <;> try (cases h; done)
    rename_i r' hr'
    cases h
    cases m with
    | zero => simp at hn; subst hn; exact ⟨hbk, r, hr, fun p hp => by simp [hp]⟩
    | succ m =>
      obtain ⟨h1, qs, h2, h3⟩ := allP_spec hr' m o (by simpa using hn)
      rw [show i0 + 1 + m = i0 + (m + 1) from by omega] at h1 h2
      exact ⟨h1, qs, h2, fun p hp => by simp [h3 p hp]⟩

theorem edge_of {o : Oper} {e : Edge} (he : e ∈ o.after) (hb : Region.binds .any e = true) : edge o e.on = true := by
  simp only [edge, List.any_eq_true]
  exact ⟨e, by simpa using he, by simp [hb]⟩
theorem getD_lt {listed : Array Bool} {i : Nat} (h : i < listed.size) (d d' : Bool) : listed.getD i d = listed.getD i d' := by
  simp [h]

/-! ### Effects, and the machine -/

theorem RunR_wp (hh : HookOK P hk) (hi : InlOK P inl) {st : St} {a : Act} {key : Nat} {o : Oper} {ef : Ef} {K : Act → World → Prop} {Q : Exit → Act → World → Prop} (h : RunR P n hk inl st.sl st.bl key o ef) (hr : Rep p w0 n g st a w) (hd : dOk n o.dst)
    (hK : ∀ g' v w', Rep p w0 n g' (appE (optP o.dst) ef st) (a.put o.dst v) w' → Ext g w g' w' → K (a.put o.dst v) w') : o.wp P a w K Q := by
  unfold RunR at h
  split at h
  · rename_i c x y hco
    obtain ⟨b, hb, rfl⟩ := h
    obtain ⟨c', x', y', ho, hc, hx, hy⟩ := cop_pick hco
    have hcb := boolS_ok hb (hr.opd hc)
    unfold Oper.wp
    rw [run_pick ho hcb]
    refine hK g _ _ (hr.put (Ext.refl _ _) hd ?_ hr.mem _) (Ext.refl _ _)
    cases b
    · exact hr.opd hy
    · exact hr.opd hx
  · rename_i f l hco
    obtain ⟨i, as, r, ht, hC, rfl⟩ := h
    obtain ⟨vals, hvals, hrun, hrunx⟩ := target_ok hr (cop_call hco) ht
    unfold Oper.wp
    rcases hC with hR | hI
    · rcases HookR_ok hh hR with ⟨hf, hc⟩ | ⟨e, he, hc⟩
      · rw [hrun hf]
        refine (hc g w vals hr.mem.bound hvals).mono ?_
        rintro e w' ⟨v, rfl, hds, hbel⟩
        exact hK g v w' (hr.put (ext_below g hbel) hd hds (hr.mem.grow hbel) _) (ext_below g hbel)
      · obtain ⟨v, w', q1, hds, hbel⟩ := hc g w vals hr.mem.bound hvals
        rw [hrunx e he, q1]
        exact hK g v w' (hr.put (ext_below g hbel) hd hds (hr.mem.grow hbel) _) (ext_below g hbel)
    · obtain ⟨hf, hc⟩ := iso_ok hi.zero hI
      rw [hrun hf]
      refine (hc g w vals hr.mem.bound hvals).mono ?_
      rintro e w' ⟨r', v, rfl, rfl, hds, hbel⟩
      exact hK g v w' (hr.put (ext_below g hbel) hd hds (hr.mem.grow hbel) _) (ext_below g hbel)
  · rename_i ks e0 f l hco
    obtain ⟨i, as, r, hnone, ht, hC, rfl⟩ := h
    obtain ⟨vals, hvals, hrun, hrunx⟩ := target_ok hr (cop_callS hco) ht
    have fin : ∀ v w', DS g w' r v → Below w.heap.size w w' → K (a.put o.dst v) w' := by
      intro v w' hds hbel
      obtain ⟨g', hx, _, _, _, hm⟩ := (hr.mem.grow hbel).tok e0 (key + key) hnone
      have hx' := (ext_below g hbel).trans hx
      exact hK g' v w' (hr.put hx' hd (hx.s _ _ hds) hm _) hx'
    unfold Oper.wp
    rcases hC with hR | hI
    · rcases HookR_ok hh hR with ⟨hf, hc⟩ | ⟨e, he, hc⟩
      · rw [hrun hf]
        refine (hc g w vals hr.mem.bound hvals).mono ?_
        rintro e w' ⟨v, rfl, hds, hbel⟩
        exact fin v w' hds hbel
      · obtain ⟨v, w', q1, hds, hbel⟩ := hc g w vals hr.mem.bound hvals
        rw [hrunx e he, q1]
        exact fin v w' hds hbel
    · obtain ⟨hf, hc⟩ := isoT_ok hi.zero hI
      rw [hrun hf]
      refine (hc g w vals hr.mem.bound hvals).mono ?_
      rintro e w' ⟨r', v, rfl, rfl, hrt, hbel⟩
      rcases hrt with hds | ⟨xs, a', m, c, q, rfl, rfl, hS, hq, htip⟩
      · exact fin v w' hds hbel
      · obtain ⟨g', hx, h1, h2, h3, hm⟩ := hr.mem.tokOwn e0 (key + key) q hnone hbel hq
        refine hK g' _ w' (hr.put hx hd ?_ hm _) hx
        refine ⟨a', m, c, rfl, hS.cap, hS.most, hS.pos, hS.len, hS.nil, fun A hA => ⟨fun h0 => ?_, (hS.at_ A hA).2⟩, e0, key + key, h1, Nat.le_refl _, fun _ => ?_⟩
        · have hF := (hS.at_ A hA).1 h0
          refine ⟨hF.spot, hF.lt, fun f hf => ?_⟩
          rcases h3 _ f hf with hq' | hl
          · rcases htip with ⟨u1, _⟩ | ⟨A', cur, u1, u2, u3, _⟩
            · rw [u1] at hq'; cases hq'
            · rw [u3] at hq'
              rw [hA] at u1
              cases u1
              simp only [Option.some.injEq, Prod.mk.injEq, true_and] at hq'
              rw [u2.1]; omega
          · exact hF.lim f hl
        · rcases htip with ⟨u1, u2⟩ | ⟨A, cur, u1, u2, u3, u4, u5⟩
          · exact .inl ⟨by rw [h2]; exact u1, u2⟩
          · exact .inr ⟨A, cur, u1, u2, by rw [h2]; exact u3, u4, u5⟩
  · exact effC_wp h.1 h.2 hr hd hK

theorem EffR_wp (hh : HookOK P hk) (hi : InlOK P inl) {ops : Array Oper} (hdst : dstsOk n ops.toList = true) {st : St} {a : Act} {key j : Nat} {o : Oper} {ef : Ef} {K : Act → World → Prop} {Q : Exit → Act → World → Prop}
    (ho : ops[j]? = some o) (h : EffR P n hk inl ops.toList st.sl st.bl key o ef) (hr : Rep p w0 n g st a w) (hK : ∀ g' v w', Rep p w0 n g' (appE (optP o.dst) ef st) (a.put o.dst v) w' → Ext g w g' w' → K (a.put o.dst v) w') : wpOp P ops Q j K a w := by
  have hd := dsts_ok hdst ho
  unfold wpOp
  simp only [ho]
  unfold EffR at h
  split at h
  · rename_i hg
    rw [if_pos (wanted_none hg _)]
    exact .inl (RunR_wp hh hi h hr hd hK)
  · exact h.elim
  · rename_i d want hg
    have hlt := guard_lt hdst hg
    have hsl := hr.sl d hlt
    have hget := getD_get (a := a) (by rw [hr.sz]; exact hlt)
    have hskip : K (a.put o.dst undef) w ∨ ef ≠ skipE := by
      by_cases he : ef = skipE
      · subst he
        exact .inl (hK g undef w (skip_ok hr hd) (Ext.refl _ _))
      · exact .inr he
    rcases h with ⟨b, hs, h⟩ | ⟨hs, rfl⟩
    · rw [hs] at hsl
      have hv : a.tmps.getD d undef = .bool b := hsl
      rw [hv] at hget
      rw [wanted_some hg hget]
      rcases h with ⟨rfl, h⟩ | ⟨hne, rfl⟩
      · rw [if_pos (by simp)]
        exact .inl (RunR_wp hh hi h hr hd hK)
      · rw [if_neg (by simpa using hne)]
        exact hskip.resolve_right fun h => h rfl
    · rw [hs] at hsl
      obtain ⟨vs, hv, hvs⟩ := hsl
      rw [hvs.nil_left] at hv
      rw [hv] at hget
      rw [wanted_undef hg hget]
      rw [if_neg (by simp)]
      exact hskip.resolve_right fun h => h rfl

/-- What is bound to come before an operation that is ready is done. -/
theorem reach_listed {ops : Array Oper} {listed : Array Bool} (hcl : ∀ m o, ops[m]? = some o → listed.getD m false = true → ∀ e ∈ o.after, Region.binds .any e = true → listed.getD e.on false = true) :
    ∀ (f : Nat) (o : Oper) (j : Nat), (∀ e ∈ o.after, Region.binds .any e = true → listed.getD e.on false = true) → reachO ops f o j = true → listed.getD j false = true
  | f, o, j, ho, h => by
    have one : edge o j = true → listed.getD j false = true := by
      intro h
      simp only [edge, List.any_eq_true, Bool.and_eq_true] at h
      obtain ⟨e, hem, hb, hon⟩ := h
      have hon := Nat.eq_of_beq_eq_true hon
      subst hon
      exact ho e (by simpa using hem) hb
    cases f with
    | zero => exact one h
    | succ f =>
      unfold reachO at h
      simp only [Bool.or_eq_true, List.any_eq_true, Bool.and_eq_true] at h
      rcases h with h | ⟨e, hem, hb, h⟩
      · exact one h
      · have he := ho e (by simpa using hem) hb
        split at h
        · rename_i o' ho'
          exact reach_listed hcl f o' j (hcl e.on o' ho' he) h
        · cases h
theorem any_ok (hh : HookOK P hk) (hi : InlOK P inl) {ops : Array Oper} (hdst : dstsOk n ops.toList = true) {st0 sf : St} {ps : List (Rt × Rt)} {Q : Exit → Act → World → Prop} (hall : allP P ops 0 ops.toList = some ps) (hmet : Met st0 ps) {a0 : Act} {g0 : G} {w1 : World} :
    ∀ (fuel : Nat) (l : List Nat) (listed : Array Bool) (g : G) (st : St) (a : Act) (w : World), listed.size = ops.size → (∀ m o, ops[m]? = some o → listed.getD m false = true → ∀ e ∈ o.after, Region.binds .any e = true → listed.getD e.on false = true) → l.Pairwise (· < ·) →
      (∀ i, i ∈ l ↔ i < ops.size ∧ listed.getD i true = false) → l.length ≤ fuel → Runs P n hk inl ops l st sf → Inv ops.toList st0 st → Rep p w0 n g st a w → Same (wrO ops.toList) a0 a → Ext g0 w1 g w →
      (∀ g' a' w', Rep p w0 n g' sf a' w' → Same (wrO ops.toList) a0 a' → Ext g0 w1 g' w' → Q .normal a' w') → wpAny P .any ops Q fuel listed a w := by
  have hback : ∀ i o, ops[i]? = some o → ∀ e ∈ o.after, Region.binds .any e = true → e.on < i := by
    intro i o ho e he hb
    have := (allP_spec hall i o (by simpa using ho)).1
    rw [Nat.zero_add] at this
    simp only [backOk, List.all_eq_true] at this
    have := this e (by simpa using he)
    simpa [hb] using this
  have hempty : ∀ (l : List Nat) (listed : Array Bool), listed.size = ops.size → l.Pairwise (· < ·) → (∀ i, i ∈ l ↔ i < ops.size ∧ listed.getD i true = false) → Region.ready .any ops listed = [] → l = [] := by
    intro l listed hsz hs hl hr
    cases l with
    | nil => rfl
    | cons i l =>
      exfalso
      have hi := (hl i).1 (by simp)
      have : i ∈ Region.ready .any ops listed := by
        rw [mem_ready]
        refine ⟨hi.2, ops[i], Array.getElem?_eq_getElem hi.1, fun e he hb => ?_⟩
        have hlt := hback i ops[i] (Array.getElem?_eq_getElem hi.1) e he hb
        have hnot : e.on ∉ i :: l := by
          intro hm
          rcases List.mem_cons.1 hm with h | h
          · omega
          · have := (List.pairwise_cons.1 hs).1 _ h
            omega
        have h1 : ¬ (e.on < ops.size ∧ listed.getD e.on true = false) := fun h => hnot ((hl e.on).2 h)
        have h2 : e.on < ops.size := by omega
        have h3 : listed.getD e.on true = true := by
          cases h : listed.getD e.on true
          · exact absurd ⟨h2, h⟩ h1
          · rfl
        rw [getD_lt (by omega) false true]
        exact h3
      rw [hr] at this
      cases this
  intro fuel
  induction fuel with
  | zero =>
    intro l listed g st a w hsz hcl hs hl hle hr hinv hrep hsame hx hQ
    have hnil : l = [] := by cases l with
      | nil => rfl
      | cons x l => simp at hle
    subst hnil
    have : Region.ready .any ops listed = [] := by
      cases h : Region.ready .any ops listed with
      | nil => rfl
      | cons i r =>
        have hm : i ∈ Region.ready .any ops listed := by rw [h]; simp
        rw [mem_ready] at hm
        obtain ⟨h0, o, ho, _⟩ := hm
        have := (hl i).2 ⟨(Array.getElem?_eq_some_iff.1 ho).1, h0⟩
        cases this
    have hr : st = sf := hr
    subst hr
    exact ⟨this, hQ g a w hrep hsame hx⟩
  | succ fuel ih =>
    intro l listed g st a w hsz hcl hs hl hle hr hinv hrep hsame hx hQ
    refine ⟨fun h0 => ?_, fun i hi' => ?_⟩
    · have := hempty l listed hsz hs hl h0
      subst this
      have hr : st = sf := hr
      subst hr
      exact hQ g a w hrep hsame hx
    · obtain ⟨h0, oi, hoi, hedges⟩ := mem_ready.1 hi'
      have hil := (hl i).2 ⟨(Array.getElem?_eq_some_iff.1 hoi).1, h0⟩
      obtain ⟨pre, post, rfl⟩ := List.append_of_mem hil
      have hpre : ∀ j ∈ pre, j < i := fun j hj => (List.pairwise_append.1 hs).2.2 j hj i (by simp)
      have hpost : ∀ j ∈ post, i < j := fun j hj => (List.pairwise_cons.1 (List.pairwise_append.1 hs).2.1).1 j hj
      obtain ⟨ef, he, hruns⟩ := bubble (st0 := st0) hoi pre st (fun j hj => ⟨by have := hpre j hj; omega, fun oj hoj => by
        obtain ⟨_, qs, hqs, hsub⟩ := allP_spec hall i oi (by simpa using hoi)
        rw [Nat.zero_add] at hqs
        have hp := aheadP_spec hqs j oj (by simpa using hoj) (by have := hpre j hj; omega)
        rw [Nat.zero_add] at hp
        rcases hp with hp | ⟨h1, q, h2, h3⟩
        · exfalso
          have h1 := reach_listed hcl 3 oi j hedges hp
          have h2 := ((hl j).1 (by simp [hj]))
          rw [getD_lt (by omega) false true, h2.2] at h1
          cases h1
        · exact ⟨h1, q, h2, fun x hx => hmet x (hsub x (h3 x hx))⟩⟩) hinv hr
      refine EffR_wp hh hi hdst hoi he hrep fun g' v w' hrep' hx' => ?_
      refine ih (pre ++ post) (listed.setIfInBounds i true) g' _ _ w' (by simpa using hsz) ?_ ?_ ?_ (by simp at hle ⊢; omega) hruns (hinv.app hoi he) hrep'
        (hsame.trans (Same.put a _ v _ fun t ht => wrO_mem (by have := Array.mem_of_getElem? hoi; simpa using this) ht)) (hx.trans hx') hQ
      · intro m o ho hm e he hb
        have keep : ∀ q, listed.getD q false = true → (listed.setIfInBounds i true).getD q false = true := by
          intro q hq
          by_cases hqi : q = i
          · subst hqi
            have hlt : q < listed.size := by rw [hsz]; exact (Array.getElem?_eq_some_iff.1 hoi).1
            simp [hlt]
          · rw [getD_set_ne false (Ne.symm hqi)]; exact hq
        by_cases hmi : m = i
        · subst hmi
          rw [hoi] at ho; cases ho
          exact keep _ (hedges e he hb)
        · rw [getD_set_ne false (Ne.symm hmi)] at hm
          exact keep _ (hcl m o ho hm e he hb)
      · rw [List.pairwise_append] at hs ⊢
        exact ⟨hs.1, (List.pairwise_cons.1 hs.2.1).2, fun x hx y hy => hs.2.2 x hx y (by simp [hy])⟩
      · intro j
        by_cases hji : j = i
        · subst hji
          have hlt : j < listed.size := by rw [hsz]; exact (Array.getElem?_eq_some_iff.1 hoi).1
          constructor
          · intro hm
            rcases List.mem_append.1 hm with h | h
            · have := hpre j h; omega
            · have := hpost j h; omega
          · intro ⟨_, h⟩
            simp [hlt] at h
        · rw [getD_set_ne true (Ne.symm hji), ← hl j]
          simp [hji]

/-! ### From the run to what it says -/

/-- A call that is run ends somewhere. -/
def InlEx (inl : Inl) : Prop := ∀ f args bl nx k, inl f args bl nx k → ∃ r bl' nx', k r bl' nx'
theorem iso_ex (hi : InlEx inl) {f : Nat} {args : List S} {k : S → Prop} (h : iso inl f args k) : ∃ r, k r := by
  unfold iso at h
  split at h <;> try (exact h.elim)
  obtain ⟨r, bl', nx', h⟩ := hi _ _ _ _ _ h
  split at h <;> try (exact h.elim)
  exact ⟨_, h⟩

theorem isoT_ex (hi : InlEx inl) {f : Nat} {args : List S} {ks : List CK} {e : TypeId} {key : Nat} {k : S → Prop} (h : isoT inl f args ks e key k) : ∃ r, k r := by
  unfold isoT at h
  split at h <;> try (exact h.elim)
  obtain ⟨r, bl', nx', h⟩ := hi _ _ _ _ _ h
  split at h <;> try (exact h.elim)
  exact ⟨_, h⟩

theorem doC_true (hx : InlEx inl) {N : Nat} {st : St} {j : Nat} {o : Oper} {gg : Option (Option Pa × Bool)} {k : St → Prop}
    (h : doC P hk inl true N ⟨optP o.dst, gg, cop P n o⟩ j st k) : ∃ ef, RunR P n hk inl st.sl st.bl (st.nx + j) o ef ∧ k (appE (optP o.dst) ef st) := by
  unfold doC at h
  simp only at h
  unfold RunR
  split at h
  · rename_i c x y hco
    rw [hco]
    split at h <;> try (exact h.elim)
    rename_i b hb
    cases b
    · simp only [br, forceS_eq] at h
      exact ⟨⟨opv st.sl y, none, true⟩, ⟨false, hb, rfl⟩, h⟩
    · simp only [br, forceS_eq] at h
      exact ⟨⟨opv st.sl x, none, true⟩, ⟨true, hb, rfl⟩, h⟩
  · rename_i f l hco
    rw [hco]
    split at h <;> try (exact h.elim)
    rename_i i as ht
    rcases hookC_ok h with ⟨r, hR, hk⟩ | ⟨_, h⟩
    · simp only [forceS_eq] at hk
      exact ⟨⟨r, none, true⟩, ⟨i, as, r, ht, .inl hR, rfl⟩, hk⟩
    · obtain ⟨r, hv⟩ := iso_ex hx h
      have h2 := hv.2
      simp only [forceS_eq] at h2
      exact ⟨⟨r, none, true⟩, ⟨i, as, r, ht, .inr hv.1, rfl⟩, h2⟩
  · rename_i ks e0 f l hco
    rw [hco]
    split at h <;> try (exact h.elim)
    rename_i i as ht
    split at h <;> try (exact h.elim)
    rename_i hnone
    rcases hookC_ok h with ⟨r, hR, hk⟩ | ⟨_, h⟩
    · rw [appK_eq] at hk
      exact ⟨_, ⟨i, as, r, hnone, ht, .inl hR, rfl⟩, hk⟩
    · obtain ⟨r, hv⟩ := isoT_ex hx h
      have h2 := hv.2
      rw [appK_eq] at h2
      exact ⟨_, ⟨i, as, r, hnone, ht, .inr hv.1, rfl⟩, h2⟩
  · exact h.elim
  · rename_i m x y hco
    split at h
    · exact h.elim
    · rw [hco]
      split at h <;> try (exact h.elim)
      rename_i ef hef
      obtain ⟨h1, h2⟩ := br_and h
      rw [appK_eq] at h2
      exact ⟨ef, ⟨hef, h1⟩, h2⟩
  · rename_i hn1 hn2 hn3 _ _
    split at h <;> try (exact h.elim)
    rename_i ef hef
    obtain ⟨h1, h2⟩ := br_and h
    rw [appK_eq] at h2
    refine ⟨ef, ?_, h2⟩
    split
    · rename_i c x y hco; exact absurd hco (hn1 c x y)
    · rename_i f l hco; exact absurd hco (hn2 f l)
    · rename_i ks e0 f l hco; exact absurd hco (hn3 ks e0 f l)
    · exact ⟨hef, h1⟩

theorem ofB_ne (b : Bool) : ofB b ≠ undefS := by intro h; cases h

theorem stepC_true (hx : InlEx inl) {N : Nat} {ops : Array Oper} {st : St} {j : Nat} {o : Oper} {k : St → Prop}
    (h : stepC P hk inl true N (cr P n ops.toList o) j st k) : ∃ ef, EffR P n hk inl ops.toList st.sl st.bl (st.nx + j) o ef ∧ k (appE (optP o.dst) ef st) := by
  unfold stepC cr at h
  simp only at h
  unfold EffR
  cases hg : guardOf ops.toList o with
  | none =>
    rw [hg] at h
    exact doC_true hx h
  | some q =>
    obtain ⟨d, want⟩ := q
    rw [hg] at h
    cases d with
    | none => exact h.elim
    | some d =>
      simp only [cguard, optP] at h ⊢
      split at h
      · rename_i b hb
        have hid : st.sl.set undefS (ofB b) (pth d) = st.sl := set_id undefS _ (ofB_ne b) _ _ hb
        cases b
        · simp only [br, hid] at h
          cases want
          · obtain ⟨ef, h1, h2⟩ := doC_true hx h
            exact ⟨ef, .inl ⟨false, hb, .inl ⟨rfl, h1⟩⟩, h2⟩
          · exact ⟨skipE, .inl ⟨false, hb, .inr ⟨by simp, rfl⟩⟩, h⟩
        · simp only [br, hid] at h
          cases want
          · exact ⟨skipE, .inl ⟨true, hb, .inr ⟨by simp, rfl⟩⟩, h⟩
          · obtain ⟨ef, h1, h2⟩ := doC_true hx h
            exact ⟨ef, .inl ⟨true, hb, .inl ⟨rfl, h1⟩⟩, h2⟩
      · rename_i hb
        exact ⟨skipE, .inr ⟨hb, rfl⟩, h⟩
      · exact h.elim

theorem runC_true (hx : InlEx inl) {N : Nat} {ops : Array Oper} {k : St → Prop} :
    ∀ (l : List Oper) (j : Nat) (st : St), (∀ i, l[i]? = ops[j + i]?) → runC P hk inl true N (crs P n ops.toList l) j st k → ∃ sf, Runs P n hk inl ops (List.range' j l.length) st sf ∧ k sf
  | [], j, st, _, h => ⟨st, rfl, h⟩
  | o :: l, j, st, hl, h => by
    simp only [crs, runC_cons] at h
    obtain ⟨ef, he, hk⟩ := stepC_true hx h
    obtain ⟨sf, hr, hks⟩ := runC_true hx l (j + 1) _ (fun i => by have := hl (i + 1); simpa [Nat.add_assoc, Nat.add_comm 1 i] using this) hk
    refine ⟨sf, ?_, hks⟩
    simp only [List.length_cons, List.range'_succ]
    exact ⟨o, ef, by simpa using (hl 0).symm, he, hr⟩

/-! ### What is run ends somewhere -/

theorem faK_ex {det : Bool} {q : FQ} {x y : S} {K : Type} {F : S → K} {k : K → Prop} (h : faK det q x y (fun s => k (F s))) : ∃ z, k z := by
  unfold faK at h
  split at h <;> try (exact h.elim)
  split at h <;> try (exact h.elim)
  rename_i a _
  split at h <;> try (exact h.elim)
  rename_i b _
  have : ∃ r, KeepFr q a b r := by
    unfold KeepFr
    cases fqBits q a b with
    | some v => exact ⟨v, rfl⟩
    | none => exact ⟨9218868437227405313, by simp [nanW]⟩
  obtain ⟨r, hr⟩ := this
  exact ⟨_, h r hr⟩
theorem doC_ex (hx : InlEx inl) {det : Bool} {N : Nat} {st : St} {j : Nat} {o : CR} {k : St → Prop} (h : doC P hk inl det N o j st k) : ∃ st', k st' := by
  unfold doC at h
  split at h
  · split at h <;> try (exact h.elim)
    rename_i b _
    cases b <;> simp only [br, forceS_eq] at h <;> exact ⟨_, h⟩
  · split at h <;> try (exact h.elim)
    rcases hookC_ok h with ⟨r, _, hk⟩ | ⟨_, h⟩
    · simp only [forceS_eq] at hk
      exact ⟨_, hk⟩
    · cases det
      · obtain ⟨r, bl', nx', h⟩ := hx _ _ _ _ _ h
        simp only [forceS_eq] at h
        exact ⟨_, h⟩
      · obtain ⟨r, h⟩ := iso_ex hx h
        have := h.2
        simp only [forceS_eq] at this
        exact ⟨_, this⟩
  · split at h <;> try (exact h.elim)
    cases det
    · rcases hookC_ok h with ⟨r, _, hk⟩ | ⟨_, h⟩
      · simp only [forceS_eq] at hk
        exact ⟨_, hk⟩
      · obtain ⟨r, bl', nx', h⟩ := hx _ _ _ _ _ h
        simp only [forceS_eq] at h
        exact ⟨_, h⟩
    · simp only at h
      split at h <;> try (exact h.elim)
      rcases hookC_ok h with ⟨r, _, hk⟩ | ⟨_, h⟩
      · rw [appK_eq] at hk
        exact ⟨_, hk⟩
      · obtain ⟨r, h⟩ := isoT_ex hx h
        have := h.2
        rw [appK_eq] at this
        exact ⟨_, this⟩
  · exact faK_ex h
  · split at h
    · exact faK_ex h
    · split at h <;> try (exact h.elim)
      obtain ⟨_, h⟩ := br_and h
      rw [appK_eq] at h
      exact ⟨_, h⟩
  · split at h <;> try (exact h.elim)
    obtain ⟨_, h⟩ := br_and h
    rw [appK_eq] at h
    exact ⟨_, h⟩
theorem stepC_ex (hx : InlEx inl) {det : Bool} {N : Nat} {st : St} {j : Nat} {o : CR} {k : St → Prop} (h : stepC P hk inl det N o j st k) : ∃ st', k st' := by
  unfold stepC at h
  split at h
  · exact doC_ex hx h
  · exact h.elim
  · rename_i p want _
    split at h
    · rename_i b _
      cases b <;> cases want <;> simp only [br] at h <;> first | exact ⟨_, h⟩ | exact doC_ex hx h
    · exact ⟨_, h⟩
    · exact h.elim
theorem runC_ex (hx : InlEx inl) {det : Bool} {N : Nat} : ∀ {ops : List CR} {st : St} {j : Nat} {k : St → Prop}, runC P hk inl det N ops j st k → ∃ st', k st'
  | [], st, j, k, h => ⟨st, h⟩
  | o :: l, st, j, k, h => by
    rw [runC_cons] at h
    obtain ⟨st', h⟩ := stepC_ex hx h
    exact runC_ex hx h

theorem loopX_ex {ihb : St → (Exit → St → Prop) → Prop} (hb : ∀ st k, ihb st k → ∃ e st', k e st') {k : Exit → St → Prop} : ∀ (r : Nat) (st : St), loopX ihb k r st → ∃ e st', k e st'
  | 0, _, h => h.elim
  | r + 1, st, h => by
    have h : ihb st (fun e st' => match e with
      | .normal => loopX ihb k r st'
      | e => k e st') := h
    obtain ⟨e, st', h⟩ := hb _ _ h
    cases e <;> first | exact loopX_ex hb r st' h | exact ⟨_, _, h⟩
theorem loopH_ex {h : Hint} {wr : List Pa} {ihc : St → (Exit → St → Prop) → Prop} (hb : ∀ st k, ihc st k → ∃ e st', k e st') {k : Exit → St → Prop} {st : St} (hl : loopH h wr ihc k st) : ∃ e st', k e st' := by
  obtain ⟨⟨x, hI, _⟩, hr⟩ := hl
  have key : ∀ (m : Nat) (x : h.X), h.I x → h.mu x < m → ∃ e st', k e st' := by
    intro m
    induction m with
    | zero => intro x _ hlt; omega
    | succ m ih =>
      intro x hI hlt
      obtain ⟨e, st', h'⟩ := hb _ _ (hr x hI)
      cases e with
      | normal => obtain ⟨x', hI', hmu, _⟩ := h'; exact ih x' hI' (by omega)
      | _ => exact ⟨_, _, h'⟩
  exact key _ x hI (Nat.lt_succ_self _)

theorem exec_ex (hx : InlEx inl) {lh : LH} : ∀ (c : CC) (st : St) (k : Exit → St → Prop), exec P hk lh inl c st k → ∃ e st', k e st'
  | .skip, st, k, h => ⟨_, _, h⟩
  | .rg ops N d, st, k, h => by
    cases d with
    | none =>
      have h : runC P hk inl false N ops 0 st (fun st' => k .normal ⟨st'.sl, st'.bl, st'.nx + N⟩) := h
      obtain ⟨st', h⟩ := runC_ex hx h
      exact ⟨_, _, h⟩
    | some d =>
      have h : (match dynOk (dynSt st d) d with
        | true => runC P hk inl true N ops 0 (dynSt st d) (fun st' => k .normal ⟨st'.sl, st'.bl, st'.nx + N⟩)
        | false => False) := h
      split at h <;> try (exact h.elim)
      obtain ⟨st', h⟩ := runC_ex hx h
      exact ⟨_, _, h⟩
  | .seq id wr a b, st, k, h => by
    have h : seqK (lh id) wr (exec P hk lh inl a) (exec P hk lh inl b) st k := h
    unfold seqK at h
    split at h
    · obtain ⟨e, st', h⟩ := exec_ex hx a st _ h
      cases e <;> first | exact exec_ex hx b st' k h | exact ⟨_, _, h⟩
    · obtain ⟨h1, h2⟩ := h
      obtain ⟨e, st', h⟩ := exec_ex hx a st _ h1
      cases e with
      | normal =>
        obtain ⟨x, hI, _⟩ := h
        exact exec_ex hx b _ k (h2 x hI)
      | _ => exact ⟨_, _, h⟩
  | .cond c a b, st, k, h => by
    have h : (match boolS (opv st.sl c) with
      | some q => br q (exec P hk lh inl a (litO st c true) k) (exec P hk lh inl b (litO st c false) k)
      | none => False) := h
    split at h <;> try (exact h.elim)
    rename_i q _
    cases q <;> simp only [br] at h
    · exact exec_ex hx b _ k h
    · exact exec_ex hx a _ k h
  | .block id b, st, k, h => by
    obtain ⟨e, st', h⟩ := exec_ex hx b st _ h
    cases e <;> simp only [blockK] at h <;> try exact ⟨_, _, h⟩
    split at h <;> exact ⟨_, _, h⟩
  | .loop id wr b, st, k, h => by
    have h : (match lh id with
      | none => loopX (exec P hk lh inl b) k 1000 st
      | some h => loopH (h st) wr (exec P hk lh inl b) k st) := h
    split at h
    · exact loopX_ex (exec_ex hx b) _ _ h
    · exact loopH_ex (exec_ex hx b) h
  | .exit id, st, k, h => ⟨_, _, h⟩
  | .ret, st, k, h => ⟨_, _, h⟩
  | .bad, st, k, h => h.elim

theorem callB_ex {tab : List (Nat × CF)} {ex : CC → St → (Exit → St → Prop) → Prop} (he : ∀ c st k, ex c st k → ∃ e st', k e st') : InlEx (callB ex tab) := by
  intro f args bl nx k h
  unfold callB at h
  split at h <;> try (exact h.elim)
  split at h <;> try (exact h.elim)
  obtain ⟨e, st', h⟩ := he _ _ _ h
  split at h <;> try (exact h.elim)
  split at h <;> try (exact h.elim)
  exact ⟨_, _, _, h⟩
theorem inlN_ex {tab : List (Nat × CF)} : ∀ m, InlEx (inlN P hk tab m)
  | 0 => fun _ _ _ _ _ h => h.elim
  | m + 1 => callB_ex (exec_ex (inlN_ex m))
end
end SY
end Go.Proofs.YtapjehgfekjdaaaDoor
