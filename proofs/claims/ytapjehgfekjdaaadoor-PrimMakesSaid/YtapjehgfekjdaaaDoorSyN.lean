/- The symbolic executor: in a region that draws its order, operations that touch nothing in common may change places. No condition. -/
import Derived.Test.YtapjehgfekjdaaaDoorSyM
namespace Go.Proofs.YtapjehgfekjdaaaDoor
open Go.RowKit
namespace SY

def CallR (hk : Hooks) (inl : Inl) (f : Nat) (as : List S) (r : S) : Prop := HookR hk f as r ∨ iso inl f as (fun r' => r' = r)

def CallT (hk : Hooks) (inl : Inl) (f : Nat) (as : List S) (ks : List CK) (e : TypeId) (key : Nat) (r : S) : Prop := HookR hk f as r ∨ isoT inl f as ks e key (fun r' => r' = r)
/-- What an operation comes to, wherever it is done. -/
def RunR (P : Program) (n : Nat) (hk : Hooks) (inl : Inl) (sl : Tr S) (bl : Tr (Option Blk)) (key : Nat) (o : Oper) (ef : Ef) : Prop :=
  match cop P n o with
  | .pick c x y => ∃ b, boolS (opv sl c) = some b ∧ ef = ⟨bif b then opv sl x else opv sl y, none, true⟩
  | .call f l => ∃ i as r, target sl f l = some (i, as) ∧ CallR hk inl i as r ∧ ef = ⟨r, none, true⟩
  | .callS ks e f l => ∃ i as r, lkB bl key = none ∧ target sl f l = some (i, as) ∧ CallT hk inl i as ks e key r ∧ ef = ⟨r, some (key, .tok e (key + key)), true⟩
  | co => effC P sl bl key co = some ef ∧ ef.p = true

def skipE : Ef := ⟨undefS, none, true⟩
def EffR (P : Program) (n : Nat) (hk : Hooks) (inl : Inl) (ops : List Oper) (sl : Tr S) (bl : Tr (Option Blk)) (key : Nat) (o : Oper) (ef : Ef) : Prop :=
  match guardOf ops o with
  | none => RunR P n hk inl sl bl key o ef
  | some (none, _) => False
  | some (some d, want) => (∃ b, sl.get undefS (pth d) = ofB b ∧ ((b = want ∧ RunR P n hk inl sl bl key o ef) ∨ (b ≠ want ∧ ef = skipE))) ∨ (sl.get undefS (pth d) = undefS ∧ ef = skipE)

section tree
variable {α : Type} (d : α)
theorem set_id (x : α) (hx : x ≠ d) : ∀ (p : Pa) (t : Tr α), t.get d p = x → t.set d x p = t
  | .e, .lf, h => absurd h.symm hx
  | .l _, .lf, h => absurd h.symm hx
  | .r _, .lf, h => absurd h.symm hx
  | .e, .nd l v r, h => by
    have h : v = x := h
    subst h; rfl
  | .l p, .nd l v r, h => by
    show Tr.nd (l.set d x p) v r = _
    rw [set_id x hx p l h]
  | .r p, .nd l v r, h => by
    show Tr.nd l v (r.set d x p) = _
    rw [set_id x hx p r h]
theorem set_comm (x y : α) : ∀ (p q : Pa) (t : Tr α), p ≠ q → (t.set d x p).set d y q = (t.set d y q).set d x p
  | .e, .e, _, h => absurd rfl h
  | .e, .l _, .lf, _ => rfl
  | .e, .l _, .nd _ _ _, _ => rfl
  | .e, .r _, .lf, _ => rfl
  | .e, .r _, .nd _ _ _, _ => rfl
  | .l _, .e, .lf, _ => rfl
  | .l _, .e, .nd _ _ _, _ => rfl
  | .r _, .e, .lf, _ => rfl
  | .r _, .e, .nd _ _ _, _ => rfl
  | .l _, .r _, .lf, _ => rfl
  | .l _, .r _, .nd _ _ _, _ => rfl
  | .r _, .l _, .lf, _ => rfl
  | .r _, .l _, .nd _ _ _, _ => rfl
  | .l p, .l q, .lf, h => by
    show Tr.nd ((Tr.lf.set d x p).set d y q) d .lf = Tr.nd ((Tr.lf.set d y q).set d x p) d .lf
    rw [set_comm x y p q .lf fun e => h (e ▸ rfl)]
  | .l p, .l q, .nd l v r, h => by
    show Tr.nd ((l.set d x p).set d y q) v r = Tr.nd ((l.set d y q).set d x p) v r
    rw [set_comm x y p q l fun e => h (e ▸ rfl)]
  | .r p, .r q, .lf, h => by
    show Tr.nd .lf d ((Tr.lf.set d x p).set d y q) = Tr.nd .lf d ((Tr.lf.set d y q).set d x p)
    rw [set_comm x y p q .lf fun e => h (e ▸ rfl)]
  | .r p, .r q, .nd l v r, h => by
    show Tr.nd l v ((r.set d x p).set d y q) = Tr.nd l v ((r.set d y q).set d x p)
    rw [set_comm x y p q r fun e => h (e ▸ rfl)]
end tree

section
variable {P : Program} {p : Nat → Nat → Prop} {w0 w : World} {g : G} {n : Nat} {hk : Hooks} {inl : Inl} {sl sl' : Tr S} {bl bl' : Tr (Option Blk)} {key : Nat}

theorem opd_local {ops : Array Oper} {o : Oper} (h : ∀ t ∈ o.looksAt ops, sl'.get undefS (pth t) = sl.get undefS (pth t)) : ∀ x ∈ o.op.operands, opd sl' x = opd sl x := by
  intro x hx
  cases x with
  | tmp t =>
    simp only [opd]
    exact h t (List.mem_append_left _ (List.mem_filterMap.2 ⟨.tmp t, by simpa using hx, rfl⟩))
  | _ => rfl
theorem guard_looks {ops : Array Oper} {o : Oper} {d : Nat} {want : Bool} (h : guardOf ops.toList o = some (some d, want)) : d ∈ o.looksAt ops := by
  obtain ⟨i, og, h1, h2, h3⟩ := guard_dst h
  refine List.mem_append_right _ ?_
  rw [h1]
  simp [h2, h3]
theorem opv_local {ops : Array Oper} {o : Oper} (h : ∀ t ∈ o.looksAt ops, sl'.get undefS (pth t) = sl.get undefS (pth t)) : ∀ y ∈ opsC (cop P n o), opv sl' y = opv sl y := by
  intro y hy
  obtain ⟨x, hx, hxy⟩ := (opsOK_cop (P := P) (n := n) o).1 y hy
  rw [cpo_opv hxy, cpo_opv hxy]
  exact opd_local h x hx

theorem RunR_local {ops : Array Oper} {o : Oper} {ef : Ef} (h : ∀ t ∈ o.looksAt ops, sl'.get undefS (pth t) = sl.get undefS (pth t)) (hb : ∀ k, accK sl key (cop P n o) = some k → lkB bl' k = lkB bl k)
    (hr : RunR P n hk inl sl bl key o ef) : RunR P n hk inl sl' bl' key o ef := by
  have hv := opv_local (P := P) (n := n) h
  have he := effC_local (P := P) (key := key) hv (fun o' ho x hx => by
    have := (opsOK_cop (P := P) (n := n) o).2 o' ho
    subst this
    exact opd_local h x hx) hb
  unfold RunR at hr ⊢
  revert hr hv he hb
  generalize cop P n o = co
  intro hb hr hv he
  cases co <;> simp only [he] at hr ⊢ <;> try exact hr
  case pick c x y =>
    simp only [opsC, List.mem_cons, List.not_mem_nil, or_false, forall_eq_or_imp, forall_eq] at hv
    rw [hv.1, hv.2.1, hv.2.2]
    exact hr
  case call f l =>
    simp only [opsC, List.mem_cons, forall_eq_or_imp] at hv
    have ht : target sl' f l = target sl f l := by
      unfold target
      rw [hv.1, List.map_congr_left hv.2]
    rw [ht]
    exact hr
  case callS ks e f l =>
    simp only [opsC, List.mem_cons, forall_eq_or_imp] at hv
    have ht : target sl' f l = target sl f l := by
      unfold target
      rw [hv.1, List.map_congr_left hv.2]
    rw [ht, hb key rfl]
    exact hr

theorem EffR_local {ops : Array Oper} {o : Oper} {ef : Ef} (h : ∀ t ∈ o.looksAt ops, sl'.get undefS (pth t) = sl.get undefS (pth t)) (hb : ∀ k, accK sl key (cop P n o) = some k → lkB bl' k = lkB bl k)
    (hr : EffR P n hk inl ops.toList sl bl key o ef) : EffR P n hk inl ops.toList sl' bl' key o ef := by
  unfold EffR at hr ⊢
  split at hr
  · exact RunR_local h hb hr
  · exact hr.elim
  · rename_i d want hg
    rcases hr with ⟨b, hs, hr⟩ | ⟨hs, hr⟩
    · exact .inl ⟨b, by rw [h d (guard_looks hg)]; exact hs, hr.imp (fun ⟨h1, h2⟩ => ⟨h1, RunR_local h hb h2⟩) id⟩
    · exact .inr ⟨by rw [h d (guard_looks hg)]; exact hs, hr⟩

/-- Done, or passed over. -/
theorem EffR_cases {ops : Array Oper} {o : Oper} {ef : Ef} (hr : EffR P n hk inl ops.toList sl bl key o ef) : RunR P n hk inl sl bl key o ef ∨ (ef.u = none ∧ ∀ bl', EffR P n hk inl ops.toList sl bl' key o ef) := by
  unfold EffR at hr ⊢
  split at hr
  · exact .inl hr
  · exact hr.elim
  · rcases hr with ⟨b, hs, ⟨h1, h2⟩ | ⟨h1, rfl⟩⟩ | ⟨hs, rfl⟩
    · exact .inl h2
    · exact .inr ⟨rfl, fun bl' => .inl ⟨b, hs, .inr ⟨h1, rfl⟩⟩⟩
    · exact .inr ⟨rfl, fun bl' => .inr ⟨hs, rfl⟩⟩

/-! ### What is touched -/

def NT (B : Blk) : Prop := ∀ e i, B ≠ .tok e i
inductive Cls where
  | no
  | ld
  | st
  | al
  | nt
  | tk
  deriving DecidableEq
def clsC : CO → Cls
  | .load _ _ _ => .ld
  | .store _ _ _ => .st
  | .alloc _ _ => .al
  | .box _ _ => .al
  | .bsl _ _ _ _ => .nt
  | .callS _ _ _ _ => .nt
  | .slc _ _ _ _ _ (some _) => .nt
  | .app _ _ _ _ => .tk
  | _ => .no

/-- What a done operation tells of the memory. -/
structure Facts (sl : Tr S) (bl : Tr (Option Blk)) (key : Nat) (co : CO) (ef : Ef) : Prop where
  u : ∀ k B, ef.u = some (k, B) → accK sl key co = some k
  no : clsC co = .no → accK sl key co = none ∧ ef.u = none
  ld : clsC co = .ld → ef.u = none ∧ ∀ k, accK sl key co = some k → ∃ B, lkB bl k = some B ∧ NT B
  st : clsC co = .st → ∀ k, accK sl key co = some k → (∃ B, lkB bl k = some B ∧ NT B) ∧ ∀ B, ef.u = some (k, B) → NT B
  al : clsC co = .al → accK sl key co = some key ∧ lkB bl key = none ∧ ∃ B, ef.u = some (key, B) ∧ NT B
  nt : clsC co = .nt → accK sl key co = some key ∧ lkB bl key = none ∧ ∃ e i, ef.u = some (key, .tok e i)
  tk : clsC co = .tk → ∃ k e i, accK sl key co = some k ∧ ef.u = some (k, .tok e i) ∧ ((∃ e' i', lkB bl k = some (.tok e' i')) ∨ (k = key ∧ lkB bl k = none))

theorem facts_no {co : CO} {ef : Ef} (hc : clsC co = .no) (ha : accK sl key co = none) (hu : ef.u = none) : Facts sl bl key co ef :=
  ⟨fun k B h => (by rw [hu] at h; cases h), fun _ => ⟨ha, hu⟩, fun h => (by rw [hc] at h; cases h), fun h => (by rw [hc] at h; cases h), fun h => (by rw [hc] at h; cases h), fun h => (by rw [hc] at h; cases h), fun h => (by rw [hc] at h; cases h)⟩

theorem effC_facts {co : CO} {ef : Ef} (h : effC P sl bl key co = some ef) : Facts sl bl key co ef := by
  cases co
  case alloc z t =>
    simp only [effC] at h
    split at h <;> try (cases h; done)
    rename_i hk
    cases h
    exact ⟨fun k B h => (by cases h; rfl), fun h => (by cases h), fun h => (by cases h), fun h => (by cases h), fun _ => ⟨rfl, hk, _, rfl, fun e i h => by cases h⟩, fun h => (by cases h), fun h => (by cases h)⟩
  case box t x =>
    simp only [effC] at h
    split at h <;> try (cases h; done)
    split at h <;> try (cases h; done)
    rename_i hk
    split at h <;> try (cases h; done)
    cases h
    exact ⟨fun k B h => (by cases h; rfl), fun h => (by cases h), fun h => (by cases h), fun h => (by cases h), fun _ => ⟨rfl, hk, _, rfl, fun e i h => by cases h⟩, fun h => (by cases h), fun h => (by cases h)⟩
  case bsl ks e zs ps =>
    simp only [effC] at h
    split at h <;> try (cases h; done)
    split at h <;> try (cases h; done)
    rename_i hk
    cases h
    exact ⟨fun k B h => (by cases h; rfl), fun h => (by cases h), fun h => (by cases h), fun h => (by cases h), fun h => (by cases h), fun _ => ⟨rfl, hk, _, _, rfl⟩, fun h => (by cases h)⟩
  case slc ks e x lo hi mx =>
    cases mx with
    | none =>
      have hu : ef.u = none := by
        simp only [effC] at h
        split at h <;> try (cases h; done)
        split at h <;> try (cases h; done)
        rename_i hm
        simp only [optI, Option.some.injEq] at hm
        subst hm
        simp only at h
        cases h; rfl
      exact facts_no rfl rfl hu
    | some m =>
      simp only [effC] at h
      split at h <;> try (cases h; done)
      split at h <;> try (cases h; done)
      rename_i hm
      simp only [optI] at hm
      split at hm <;> try (cases hm; done)
      simp only [Option.some.injEq] at hm
      subst hm
      simp only at h
      split at h <;> try (cases h; done)
      rename_i hk
      cases h
      exact ⟨fun k B h => (by cases h; rfl), fun h => (by cases h), fun h => (by cases h), fun h => (by cases h), fun h => (by cases h), fun _ => ⟨rfl, hk, _, _, rfl⟩, fun h => (by cases h)⟩
  case load m ag x =>
    have hu : ef.u = none ∧ ∀ k, accK sl key (.load m ag x) = some k → ∃ B, lkB bl k = some B ∧ NT B := by
      simp only [effC, one] at h
      simp only [accK]
      split at h <;> try (cases h; done)
      · rename_i k off hx
        split at h <;> try (cases h; done)
        rename_i l t hB
        split at h <;> try (cases h; done)
        cases h
        exact ⟨rfl, fun k' hk => by rw [hx] at hk; cases hk; exact ⟨_, hB, fun e i h => by cases h⟩⟩
      · rename_i l hx
        split at h <;> try (cases h; done)
        cases h
        exact ⟨rfl, fun k' hk => by rw [hx] at hk; cases hk⟩
      · rename_i k o j hx
        split at h <;> try (cases h; done)
        rename_i ks xs t hB
        split at h <;> try (cases h; done)
        split at h <;> try (cases h; done)
        cases h
        exact ⟨rfl, fun k' hk => by rw [hx] at hk; cases hk; exact ⟨_, hB, fun e i h => by cases h⟩⟩
    exact ⟨fun k B h => (by rw [hu.1] at h; cases h), fun h => (by cases h), fun _ => hu, fun h => (by cases h), fun h => (by cases h), fun h => (by cases h), fun h => (by cases h)⟩
  case store m x y =>
    have hu : ∃ k B, ef.u = some (k, B) ∧ ownK (opv sl x) = some k ∧ NT B ∧ ∃ C, lkB bl k = some C ∧ NT C := by
      simp only [effC] at h
      split at h <;> try (cases h; done)
      split at h <;> try (cases h; done)
      split at h <;> try (cases h; done)
      · rename_i k off hx
        split at h <;> try (cases h; done)
        rename_i l t hB
        split at h <;> try (cases h; done)
        cases h
        exact ⟨k, _, rfl, by rw [hx]; rfl, fun e i h => (by cases h), _, hB, fun e i h => (by cases h)⟩
      · rename_i k o j hx
        split at h <;> try (cases h; done)
        rename_i ks xs t hB
        split at h <;> try (cases h; done)
        split at h <;> try (cases h; done)
        cases h
        exact ⟨k, _, rfl, by rw [hx]; rfl, fun e i h => (by cases h), _, hB, fun e i h => (by cases h)⟩
    obtain ⟨k, B, h1, h2, h3, C, h4, h5⟩ := hu
    refine ⟨fun k' B' h => (by rw [h1] at h; cases h; exact h2), fun h => (by cases h), fun h => (by cases h), fun _ k' hk => ?_, fun h => (by cases h), fun h => (by cases h), fun h => (by cases h)⟩
    have hk : ownK (opv sl x) = some k' := hk
    rw [h2] at hk
    cases hk
    exact ⟨⟨C, h4, h5⟩, fun B' h => by rw [h1] at h; cases h; exact h3⟩
  case app ks e x y =>
    have hu : ∃ k e i, accK sl key (.app ks e x y) = some k ∧ ef.u = some (k, .tok e i) ∧ ((∃ e' i', lkB bl k = some (.tok e' i')) ∨ (k = key ∧ lkB bl k = none)) := by
      simp only [effC] at h
      simp only [accK]
      split at h <;> try (cases h; done)
      split at h <;> try (cases h; done)
      · rename_i ks' xs k i hx
        split at h <;> try (cases h; done)
        split at h <;> try (cases h; done)
        rename_i e' i' hB
        split at h <;> try (cases h; done)
        cases h
        exact ⟨k, _, _, by rw [hx], rfl, .inl ⟨_, _, hB⟩⟩
      · rename_i v hx
        split at h <;> try (cases h; done)
        split at h <;> try (cases h; done)
        rename_i hk
        cases h
        exact ⟨key, _, _, by rw [hx], rfl, .inr ⟨rfl, hk⟩⟩
    obtain ⟨k, e1, i1, h1, h2, h3⟩ := hu
    exact ⟨fun k' B' h => (by rw [h2] at h; cases h; exact h1), fun h => (by cases h), fun h => (by cases h), fun h => (by cases h), fun h => (by cases h), fun h => (by cases h), fun _ => ⟨k, e1, i1, h1, h2, h3⟩⟩
  case callS ks e f l => cases h
  all_goals
    refine facts_no rfl rfl ?_
    simp only [effC, one] at h
    repeat' split at h
    all_goals first
      | (cases h; done)
      | (cases h; rfl)

theorem RunR_facts {o : Oper} {ef : Ef} (h : RunR P n hk inl sl bl key o ef) : Facts sl bl key (cop P n o) ef := by
  unfold RunR at h
  revert h
  generalize cop P n o = co
  intro h
  cases co <;> try exact effC_facts h.1
  case pick c x y => obtain ⟨b, _, rfl⟩ := h; exact facts_no rfl rfl rfl
  case call f l => obtain ⟨i, as, r, _, _, rfl⟩ := h; exact facts_no rfl rfl rfl
  case callS ks e f l =>
    obtain ⟨i, as, r, hn, _, _, rfl⟩ := h
    exact ⟨fun k B h => (by cases h; rfl), fun h => (by cases h), fun h => (by cases h), fun h => (by cases h), fun h => (by cases h), fun _ => ⟨rfl, hn, _, _, rfl⟩, fun h => (by cases h)⟩

/-! ### Two operations change places -/

theorem updB_get {u : Option (Nat × Blk)} {k : Nat} (h : ∀ B, u ≠ some (k, B)) : lkB (updB bl u) k = lkB bl k := by
  cases u with
  | none => rfl
  | some q =>
    obtain ⟨k', B⟩ := q
    simp only [updB]
    rw [lkB_set, if_neg]
    rintro rfl
    exact h B rfl
theorem updB_same {k : Nat} {B : Blk} : lkB (updB bl (some (k, B))) k = some B := by
  simp only [updB]
  rw [lkB_set, if_pos rfl]
theorem updB_cases {u : Option (Nat × Blk)} {k : Nat} : (∃ B, u = some (k, B) ∧ lkB (updB bl u) k = some B) ∨ ((∀ B, u ≠ some (k, B)) ∧ lkB (updB bl u) k = lkB bl k) := by
  by_cases h : ∃ B, u = some (k, B)
  · obtain ⟨B, rfl⟩ := h
    exact .inl ⟨B, rfl, updB_same⟩
  · have : ∀ B, u ≠ some (k, B) := fun B hB => h ⟨B, hB⟩
    exact .inr ⟨this, updB_get this⟩
theorem updB_comm {u v : Option (Nat × Blk)} (h : ∀ k B B', u = some (k, B) → v ≠ some (k, B')) : updB (updB bl u) v = updB (updB bl v) u := by
  cases u with
  | none => rfl
  | some q =>
    cases v with
    | none => rfl
    | some r =>
      obtain ⟨k, B⟩ := q
      obtain ⟨k', B'⟩ := r
      exact set_comm _ _ _ _ _ _ (pth_ne fun e => h k B B' rfl (e ▸ rfl))
theorem putO_comm (sl : Tr S) (d e : Option Nat) (s u : S) (h : ∀ x, d = some x → e ≠ some x) : putO (putO sl (optP d) s) (optP e) u = putO (putO sl (optP e) u) (optP d) s := by
  cases d with
  | none => rfl
  | some d =>
    cases e with
    | none => rfl
    | some e => exact set_comm _ _ _ _ _ _ (pth_ne fun he => h d rfl (he ▸ rfl))
theorem putO_get {sl : Tr S} {d : Option Nat} {s : S} {t : Nat} (h : ∀ x, d = some x → x ≠ t) : (putO sl (optP d) s).get undefS (pth t) = sl.get undefS (pth t) := by
  cases d with
  | none => rfl
  | some d => exact get_set_ne _ _ _ _ _ (pth_ne (h d rfl))

/-- What two operations owe to each other as to memory. -/
structure Free (P : Program) (n : Nat) (hk : Hooks) (inl : Inl) (ops : Array Oper) (st : St) (j i : Nat) (oj oi : Oper) (e1 e2 : Ef) : Prop where
  a : EffR P n hk inl ops.toList st.sl st.bl (st.nx + i) oi e2
  b : EffR P n hk inl ops.toList st.sl (updB st.bl e2.u) (st.nx + j) oj e1
  c : ∀ k B B', e1.u = some (k, B) → e2.u ≠ some (k, B')

theorem later_slots {ops : Array Oper} {st : St} {i : Nat} {oj oi : Oper} {e1 e2 : Ef} (hap : oj.apart ops oi = true)
    (h2 : EffR P n hk inl ops.toList (appE (optP oj.dst) e1 st).sl bl (st.nx + i) oi e2) : EffR P n hk inl ops.toList st.sl bl (st.nx + i) oi e2 := by
  obtain ⟨a1, a2, a3⟩ := Oper.apart_spec hap
  refine EffR_local (fun t ht => ?_) (fun _ _ => rfl) h2
  simp only [appE]
  rw [putO_get fun x hx => by rintro rfl; exact a1 x hx ht]

theorem free_of {ops : Array Oper} {st : St} {j i : Nat} {oj oi : Oper} {e1 e2 : Ef} (h1 : EffR P n hk inl ops.toList st.sl st.bl (st.nx + j) oj e1) (h2 : EffR P n hk inl ops.toList st.sl (updB st.bl e1.u) (st.nx + i) oi e2)
    (D : Facts st.sl st.bl (st.nx + j) (cop P n oj) e1 → Facts st.sl (updB st.bl e1.u) (st.nx + i) (cop P n oi) e2 → ∀ k, accK st.sl (st.nx + j) (cop P n oj) = some k → accK st.sl (st.nx + i) (cop P n oi) = some k → e1.u = none ∧ e2.u = none) :
    Free P n hk inl ops st j i oj oi e1 e2 := by
  rcases EffR_cases h1 with r1 | ⟨u1, s1⟩
  · rcases EffR_cases h2 with r2 | ⟨u2, s2⟩
    · have f1 := RunR_facts r1
      have f2 := RunR_facts r2
      have D := D f1 f2
      refine ⟨EffR_local (fun _ _ => rfl) (fun k hk => ?_) h2, EffR_local (fun _ _ => rfl) (fun k hk => ?_) h1, fun k B B' h h' => ?_⟩
      · rw [updB_get fun B hB => by
          have := D k (f1.u k B hB) hk
          rw [this.1] at hB
          cases hB]
      · rw [updB_get fun B hB => by
          have := D k hk (f2.u k B hB)
          rw [this.2] at hB
          cases hB]
      · have := D k (f1.u k B h) (f2.u k B' h')
        rw [this.1] at h
        cases h
    · exact ⟨s2 _, by rw [u2]; exact h1, fun k B B' _ h' => by rw [u2] at h'; cases h'⟩
  · refine ⟨by rw [u1] at h2; exact h2, s1 _, fun k B B' h => by rw [u1] at h; cases h⟩

theorem swap {ops : Array Oper} {st : St} {j i : Nat} {oj oi : Oper} {e1 e2 : Ef} (hap : oj.apart ops oi = true) (F : Free P n hk inl ops st j i oj oi e1 e2) :
    EffR P n hk inl ops.toList st.sl st.bl (st.nx + i) oi e2 ∧ EffR P n hk inl ops.toList (appE (optP oi.dst) e2 st).sl (appE (optP oi.dst) e2 st).bl (st.nx + j) oj e1 ∧
      appE (optP oj.dst) e1 (appE (optP oi.dst) e2 st) = appE (optP oi.dst) e2 (appE (optP oj.dst) e1 st) := by
  obtain ⟨a1, a2, a3⟩ := Oper.apart_spec hap
  have s2 : ∀ t ∈ oj.looksAt ops, (appE (optP oi.dst) e2 st).sl.get undefS (pth t) = st.sl.get undefS (pth t) := fun t ht => by
    simp only [appE]
    rw [putO_get fun x hx => by rintro rfl; exact a3 x hx ht]
  refine ⟨F.a, EffR_local s2 (fun _ _ => rfl) F.b, ?_⟩
  simp only [appE]
  rw [putO_comm _ _ _ _ _ fun x hx hy => a2 x hy hx, updB_comm fun k B B' h h' => F.c k B' B h' h]
end
end SY
end Go.Proofs.YtapjehgfekjdaaaDoor
