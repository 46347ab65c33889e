/- In a region that draws its order, operations that touch nothing in common may change places. No condition. -/
import Derived.Test.YtegdbpbafdpkfaaSxF
namespace Go.Proofs.Ytegdbpbafdpkfaa
open Go.RowKit
namespace SX
section
variable {P : Program} {ad : Ad} {w0 w W : World}

/-- The block that an operation looks at or writes. -/
def accK (ρ : Operand → S) (key : Nat) (o : Oper) : Option Nat :=
  match o.op with
  | .alloc _ => some key
  | .box _ _ => some key
  | .load _ x => ownK (ρ x)
  | .store _ x _ => ownK (ρ x)
  | _ => none

theorem allV_local {ρ ρ' : Operand → S} : ∀ {l : List Operand}, (∀ x ∈ l, ρ' x = ρ x) → allV ρ' l = allV ρ l
  | [], _ => rfl
  | x :: l, h => by
    simp only [allV, h x (by simp)]
    rw [allV_local fun y hy => h y (by simp [hy])]
theorem argsV_local {ρ ρ' : Operand → S} : ∀ {l : List Operand}, (∀ x ∈ l, ρ' x = ρ x) → argsV ρ' l = argsV ρ l
  | [], _ => rfl
  | x :: l, h => by
    simp only [argsV, h x (by simp)]
    rw [argsV_local fun y hy => h y (by simp [hy])]

theorem stepV_local {ρ ρ' : Operand → S} {o : Oper} (h : ∀ x ∈ o.op.operands, ρ' x = ρ x) : stepV P ρ' o = stepV P ρ o := by
  unfold stepV
  rw [allV_local (ρ := ρ) (ρ' := ρ') fun x hx => h x (by simpa using hx)]
  cases hs : isSel o.op
  · have : execOp (rv ρ') o = execOp (rv ρ) o := execOp_congr o (fun cs b hop => by rw [hop] at hs; simp [isSel] at hs) fun x hx => by simp only [rv, h x hx]
    rw [this]
  · rfl

theorem stepW_local {ρ ρ' : Operand → S} {o : Oper} (h : ∀ x ∈ o.op.operands, ρ' x = ρ x) : stepW P ρ' o = stepW P ρ o := by
  have hv := stepV_local (P := P) h
  obtain ⟨dst, op, type, pos, after, guard⟩ := o
  cases op <;> try exact hv
  case move x => simp only [stepW, h x (by simp [Op.operands])]
  case assign x => simp only [stepW, h x (by simp [Op.operands])]
  case extract x i => simp only [stepW, h x (by simp [Op.operands])]
  case fieldAddr t x f => simp only [stepW, h x (by simp [Op.operands])]
  case indexAddr t x ix => simp only [stepW, h x (by simp [Op.operands]), h ix (by simp [Op.operands])]
  case field t x f => simp only [stepW, h x (by simp [Op.operands])]
  case index t x ix => simp only [stepW, h x (by simp [Op.operands]), h ix (by simp [Op.operands]), hv]
  case nilCheck x => simp only [stepW, h x (by simp [Op.operands]), hv]
  case binOp op t x y yt => cases op <;> try exact hv
                            all_goals simp only [stepW, h x (by simp [Op.operands]), h y (by simp [Op.operands]), hv]

theorem effS_local {ρ ρ' : Operand → S} {bl bl' : Nat → Option Blk} {key : Nat} {o : Oper} (h : ∀ x ∈ o.op.operands, ρ' x = ρ x) (hb : ∀ k, accK ρ key o = some k → bl' k = bl k) :
    effS P W ρ' bl' key o = effS P W ρ bl key o := by
  have hw := stepW_local (P := P) h
  obtain ⟨dst, op, type, pos, after, guard⟩ := o
  cases op <;> try (simp only [effS, hw]; done)
  case alloc t => simp only [effS, hb key rfl]
  case box t x => simp only [effS, h x (by simp [Op.operands]), hb key rfl]
  case indexAddr t x ix => simp only [effS, h x (by simp [Op.operands]), h ix (by simp [Op.operands]), hw]
  case load t x =>
    simp only [effS, h x (by simp [Op.operands])]
    simp only [accK] at hb
    split
    · rename_i k off hx
      rw [hb k (by rw [hx]; rfl)]
    · rfl
    · rfl
  case store t x y =>
    simp only [effS, h x (by simp [Op.operands]), h y (by simp [Op.operands])]
    simp only [accK] at hb
    split
    · rename_i k off hx
      rw [hb k (by rw [hx]; rfl)]
    · rfl

theorem target_local {ρ ρ' : Operand → S} {c : Call} (h : ∀ x ∈ c.operands, ρ' x = ρ x) : target ρ' c = target ρ c := by
  unfold target
  cases hc : c.callee with
  | value x =>
    simp only [h x (by simp [Call.operands, hc])]
    rw [argsV_local (ρ := ρ) (ρ' := ρ') fun y hy => h y (by simp only [Call.operands, Array.mem_append]; exact .inr (by simpa using hy))]
  | invoke r m => rfl
  | builtin b => rfl

theorem RunR_local {call : FuncId → List Value → (Value → Prop) → Prop} {ρ ρ' : Operand → S} {bl bl' : Nat → Option Blk} {key : Nat} {o : Oper} {ef : Ef} (h : ∀ x ∈ o.op.operands, ρ' x = ρ x) (hb : ∀ k, accK ρ key o = some k → bl' k = bl k)
    (hr : RunR P W call ρ bl key o ef) : RunR P W call ρ' bl' key o ef := by
  have he := effS_local (P := P) (W := W) h hb
  obtain ⟨dst, op, type, pos, after, guard⟩ := o
  cases op <;> try (simp only [RunR, he] at hr ⊢; exact hr)
  case pick c x y =>
    simp only [RunR] at hr ⊢
    rw [h c (by simp [Op.operands]), h x (by simp [Op.operands]), h y (by simp [Op.operands])]
    exact hr
  case call c =>
    simp only [RunR] at hr ⊢
    rw [target_local (ρ := ρ) (ρ' := ρ') fun x hx => h x (by simpa [Op.operands] using hx), he]
    exact hr

theorem opd_local {slots slots' : List S} {ops : Array Oper} {o : Oper} (h : ∀ t ∈ o.looksAt ops, slots'[t]? = slots[t]?) : ∀ x ∈ o.op.operands, opd slots' x = opd slots x := by
  intro x hx
  cases x with
  | tmp t =>
    simp only [opd]
    rw [h t (List.mem_append_left _ (List.mem_filterMap.2 ⟨.tmp t, by simpa using hx, rfl⟩))]
  | _ => rfl

theorem guard_looks {ops : Array Oper} {o : Oper} {d : Nat} {want : Bool} (h : guardOf ops.toList o = some (some d, want)) : d ∈ o.looksAt ops := by
  unfold guardOf at h
  split at h
  · cases h
  · rename_i g wt hg
    split at h
    · rename_i og hog
      simp only [Option.some.injEq, Prod.mk.injEq] at h
      obtain ⟨h1, rfl⟩ := h
      refine List.mem_append_right _ ?_
      rw [hg]
      rw [Array.getElem?_toList] at hog
      simp [hog, h1]
    · simp at h

theorem EffR_local {call : FuncId → List Value → (Value → Prop) → Prop} {ops : Array Oper} {slots slots' : List S} {bl bl' : Nat → Option Blk} {key : Nat} {o : Oper} {ef : Ef} (h : ∀ t ∈ o.looksAt ops, slots'[t]? = slots[t]?) (hb : ∀ k, accK (opd slots) key o = some k → bl' k = bl k)
    (hr : EffR P W call ops.toList slots bl key o ef) : EffR P W call ops.toList slots' bl' key o ef := by
  unfold EffR at hr ⊢
  split at hr
  · rename_i hg
    exact RunR_local (opd_local h) hb hr
  · exact hr.elim
  · rename_i d want hg
    rcases hr with ⟨b, hs, hr⟩ | ⟨hs, hr⟩
    · exact .inl ⟨b, by rw [h d (guard_looks hg)]; exact hs, hr.imp (fun ⟨h1, h2⟩ => ⟨h1, RunR_local (opd_local h) hb h2⟩) id⟩
    · exact .inr ⟨by rw [h d (guard_looks hg)]; exact hs, hr⟩

theorem effS_u {ρ : Operand → S} {bl : Nat → Option Blk} {key : Nat} {o : Oper} {ef : Ef} (h : effS P W ρ bl key o = some ef) : (∀ k B, ef.u = some (k, B) → accK ρ key o = some k) ∧ ((∃ t x, o.op = .load t x) → ef.u = none) := by
  have other : (match stepW P ρ o with
    | some s => some (⟨s, none, none⟩ : Ef)
    | none => none) = some ef → ef.u = none := by
    intro h
    split at h
    · simp only [Option.some.injEq] at h; subst h; rfl
    · cases h
  obtain ⟨dst, op, type, pos, after, guard⟩ := o
  have fin : ef.u = none → (∀ k B, ef.u = some (k, B) → accK ρ key ⟨dst, op, type, pos, after, guard⟩ = some k) ∧ ((∃ t x, op = .load t x) → ef.u = none) := fun h => ⟨(fun k B hk => by rw [h] at hk; cases hk), fun _ => h⟩
  cases op <;> simp only [effS] at h <;> try exact fin (other h)
  case alloc t =>
    split at h <;> try (cases h; done)
    split at h <;> try (cases h; done)
    split at h <;> try (cases h; done)
    split at h <;> try (cases h; done)
    simp only [Option.some.injEq] at h; subst h
    exact ⟨(fun k B hk => by simp only [Option.some.injEq, Prod.mk.injEq] at hk; rw [← hk.1]; rfl), fun ⟨_, _, e⟩ => by cases e⟩
  case box t x =>
    split at h <;> try (cases h; done)
    split at h <;> try (cases h; done)
    split at h <;> try (cases h; done)
    simp only [Option.some.injEq] at h; subst h
    exact ⟨(fun k B hk => by simp only [Option.some.injEq, Prod.mk.injEq] at hk; rw [← hk.1]; rfl), fun ⟨_, _, e⟩ => by cases e⟩
  case indexAddr t x ix =>
    split at h <;> try exact fin (other h)
    split at h <;> try (cases h; done)
    split at h <;> try (cases h; done)
    split at h <;> try (cases h; done)
    simp only [Option.some.injEq] at h; subst h
    exact fin rfl
  case load t x =>
    split at h <;> try (cases h; done)
    · split at h <;> try (cases h; done)
      split at h <;> try (cases h; done)
      simp only [Option.some.injEq] at h; subst h
      exact fin rfl
    · split at h <;> try (cases h; done)
      split at h <;> try (cases h; done)
      split at h <;> try (cases h; done)
      split at h <;> try (cases h; done)
      · simp only [Option.some.injEq] at h; subst h
        exact fin rfl
      · split at h <;> try (cases h; done)
        simp only [Option.some.injEq] at h; subst h
        exact fin rfl
  case store t x y =>
    split at h <;> try (cases h; done)
    rename_i k off hx
    split at h <;> try (cases h; done)
    split at h <;> try (cases h; done)
    split at h <;> try (cases h; done)
    simp only [Option.some.injEq] at h; subst h
    exact ⟨fun k' B hk => by simp only [Option.some.injEq, Prod.mk.injEq] at hk; simp only [accK, hx, ownK, hk.1], fun ⟨_, _, e⟩ => by cases e⟩

theorem RunR_u {call : FuncId → List Value → (Value → Prop) → Prop} {ρ : Operand → S} {bl : Nat → Option Blk} {key : Nat} {o : Oper} {ef : Ef} (h : RunR P W call ρ bl key o ef) : (∀ k B, ef.u = some (k, B) → accK ρ key o = some k) ∧ ((∃ t x, o.op = .load t x) → ef.u = none) := by
  unfold RunR at h
  split at h
  · obtain ⟨b, _, rfl⟩ := h; exact ⟨(fun k B hk => by cases hk), fun _ => rfl⟩
  · split at h
    · obtain ⟨v, _, rfl⟩ := h; exact ⟨(fun k B hk => by cases hk), fun _ => rfl⟩
    · exact effS_u h.1
  · exact effS_u h.1

theorem EffR_u {call : FuncId → List Value → (Value → Prop) → Prop} {ops : List Oper} {slots : List S} {bl : Nat → Option Blk} {key : Nat} {o : Oper} {ef : Ef} (h : EffR P W call ops slots bl key o ef) :
    (∀ k B, ef.u = some (k, B) → accK (opd slots) key o = some k) ∧ ((∃ t x, o.op = .load t x) → ef.u = none) := by
  unfold EffR at h
  split at h
  · exact RunR_u h
  · exact h.elim
  · rcases h with ⟨b, _, ⟨_, h⟩ | ⟨_, rfl⟩⟩ | ⟨_, rfl⟩
    · exact RunR_u h
    all_goals exact ⟨(fun k B hk => by cases hk), fun _ => rfl⟩

/-! ### Two operations change places -/

theorem putO_get {slots : List S} {d : Option Nat} {s : S} {t : Nat} (h : ∀ x, d = some x → x ≠ t) : (putO slots d s)[t]? = slots[t]? := by
  cases d with
  | none => rfl
  | some d => simp only [putO, List.getElem?_set_ne (h d rfl)]

theorem putO_comm (slots : List S) (d e : Option Nat) (s u : S) (h : ∀ x, d = some x → e ≠ some x) : putO (putO slots d s) e u = putO (putO slots e u) d s := by
  cases d with
  | none => rfl
  | some d =>
    cases e with
    | none => rfl
    | some e =>
      have hne : d ≠ e := fun he => h d rfl (he ▸ rfl)
      simp only [putO, List.set_comm _ _ hne]

theorem updB_comm (bl : Nat → Option Blk) (u v : Option (Nat × Blk)) (h : ∀ k B B', u = some (k, B) → v ≠ some (k, B')) : updB (updB bl u) v = updB (updB bl v) u := by
  cases u with
  | none => rfl
  | some p =>
    cases v with
    | none => rfl
    | some q =>
      obtain ⟨k, B⟩ := p
      obtain ⟨k', B'⟩ := q
      have hne : k ≠ k' := fun e => h k B B' rfl (e ▸ rfl)
      funext i
      simp only [updB]
      cases h1 : Nat.beq i k' <;> cases h2 : Nat.beq i k <;> simp
      exact absurd ((Nat.eq_of_beq_eq_true h2).symm.trans (Nat.eq_of_beq_eq_true h1)) hne

theorem updB_get {bl : Nat → Option Blk} {u : Option (Nat × Blk)} {k : Nat} (h : ∀ B, u ≠ some (k, B)) : updB bl u k = bl k := by
  cases u with
  | none => rfl
  | some p =>
    obtain ⟨k', B⟩ := p
    simp only [updB]
    split
    · rename_i e
      have := Nat.eq_of_beq_eq_true e
      exact absurd (this ▸ rfl) (h B)
    · rfl

/-- An operation that makes a block: there was none of its number. -/
theorem alloc_u {call : FuncId → List Value → (Value → Prop) → Prop} {ops : List Oper} {slots : List S} {bl : Nat → Option Blk} {key : Nat} {o : Oper} {ef : Ef} (ho : (∃ t, o.op = .alloc t) ∨ ∃ t x, o.op = .box t x) (h : EffR P W call ops slots bl key o ef) :
    (bl key = none ∧ ∃ B, ef.u = some (key, B)) ∨ (ef.u = none ∧ ∀ bl', EffR P W call ops slots bl' key o ef) := by
  have run : RunR P W call (opd slots) bl key o ef → bl key = none ∧ ∃ B, ef.u = some (key, B) := by
    intro h
    obtain ⟨dst, op, type, pos, after, guard⟩ := o
    rcases ho with ⟨t, rfl⟩ | ⟨t, x, rfl⟩
    · obtain ⟨h, _⟩ := h
      simp only [effS] at h
      split at h <;> try (cases h; done)
      split at h <;> try (cases h; done)
      split at h <;> try (cases h; done)
      rename_i hk
      split at h <;> try (cases h; done)
      simp only [Option.some.injEq] at h; subst h
      exact ⟨hk, _, rfl⟩
    · obtain ⟨h, _⟩ := h
      simp only [effS] at h
      split at h <;> try (cases h; done)
      split at h <;> try (cases h; done)
      rename_i hk
      split at h <;> try (cases h; done)
      simp only [Option.some.injEq] at h; subst h
      exact ⟨hk, _, rfl⟩
  unfold EffR at h ⊢
  split at h
  · exact .inl (run h)
  · exact h.elim
  · rcases h with ⟨b, hs, ⟨hb, h⟩ | ⟨hb, rfl⟩⟩ | ⟨hs, rfl⟩
    · exact .inl (run h)
    · exact .inr ⟨rfl, fun bl' => .inl ⟨b, hs, .inr ⟨hb, rfl⟩⟩⟩
    · exact .inr ⟨rfl, fun bl' => .inr ⟨hs, rfl⟩⟩

/-- An operation that reads or writes a block: there is one. -/
theorem mem_some {call : FuncId → List Value → (Value → Prop) → Prop} {ops : List Oper} {slots : List S} {bl : Nat → Option Blk} {key k : Nat} {o : Oper} {ef : Ef} (ho : (∃ t x, o.op = .load t x) ∨ ∃ t x y, o.op = .store t x y) (hk : accK (opd slots) key o = some k) (h : EffR P W call ops slots bl key o ef) :
    (∃ B, bl k = some B) ∨ (ef.u = none ∧ ∀ bl', EffR P W call ops slots bl' key o ef) := by
  have run : RunR P W call (opd slots) bl key o ef → ∃ B, bl k = some B := by
    intro h
    obtain ⟨dst, op, type, pos, after, guard⟩ := o
    rcases ho with ⟨t, x, rfl⟩ | ⟨t, x, y, rfl⟩
    · obtain ⟨h, _⟩ := h
      simp only [effS] at h
      simp only [accK] at hk
      split at h <;> try (cases h; done)
      · rename_i k' off hx
        rw [hx] at hk
        simp only [ownK, Option.some.injEq] at hk
        subst hk
        split at h <;> try (cases h; done)
        rename_i B hB
        exact ⟨B, hB⟩
      · rename_i a hx
        rw [hx] at hk
        cases hk
    · obtain ⟨h, _⟩ := h
      simp only [effS] at h
      simp only [accK] at hk
      split at h <;> try (cases h; done)
      rename_i k' off hx
      rw [hx] at hk
      simp only [ownK, Option.some.injEq] at hk
      subst hk
      split at h <;> try (cases h; done)
      split at h <;> try (cases h; done)
      rename_i B hB
      exact ⟨B, hB⟩
  unfold EffR at h ⊢
  split at h
  · exact .inl (run h)
  · exact h.elim
  · rcases h with ⟨b, hs, ⟨hb, h⟩ | ⟨hb, rfl⟩⟩ | ⟨hs, rfl⟩
    · exact .inl (run h)
    · exact .inr ⟨rfl, fun bl' => .inl ⟨b, hs, .inr ⟨hb, rfl⟩⟩⟩
    · exact .inr ⟨rfl, fun bl' => .inr ⟨hs, rfl⟩⟩

/-- What two operations owe to each other as to memory. -/
structure Free (P : Program) (W : World) (call : FuncId → List Value → (Value → Prop) → Prop) (ops : Array Oper) (st : St) (j i : Nat) (oj oi : Oper) (e1 e2 : Ef) : Prop where
  a : EffR P W call ops.toList st.slots st.blocks (st.next + i) oi e2
  b : EffR P W call ops.toList st.slots (updB st.blocks e2.u) (st.next + j) oj e1
  c : ∀ k B B', e1.u = some (k, B) → e2.u ≠ some (k, B')

/-- The later operation at the slots as they were. -/
theorem later_slots {call : FuncId → List Value → (Value → Prop) → Prop} {ops : Array Oper} {st : St} {bl : Nat → Option Blk} {i : Nat} {oj oi : Oper} {e1 e2 : Ef} (hap : oj.apart ops oi = true)
    (h2 : EffR P W call ops.toList (appE oj.dst e1 st).slots bl (st.next + i) oi e2) : EffR P W call ops.toList st.slots bl (st.next + i) oi e2 := by
  obtain ⟨a1, a2, a3⟩ := Oper.apart_spec hap
  refine EffR_local (fun t ht => ?_) (fun _ _ => rfl) h2
  simp only [appE]
  rw [putO_get fun x hx => by rintro rfl; exact a1 x hx ht]

theorem free_of {call : FuncId → List Value → (Value → Prop) → Prop} {ops : Array Oper} {st : St} {j i : Nat} {oj oi : Oper} {e1 e2 : Ef}
    (D : ∀ k, accK (opd st.slots) (st.next + j) oj = some k → accK (opd st.slots) (st.next + i) oi = some k → e1.u = none ∧ e2.u = none)
    (h1 : EffR P W call ops.toList st.slots st.blocks (st.next + j) oj e1) (h2 : EffR P W call ops.toList st.slots (updB st.blocks e1.u) (st.next + i) oi e2) : Free P W call ops st j i oj oi e1 e2 := by
  have u1 := (EffR_u h1).1
  have u2 := (EffR_u h2).1
  refine ⟨EffR_local (fun _ _ => rfl) (fun k hk => ?_) h2, EffR_local (fun _ _ => rfl) (fun k hk => ?_) h1, fun k B B' h h' => ?_⟩
  · rw [updB_get fun B hB => by
      have := D k (u1 k B hB) hk
      rw [this.1] at hB
      cases hB]
  · rw [updB_get fun B hB => by
      have := D k hk (u2 k B hB)
      rw [this.2] at hB
      cases hB]
  · have := D k (u1 k B h) (u2 k B' h')
    rw [this.1] at h
    cases h

theorem updB_some {bl : Nat → Option Blk} {u : Option (Nat × Blk)} {k : Nat} {B : Blk} (h : bl k = some B) : ∃ C, updB bl u k = some C := by
  cases u with
  | none => exact ⟨B, h⟩
  | some p =>
    obtain ⟨k', C⟩ := p
    simp only [updB]
    split
    · exact ⟨C, rfl⟩
    · exact ⟨B, h⟩

theorem free_al {call : FuncId → List Value → (Value → Prop) → Prop} {ops : Array Oper} {st : St} {j i : Nat} {oj oi : Oper} {e1 e2 : Ef}
    (hj : (∃ t x, oj.op = .load t x) ∨ ∃ t x y, oj.op = .store t x y) (hi : (∃ t, oi.op = .alloc t) ∨ ∃ t x, oi.op = .box t x)
    (h1 : EffR P W call ops.toList st.slots st.blocks (st.next + j) oj e1) (h2 : EffR P W call ops.toList st.slots (updB st.blocks e1.u) (st.next + i) oi e2) : Free P W call ops st j i oj oi e1 e2 := by
  have u1 := (EffR_u h1).1
  rcases alloc_u hi h2 with ⟨hn, B2, hu2⟩ | ⟨hu2, hany⟩
  · have hne : ∀ k, accK (opd st.slots) (st.next + j) oj = some k → k = st.next + i → e1.u = none ∧ ∀ bl', EffR P W call ops.toList st.slots bl' (st.next + j) oj e1 := by
      intro k hk he
      rcases mem_some hj hk h1 with ⟨B, hB⟩ | h
      · obtain ⟨C, hC⟩ := updB_some (u := e1.u) hB
        rw [he, hn] at hC
        cases hC
      · exact h
    have e1k : ∀ k B, e1.u = some (k, B) → k ≠ st.next + i := by
      intro k B hk he
      have := (hne k (u1 k B hk) he).1
      rw [this] at hk
      cases hk
    refine ⟨EffR_local (fun _ _ => rfl) (fun k hk => ?_) h2, ?_, fun k B B' h h' => ?_⟩
    · have hk' : k = st.next + i := by
        obtain ⟨dst, op, type, pos, after, guard⟩ := oi
        rcases hi with ⟨t, rfl⟩ | ⟨t, x, rfl⟩
        · exact (Option.some.inj hk).symm
        · exact (Option.some.inj hk).symm
      rw [updB_get fun B hB => e1k k B hB hk']
    · by_cases hk : accK (opd st.slots) (st.next + j) oj = some (st.next + i)
      · exact (hne _ hk rfl).2 _
      · refine EffR_local (fun _ _ => rfl) (fun k hk' => ?_) h1
        rw [updB_get fun B hB => by
          rw [hu2] at hB
          simp only [Option.some.injEq, Prod.mk.injEq] at hB
          rw [← hB.1] at hk'
          exact hk hk']
    · rw [hu2] at h'
      simp only [Option.some.injEq, Prod.mk.injEq] at h'
      exact e1k k B h h'.1.symm
  · refine ⟨hany _, ?_, fun k B B' h h' => by rw [hu2] at h'; cases h'⟩
    rw [hu2]
    exact h1

theorem swap {call : FuncId → List Value → (Value → Prop) → Prop} {ops : Array Oper} {st : St} {j i : Nat} {oj oi : Oper} {e1 e2 : Ef} (hap : oj.apart ops oi = true)
    (F : Free P W call ops st j i oj oi e1 e2) :
    EffR P W call ops.toList st.slots st.blocks (st.next + i) oi e2 ∧ EffR P W call ops.toList (appE oi.dst e2 st).slots (appE oi.dst e2 st).blocks (st.next + j) oj e1 ∧ appE oj.dst e1 (appE oi.dst e2 st) = appE oi.dst e2 (appE oj.dst e1 st) := by
  obtain ⟨a1, a2, a3⟩ := Oper.apart_spec hap
  have s2 : ∀ t ∈ oj.looksAt ops, (appE oi.dst e2 st).slots[t]? = st.slots[t]? := fun t ht => by
    simp only [appE]
    rw [putO_get fun x hx => by rintro rfl; exact a3 x hx ht]
  refine ⟨F.a, EffR_local s2 (fun _ _ => rfl) F.b, ?_⟩
  simp only [appE]
  rw [putO_comm _ _ _ _ _ fun x hx hy => a2 x hy hx, updB_comm _ _ _ fun k B B' h h' => F.c k B' B h' h]
end
end SX
end Go.Proofs.Ytegdbpbafdpkfaa
