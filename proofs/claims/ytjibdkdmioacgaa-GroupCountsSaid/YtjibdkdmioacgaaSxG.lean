/- In a region that draws its order, operations that touch nothing in common may change places. No condition. -/
import Derived.Test.YtjibdkdmioacgaaSxF
namespace Go.Proofs.Ytjibdkdmioacgaa
open Go.RowKit
namespace SX
section
variable {P : Program} {ad : Ad} {w0 w W : World}

def ownK : S → Option Nat
  | .t (.c (.own k _)) => some k
  | _ => none
/-- The block that an operation looks at or writes. -/
def accK (ρ : Operand → S) (key : Nat) (o : Oper) : Option Nat :=
  match o.op with
  | .alloc _ => some key
  | .box _ _ => some key
  | .load _ x => ownK (ρ x)
  | .store _ x _ => ownK (ρ x)
  | _ => none

theorem allV_local {ρ ρ' : Operand → S} : ∀ {l : List Operand}, (∀ x ∈ l, ρ' x = ρ x) → allV ρ' l = allV ρ l
  | [], _ => rfl
  | x :: l, h => by
    simp only [allV, h x (by simp)]
    rw [allV_local fun y hy => h y (by simp [hy])]
theorem argsV_local {ρ ρ' : Operand → S} : ∀ {l : List Operand}, (∀ x ∈ l, ρ' x = ρ x) → argsV ρ' l = argsV ρ l
  | [], _ => rfl
  | x :: l, h => by
    simp only [argsV, h x (by simp)]
    rw [argsV_local fun y hy => h y (by simp [hy])]

theorem stepV_local {ρ ρ' : Operand → S} {o : Oper} (h : ∀ x ∈ o.op.operands, ρ' x = ρ x) : stepV P ρ' o = stepV P ρ o := by
  unfold stepV
  rw [allV_local (ρ := ρ) (ρ' := ρ') fun x hx => h x (by simpa using hx)]
  cases hs : isSel o.op
  · have : execOp (rv ρ') o = execOp (rv ρ) o := execOp_congr o (fun cs b hop => by rw [hop] at hs; simp [isSel] at hs) fun x hx => by simp only [rv, h x hx]
    rw [this]
  · rfl

theorem stepW_local {ρ ρ' : Operand → S} {o : Oper} (h : ∀ x ∈ o.op.operands, ρ' x = ρ x) : stepW P ρ' o = stepW P ρ o := by
  have hv := stepV_local (P := P) h
  obtain ⟨dst, op, type, pos, after, guard⟩ := o
  cases op <;> try exact hv
  case move x => simp only [stepW, h x (by simp [Op.operands])]
  case assign x => simp only [stepW, h x (by simp [Op.operands])]
  case extract x i => simp only [stepW, h x (by simp [Op.operands])]
  case fieldAddr t x f => simp only [stepW, h x (by simp [Op.operands])]
  case indexAddr t x ix => simp only [stepW, h x (by simp [Op.operands]), h ix (by simp [Op.operands])]
  case field t x f => simp only [stepW, h x (by simp [Op.operands])]
  case index t x ix => simp only [stepW, h x (by simp [Op.operands]), h ix (by simp [Op.operands]), hv]
  case nilCheck x => simp only [stepW, h x (by simp [Op.operands]), hv]
  case binOp op t x y yt => cases op <;> try exact hv
                            all_goals simp only [stepW, h x (by simp [Op.operands]), h y (by simp [Op.operands]), hv]

theorem effS_local {ρ ρ' : Operand → S} {bl bl' : Nat → Option Blk} {key : Nat} {o : Oper} (h : ∀ x ∈ o.op.operands, ρ' x = ρ x) (hb : ∀ k, accK ρ key o = some k → bl' k = bl k) :
    effS P W ρ' bl' key o = effS P W ρ bl key o := by
  have hw := stepW_local (P := P) h
  obtain ⟨dst, op, type, pos, after, guard⟩ := o
  cases op <;> try (simp only [effS, hw]; done)
  case alloc t => simp only [effS, hb key rfl]
  case box t x => simp only [effS, h x (by simp [Op.operands]), hb key rfl]
  case indexAddr t x ix => simp only [effS, h x (by simp [Op.operands]), h ix (by simp [Op.operands]), hw]
  case load t x =>
    simp only [effS, h x (by simp [Op.operands])]
    simp only [accK] at hb
    split
    · rename_i k off hx
      rw [hb k (by rw [hx]; rfl)]
    · rfl
    · rfl
  case store t x y =>
    simp only [effS, h x (by simp [Op.operands]), h y (by simp [Op.operands])]
    simp only [accK] at hb
    split
    · rename_i k off hx
      rw [hb k (by rw [hx]; rfl)]
    · rfl

theorem target_local {ρ ρ' : Operand → S} {c : Call} (h : ∀ x ∈ c.operands, ρ' x = ρ x) : target ρ' c = target ρ c := by
  unfold target
  cases hc : c.callee with
  | value x =>
    simp only [h x (by simp [Call.operands, hc])]
    rw [argsV_local (ρ := ρ) (ρ' := ρ') fun y hy => h y (by simp only [Call.operands, Array.mem_append]; exact .inr (by simpa using hy))]
  | invoke r m => rfl
  | builtin b => rfl

theorem RunR_local {call : FuncId → List Value → (Value → Prop) → Prop} {ρ ρ' : Operand → S} {bl bl' : Nat → Option Blk} {key : Nat} {o : Oper} {ef : Ef} (h : ∀ x ∈ o.op.operands, ρ' x = ρ x) (hb : ∀ k, accK ρ key o = some k → bl' k = bl k)
    (hr : RunR P W call ρ bl key o ef) : RunR P W call ρ' bl' key o ef := by
  have he := effS_local (P := P) (W := W) h hb
  obtain ⟨dst, op, type, pos, after, guard⟩ := o
  cases op <;> try (simp only [RunR, he] at hr ⊢; exact hr)
  case pick c x y =>
    simp only [RunR] at hr ⊢
    rw [h c (by simp [Op.operands]), h x (by simp [Op.operands]), h y (by simp [Op.operands])]
    exact hr
  case call c =>
    simp only [RunR] at hr ⊢
    rw [target_local (ρ := ρ) (ρ' := ρ') fun x hx => h x (by simpa [Op.operands] using hx), he]
    exact hr

theorem opd_local {slots slots' : List S} {ops : Array Oper} {o : Oper} (h : ∀ t ∈ o.looksAt ops, slots'[t]? = slots[t]?) : ∀ x ∈ o.op.operands, opd slots' x = opd slots x := by
  intro x hx
  cases x with
  | tmp t =>
    simp only [opd]
    rw [h t (List.mem_append_left _ (List.mem_filterMap.2 ⟨.tmp t, by simpa using hx, rfl⟩))]
  | _ => rfl

theorem guard_looks {ops : Array Oper} {o : Oper} {d : Nat} {want : Bool} (h : guardOf ops.toList o = some (some d, want)) : d ∈ o.looksAt ops := by
  unfold guardOf at h
  split at h
  · cases h
  · rename_i g wt hg
    split at h
    · rename_i og hog
      simp only [Option.some.injEq, Prod.mk.injEq] at h
      obtain ⟨h1, rfl⟩ := h
      refine List.mem_append_right _ ?_
      rw [hg]
      rw [Array.getElem?_toList] at hog
      simp [hog, h1]
    · simp at h

theorem EffR_local {call : FuncId → List Value → (Value → Prop) → Prop} {ops : Array Oper} {slots slots' : List S} {bl bl' : Nat → Option Blk} {key : Nat} {o : Oper} {ef : Ef} (h : ∀ t ∈ o.looksAt ops, slots'[t]? = slots[t]?) (hb : ∀ k, accK (opd slots) key o = some k → bl' k = bl k)
    (hr : EffR P W call ops.toList slots bl key o ef) : EffR P W call ops.toList slots' bl' key o ef := by
  unfold EffR at hr ⊢
  split at hr
  · rename_i hg
    exact RunR_local (opd_local h) hb hr
  · exact hr.elim
  · rename_i d want hg
    rcases hr with ⟨b, hs, hr⟩ | ⟨hs, hr⟩
    · exact .inl ⟨b, by rw [h d (guard_looks hg)]; exact hs, hr.imp (fun ⟨h1, h2⟩ => ⟨h1, RunR_local (opd_local h) hb h2⟩) id⟩
    · exact .inr ⟨by rw [h d (guard_looks hg)]; exact hs, hr⟩

theorem effS_u {ρ : Operand → S} {bl : Nat → Option Blk} {key : Nat} {o : Oper} {ef : Ef} (h : effS P W ρ bl key o = some ef) : (∀ k B, ef.u = some (k, B) → accK ρ key o = some k) ∧ ((∃ t x, o.op = .load t x) → ef.u = none) := by
  have other : (match stepW P ρ o with
    | some s => some (⟨s, none, none⟩ : Ef)
    | none => none) = some ef → ef.u = none := by
    intro h
    split at h
    · simp only [Option.some.injEq] at h; subst h; rfl
    · cases h
  obtain ⟨dst, op, type, pos, after, guard⟩ := o
  have fin : ef.u = none → (∀ k B, ef.u = some (k, B) → accK ρ key ⟨dst, op, type, pos, after, guard⟩ = some k) ∧ ((∃ t x, op = .load t x) → ef.u = none) := fun h => ⟨(fun k B hk => by rw [h] at hk; cases hk), fun _ => h⟩
  cases op <;> simp only [effS] at h <;> try exact fin (other h)
  case alloc t =>
    split at h <;> try (cases h; done)
    split at h <;> try (cases h; done)
    split at h <;> try (cases h; done)
    split at h <;> try (cases h; done)
    simp only [Option.some.injEq] at h; subst h
    exact ⟨(fun k B hk => by simp only [Option.some.injEq, Prod.mk.injEq] at hk; rw [← hk.1]; rfl), fun ⟨_, _, e⟩ => by cases e⟩
  case box t x =>
    split at h <;> try (cases h; done)
    split at h <;> try (cases h; done)
    split at h <;> try (cases h; done)
    simp only [Option.some.injEq] at h; subst h
    exact ⟨(fun k B hk => by simp only [Option.some.injEq, Prod.mk.injEq] at hk; rw [← hk.1]; rfl), fun ⟨_, _, e⟩ => by cases e⟩
  case indexAddr t x ix =>
    split at h <;> try exact fin (other h)
    split at h <;> try (cases h; done)
    split at h <;> try (cases h; done)
    split at h <;> try (cases h; done)
    simp only [Option.some.injEq] at h; subst h
    exact fin rfl
  case load t x =>
    split at h <;> try (cases h; done)
    · split at h <;> try (cases h; done)
      split at h <;> try (cases h; done)
      simp only [Option.some.injEq] at h; subst h
      exact fin rfl
    · split at h <;> try (cases h; done)
      split at h <;> try (cases h; done)
      split at h <;> try (cases h; done)
      split at h <;> try (cases h; done)
      · simp only [Option.some.injEq] at h; subst h
        exact fin rfl
      · split at h <;> try (cases h; done)
        simp only [Option.some.injEq] at h; subst h
        exact fin rfl
  case store t x y =>
    split at h <;> try (cases h; done)
    rename_i k off hx
    split at h <;> try (cases h; done)
    split at h <;> try (cases h; done)
    split at h <;> try (cases h; done)
    simp only [Option.some.injEq] at h; subst h
    exact ⟨fun k' B hk => by simp only [Option.some.injEq, Prod.mk.injEq] at hk; simp only [accK, hx, ownK, hk.1], fun ⟨_, _, e⟩ => by cases e⟩

theorem RunR_u {call : FuncId → List Value → (Value → Prop) → Prop} {ρ : Operand → S} {bl : Nat → Option Blk} {key : Nat} {o : Oper} {ef : Ef} (h : RunR P W call ρ bl key o ef) : (∀ k B, ef.u = some (k, B) → accK ρ key o = some k) ∧ ((∃ t x, o.op = .load t x) → ef.u = none) := by
  unfold RunR at h
  split at h
  · obtain ⟨b, _, rfl⟩ := h; exact ⟨(fun k B hk => by cases hk), fun _ => rfl⟩
  · split at h
    · obtain ⟨v, _, rfl⟩ := h; exact ⟨(fun k B hk => by cases hk), fun _ => rfl⟩
    · exact effS_u h.1
  · exact effS_u h.1

theorem EffR_u {call : FuncId → List Value → (Value → Prop) → Prop} {ops : List Oper} {slots : List S} {bl : Nat → Option Blk} {key : Nat} {o : Oper} {ef : Ef} (h : EffR P W call ops slots bl key o ef) :
    (∀ k B, ef.u = some (k, B) → accK (opd slots) key o = some k) ∧ ((∃ t x, o.op = .load t x) → ef.u = none) := by
  unfold EffR at h
  split at h
  · exact RunR_u h
  · exact h.elim
  · rcases h with ⟨b, _, ⟨_, h⟩ | ⟨_, rfl⟩⟩ | ⟨_, rfl⟩
    · exact RunR_u h
    all_goals exact ⟨(fun k B hk => by cases hk), fun _ => rfl⟩

/-! ### Two operations change places -/

theorem putO_get {slots : List S} {d : Option Nat} {s : S} {t : Nat} (h : ∀ x, d = some x → x ≠ t) : (putO slots d s)[t]? = slots[t]? := by
  cases d with
  | none => rfl
  | some d => simp only [putO, List.getElem?_set_ne (h d rfl)]

theorem putO_comm (slots : List S) (d e : Option Nat) (s u : S) (h : ∀ x, d = some x → e ≠ some x) : putO (putO slots d s) e u = putO (putO slots e u) d s := by
  cases d with
  | none => rfl
  | some d =>
    cases e with
    | none => rfl
    | some e =>
      have hne : d ≠ e := fun he => h d rfl (he ▸ rfl)
      simp only [putO, List.set_comm _ _ hne]

theorem updB_comm (bl : Nat → Option Blk) (u v : Option (Nat × Blk)) (h : ∀ k B B', u = some (k, B) → v ≠ some (k, B')) : updB (updB bl u) v = updB (updB bl v) u := by
  cases u with
  | none => rfl
  | some p =>
    cases v with
    | none => rfl
    | some q =>
      obtain ⟨k, B⟩ := p
      obtain ⟨k', B'⟩ := q
      have hne : k ≠ k' := fun e => h k B B' rfl (e ▸ rfl)
      funext i
      simp only [updB]
      cases h1 : Nat.beq i k' <;> cases h2 : Nat.beq i k <;> simp
      exact absurd ((Nat.eq_of_beq_eq_true h2).symm.trans (Nat.eq_of_beq_eq_true h1)) hne

theorem updB_get {bl : Nat → Option Blk} {u : Option (Nat × Blk)} {k : Nat} (h : ∀ B, u ≠ some (k, B)) : updB bl u k = bl k := by
  cases u with
  | none => rfl
  | some p =>
    obtain ⟨k', B⟩ := p
    simp only [updB]
    split
    · rename_i e
      have := Nat.eq_of_beq_eq_true e
      exact absurd (this ▸ rfl) (h B)
    · rfl

theorem swap {call : FuncId → List Value → (Value → Prop) → Prop} {ops : Array Oper} {st : St} {j i : Nat} {oj oi : Oper} {e1 e2 : Ef} (hap : oj.apart ops oi = true)
    (D : ∀ k, accK (opd st.slots) (st.next + j) oj = some k → accK (opd st.slots) (st.next + i) oi = some k → e1.u = none ∧ e2.u = none)
    (h1 : EffR P W call ops.toList st.slots st.blocks (st.next + j) oj e1) (h2 : EffR P W call ops.toList (appE oj.dst e1 st).slots (appE oj.dst e1 st).blocks (st.next + i) oi e2) :
    EffR P W call ops.toList st.slots st.blocks (st.next + i) oi e2 ∧ EffR P W call ops.toList (appE oi.dst e2 st).slots (appE oi.dst e2 st).blocks (st.next + j) oj e1 ∧ appE oj.dst e1 (appE oi.dst e2 st) = appE oi.dst e2 (appE oj.dst e1 st) := by
  obtain ⟨a1, a2, a3⟩ := Oper.apart_spec hap
  have s1 : ∀ t ∈ oi.looksAt ops, st.slots[t]? = (appE oj.dst e1 st).slots[t]? := fun t ht => by
    simp only [appE]
    rw [putO_get fun x hx => by rintro rfl; exact a1 x hx ht]
  have s2 : ∀ t ∈ oj.looksAt ops, (appE oi.dst e2 st).slots[t]? = st.slots[t]? := fun t ht => by
    simp only [appE]
    rw [putO_get fun x hx => by rintro rfl; exact a3 x hx ht]
  have k1 : accK (opd (appE oj.dst e1 st).slots) (st.next + i) oi = accK (opd st.slots) (st.next + i) oi := by
    have ho := opd_local s1
    obtain ⟨dst, op, type, pos, after, guard⟩ := oi
    cases op <;> try rfl
    all_goals
      simp only [accK]
      rw [ho _ (by simp [Op.operands])]
  have u1 := (EffR_u h1).1
  have u2 := (EffR_u h2).1
  rw [k1] at u2
  have hne : ∀ k B B', e1.u = some (k, B) → e2.u ≠ some (k, B') := fun k B B' h h' => by
    have := D k (u1 k B h) (u2 k B' h')
    rw [this.1] at h
    cases h
  refine ⟨EffR_local s1 (fun k hk => ?_) h2, EffR_local s2 (fun k hk => ?_) h1, ?_⟩
  · rw [k1] at hk
    simp only [appE]
    rw [updB_get fun B hB => by
      have := D k (u1 k B hB) hk
      rw [this.1] at hB
      cases hB]
  · simp only [appE]
    rw [updB_get fun B hB => by
      have := D k hk (u2 k B hB)
      rw [this.2] at hB
      cases hB]
  · simp only [appE]
    rw [putO_comm _ _ _ _ _ fun x hx hy => a2 x hy hx, updB_comm _ _ _ fun k B B' h h' => hne k B' B h' h]
end
end SX
end Go.Proofs.Ytjibdkdmioacgaa
