/- The symbolic executor: a region that draws its order comes to what its text's order comes to. No condition. -/
import Derived.Test.YtapjehgfekjdaaaDoorSyN
namespace Go.Proofs.YtapjehgfekjdaaaDoor
open Go.RowKit
namespace SY
section
variable {P : Program} {p : Nat → Nat → Prop} {w0 w : World} {g : G} {n : Nat} {hk : Hooks} {inl : Inl}

theorem paEq_eq : ∀ {a b : Pa}, paEq a b = true → a = b
  | .e, .e, _ => rfl
  | .l p, .l q, h => by rw [paEq_eq (a := p) (b := q) h]
  | .r p, .r q, h => by rw [paEq_eq (a := p) (b := q) h]
  | .e, .l _, h => by cases h
  | .e, .r _, h => by cases h
  | .l _, .e, h => by cases h
  | .l _, .r _, h => by cases h
  | .r _, .e, h => by cases h
  | .r _, .l _, h => by cases h
theorem rtEq_eq {a b : Rt} (h : rtEq a b = true) : a = b := by
  cases a <;> cases b <;> simp only [rtEq] at h <;> try (cases h; done)
  · rw [paEq_eq h]
  · rw [Nat.eq_of_beq_eq_true h]
theorem rtEq_refl : ∀ (a : Rt), rtEq a a = true
  | .mk p => by simp [rtEq]
  | .sl p => by
    have : ∀ q : Pa, paEq q q = true := by
      intro q
      induction q with
      | e => rfl
      | l q ih => exact ih
      | r q ih => exact ih
    exact this p

theorem writersOk_spec {t : Nat} {r : Rt} {f : Operand → Option Rt} : ∀ {ops : List Oper} {q : Nat}, writersOk t r f q ops = true → ∀ (j : Nat) (o : Oper), ops[j]? = some o → o.dst = some t →
    (∃ y, ((∃ a c, o.op = .fieldAddr a y c) ∨ (∃ a c, o.op = .indexAddr a y c) ∨ o.op = .move y ∨ o.op = .nilCheck y) ∧ f y = some r) ∨ (((∃ a, o.op = .alloc a) ∨ ∃ a x, o.op = .box a x) ∧ r = .mk (q + j))
  | [], q, _, j, o, ho, _ => by simp at ho
  | x :: l, q, h, 0, o, ho, hd => by
    simp only [List.getElem?_cons_zero, Option.some.injEq] at ho
    subst ho
    simp only [writersOk, hd, Nat.beq_refl] at h
    split at h
    · rename_i a y c hop
      split at h
      · rename_i r' hk
        simp only [Bool.and_eq_true] at h
        exact .inl ⟨y, .inl ⟨a, c, hop⟩, by rw [hk, rtEq_eq h.1]⟩
      · cases h
    · rename_i a y c hop
      split at h
      · rename_i r' hk
        simp only [Bool.and_eq_true] at h
        exact .inl ⟨y, .inr (.inl ⟨a, c, hop⟩), by rw [hk, rtEq_eq h.1]⟩
      · cases h
    · rename_i y hop
      split at h
      · rename_i r' hk
        simp only [Bool.and_eq_true] at h
        exact .inl ⟨y, .inr (.inr (.inl hop)), by rw [hk, rtEq_eq h.1]⟩
      · cases h
    · rename_i y hop
      split at h
      · rename_i r' hk
        simp only [Bool.and_eq_true] at h
        exact .inl ⟨y, .inr (.inr (.inr hop)), by rw [hk, rtEq_eq h.1]⟩
      · cases h
    · rename_i a hop
      simp only [Bool.and_eq_true] at h
      exact .inr ⟨.inl ⟨a, hop⟩, (rtEq_eq h.1).symm⟩
    · rename_i a x hop
      simp only [Bool.and_eq_true] at h
      exact .inr ⟨.inr ⟨a, x, hop⟩, (rtEq_eq h.1).symm⟩
    · cases h
  | x :: l, q, h, j + 1, o, ho, hd => by
    have h' : writersOk t r f (q + 1) l = true := by
      unfold writersOk at h
      split at h
      · exact h
      · split at h
        · exact h
        · split at h
          · split at h
            · simp only [Bool.and_eq_true] at h; exact h.2
            · cases h
          · split at h
            · simp only [Bool.and_eq_true] at h; exact h.2
            · cases h
          · split at h
            · simp only [Bool.and_eq_true] at h; exact h.2
            · cases h
          · split at h
            · simp only [Bool.and_eq_true] at h; exact h.2
            · cases h
          · simp only [Bool.and_eq_true] at h; exact h.2
          · simp only [Bool.and_eq_true] at h; exact h.2
          · cases h
    have := writersOk_spec h' j o (by simpa using ho) hd
    rwa [show q + 1 + j = q + (j + 1) from by omega] at this

theorem writersOk_mono {t : Nat} {r : Rt} {f f' : Operand → Option Rt} (hf : ∀ y r, f y = some r → f' y = some r) : ∀ {ops : List Oper} {q : Nat}, writersOk t r f q ops = true → writersOk t r f' q ops = true
  | [], _, _ => rfl
  | x :: l, q, h => by
    unfold writersOk at h ⊢
    split at h
    · exact writersOk_mono hf h
    · split at h
      · exact writersOk_mono hf h
      · split at h
        · rename_i y _ _
          split at h <;> try (cases h; done)
          rename_i r' hr'
          simp only [Bool.and_eq_true] at h
          simp only [hf _ _ hr', Bool.and_eq_true]
          exact ⟨h.1, writersOk_mono hf h.2⟩
        · split at h <;> try (cases h; done)
          rename_i r' hr'
          simp only [Bool.and_eq_true] at h
          simp only [hf _ _ hr', Bool.and_eq_true]
          exact ⟨h.1, writersOk_mono hf h.2⟩
        · split at h <;> try (cases h; done)
          rename_i r' hr'
          simp only [Bool.and_eq_true] at h
          simp only [hf _ _ hr', Bool.and_eq_true]
          exact ⟨h.1, writersOk_mono hf h.2⟩
        · split at h <;> try (cases h; done)
          rename_i r' hr'
          simp only [Bool.and_eq_true] at h
          simp only [hf _ _ hr', Bool.and_eq_true]
          exact ⟨h.1, writersOk_mono hf h.2⟩
        · simp only [Bool.and_eq_true] at h ⊢
          exact ⟨h.1, writersOk_mono hf h.2⟩
        · simp only [Bool.and_eq_true] at h ⊢
          exact ⟨h.1, writersOk_mono hf h.2⟩
        · cases h

theorem rootO_mono {ops : List Oper} : ∀ (m : Nat) (x : Operand) (r : Rt), rootO ops m x = some r → rootO ops (m + 1) x = some r
  | 0, x, r, h => by cases h
  | m + 1, x, r, h => by
    unfold rootO at h ⊢
    split at h
    · rename_i t
      split at h
      · exact h
      · split at h
        · cases h
        · rename_i y q hq
          have ih := rootO_mono (ops := ops) m
          split at h
          · cases h
          · rename_i r' hr'
            split at h
            · rename_i hw
              cases h
              have hm := writersOk_mono ih hw
              cases y with
              | none =>
                simp only at hr' ⊢
                cases hr'
                simp only [hm]
              | some y =>
                simp only at hr' ⊢
                rw [ih y r hr']
                simp only [hm]
            · cases h
    · cases h
theorem rootO_six {ops : List Oper} {m : Nat} {x : Operand} {r : Rt} (hm : m ≤ 6) (h : rootO ops m x = some r) : rootO ops 6 x = some r := by
  have : ∀ d, rootO ops (m + d) x = some r := by
    intro d
    induction d with
    | zero => exact h
    | succ d ih => exact rootO_mono _ _ _ ih
  have := this (6 - m)
  rwa [show m + (6 - m) = 6 from by omega] at this

theorem eqO_spec {a b : Option Nat} (h : eqO a b = true) {k : Nat} (ha : a = some k) : b = some k := by
  subst ha
  cases b with
  | none => cases h
  | some b => rw [Nat.eq_of_beq_eq_true h]

/-- The slots that no operation of the region writes are as they were; what can be told of addresses holds. -/
structure Inv (ops : List Oper) (st0 st : St) : Prop where
  sl : ∀ t, wrtn ops t = false → st.sl.get undefS (pth t) = st0.sl.get undefS (pth t)
  nx : st.nx = st0.nx
  ky : ∀ m x r, m ≤ 6 → rootO ops m x = some r → ∀ k', ownK (opd st.sl x) = some k' → krt st0 r = some k'

theorem slotsOk_cons (st : St) (x : Pa × Rt) (l : List (Pa × Rt)) : slotsOk st (x :: l) = (eqO (ownK (st.sl.get undefS x.1)) (krt st x.2) && slotsOk st l) := rfl
theorem slotsD_spec {ops : List Oper} {st : St} : ∀ {l : List Oper}, slotsOk st (slotsD ops l) = true → ∀ o ∈ l, ∀ t r, o.dst = some t → rootO ops 6 (.tmp t) = some r → ∀ k', ownK (st.sl.get undefS (pth t)) = some k' → krt st r = some k'
  | [], _, o, ho, _, _, _, _, _, _ => by cases ho
  | x :: l, h, o, ho, t, r, hd, hr, k', hk' => by
    simp only [slotsD] at h
    rcases List.mem_cons.1 ho with rfl | ho
    · rw [hd] at h
      simp only [hr, slotsOk_cons, Bool.and_eq_true] at h
      exact eqO_spec h.1 hk'
    · refine slotsD_spec ?_ o ho t r hd hr k' hk'
      split at h
      · exact h
      · split at h
        · simp only [slotsOk_cons, Bool.and_eq_true] at h; exact h.2
        · exact h

theorem wrtn_spec {ops : List Oper} {t : Nat} (h : wrtn ops t = true) : ∃ o ∈ ops, o.dst = some t := by
  simp only [wrtn, List.any_eq_true] at h
  obtain ⟨o, ho, h⟩ := h
  split at h
  · rename_i d hd; exact ⟨o, ho, by rw [hd, Nat.eq_of_beq_eq_true h]⟩
  · cases h

theorem Inv.start {ops : List Oper} {st0 : St} (h : slotsOk st0 (slotsD ops ops) = true) : Inv ops st0 st0 := by
  refine ⟨fun _ _ => rfl, rfl, fun m x r hm hr k' hk' => ?_⟩
  have h6 := rootO_six hm hr
  have h6' := h6
  unfold rootO at h6'
  split at h6'
  · rename_i t
    split at h6'
    · cases h6'; exact hk'
    · rename_i hw
      have hw : wrtn ops t = true := by cases hx : wrtn ops t <;> simp_all
      obtain ⟨o, ho, hd⟩ := wrtn_spec hw
      exact slotsD_spec h o ho t r hd h6 k' hk'
  · cases h6'

theorem cop_fadr {o : Oper} {a : TypeId} {y : Operand} {c : Nat} (ho : o.op = .fieldAddr a y c) : cop P n o = .bad ∨ ∃ z f, cpo n y = some z ∧ cop P n o = .fadr z f := by
  simp only [cop, ho, c1]
  repeat' split
  all_goals first
    | exact .inl rfl
    | (rename_i hz; exact .inr ⟨_, _, hz, rfl⟩)
theorem cop_iadr {o : Oper} {a : TypeId} {y c : Operand} (ho : o.op = .indexAddr a y c) : cop P n o = .bad ∨ (∃ z ix len m, cpo n y = some z ∧ cop P n o = .iadrA z ix len m) ∨ ∃ z ix m, cop P n o = .iadrS z ix m := by
  simp only [cop, ho, c2]
  repeat' split
  all_goals first
    | exact .inl rfl
    | exact .inr (.inr ⟨_, _, _, rfl⟩)
    | (rename_i hz _ _ _; exact .inr (.inl ⟨_, _, _, _, hz, rfl⟩))
theorem cop_move {o : Oper} {y : Operand} (ho : o.op = .move y) : cop P n o = .bad ∨ ∃ z, cpo n y = some z ∧ cop P n o = .mv z := by
  simp only [cop, ho, c1]
  split
  · rename_i hz; exact .inr ⟨_, hz, rfl⟩
  · exact .inl rfl
theorem cop_al {o : Oper} (ho : (∃ a, o.op = .alloc a) ∨ ∃ a x, o.op = .box a x) : cop P n o = .bad ∨ (∃ z t, cop P n o = .alloc z t) ∨ ∃ t z, cop P n o = .box t z := by
  rcases ho with ⟨a, ho⟩ | ⟨a, x, ho⟩
  · simp only [cop, ho]
    split
    · exact .inr (.inl ⟨_, _, rfl⟩)
    · exact .inl rfl
  · simp only [cop, ho, c1]
    split
    · exact .inr (.inr ⟨_, _, rfl⟩)
    · exact .inl rfl

theorem cop_nilc {o : Oper} {y : Operand} (ho : o.op = .nilCheck y) : cop P n o = .bad ∨ ∃ z, cpo n y = some z ∧ cop P n o = .nilc z := by
  simp only [cop, ho, c1]
  split
  · rename_i hz; exact .inr ⟨_, hz, rfl⟩
  · exact .inl rfl
/-- The address of a part is of the same block. -/
theorem EffR_own {ops : Array Oper} {sl : Tr S} {bl : Tr (Option Blk)} {key : Nat} {o : Oper} {ef : Ef} {y : Operand}
    (hop : (∃ a c, o.op = .fieldAddr a y c) ∨ (∃ a c, o.op = .indexAddr a y c) ∨ o.op = .move y ∨ o.op = .nilCheck y) (h : EffR P n hk inl ops.toList sl bl key o ef) : ∀ k', ownK ef.s = some k' → ownK (opd sl y) = some k' := by
  have hR : RunR P n hk inl sl bl key o ef → ∀ k', ownK ef.s = some k' → ownK (opd sl y) = some k' := by
    intro hr k' hk'
    unfold RunR at hr
    rcases hop with ⟨a, c, ho⟩ | ⟨a, c, ho⟩ | ho | ho
    · rcases cop_fadr (P := P) (n := n) ho with hc | ⟨z, f, hz, hc⟩
      · rw [hc] at hr; exact absurd hr.1 (by simp [effC])
      · rw [hc] at hr
        have hr := hr.1
        rw [← cpo_opv hz]
        simp only [effC, one] at hr
        split at hr <;> try (cases hr; done)
        · rename_i k off hx; cases hr; rw [hx]; exact hk'
        · split at hr <;> cases hr; cases hk'
        · rename_i k o j hx; cases hr; rw [hx]; exact hk'
    · rcases cop_iadr (P := P) (n := n) ho with hc | ⟨z, ix, len, m, hz, hc⟩ | ⟨z, ix, m, hc⟩
      · rw [hc] at hr; exact absurd hr.1 (by simp [effC])
      · rw [hc] at hr
        have hr := hr.1
        rw [← cpo_opv hz]
        simp only [effC] at hr
        split at hr <;> try (cases hr; done)
        split at hr <;> try (cases hr; done)
        · rename_i k off hx; cases hr; rw [hx]; exact hk'
        · rename_i k j hx; cases hr; rw [hx]; exact hk'
        · rename_i k o j hx; cases hr; rw [hx]; exact hk'
      · rw [hc] at hr
        have hr := hr.1
        simp only [effC] at hr
        split at hr <;> try (cases hr; done)
        split at hr <;> try (cases hr; done)
        split at hr <;> cases hr
        cases hk'
    · rcases cop_move (P := P) (n := n) ho with hc | ⟨z, hz, hc⟩
      · rw [hc] at hr; exact absurd hr.1 (by simp [effC])
      · rw [hc] at hr
        have hr := hr.1
        rw [← cpo_opv hz]
        simp only [effC, one, Option.some.injEq] at hr
        rw [← hr] at hk'
        exact hk'
    · rcases cop_nilc (P := P) (n := n) ho with hc | ⟨z, hz, hc⟩
      · rw [hc] at hr; exact absurd hr.1 (by simp [effC])
      · rw [hc] at hr
        have hr := hr.1
        rw [← cpo_opv hz]
        simp only [effC, one] at hr
        split at hr <;> try (cases hr; done)
        · rename_i k off hx; cases hr; rw [hx]; exact hk'
        · rename_i k o j hx; cases hr; rw [hx]; exact hk'
        · cases hr; cases hk'
        · cases hr; cases hk'
        · cases hr; cases hk'
  unfold EffR at h
  split at h
  · exact hR h
  · exact h.elim
  · rcases h with ⟨b, _, ⟨_, h⟩ | ⟨_, rfl⟩⟩ | ⟨_, rfl⟩
    · exact hR h
    all_goals (intro k' hk'; cases hk')

theorem EffR_made {ops : Array Oper} {sl : Tr S} {bl : Tr (Option Blk)} {key : Nat} {o : Oper} {ef : Ef} (hop : (∃ a, o.op = .alloc a) ∨ ∃ a x, o.op = .box a x) (h : EffR P n hk inl ops.toList sl bl key o ef) :
    ∀ k', ownK ef.s = some k' → k' = key := by
  have hR : RunR P n hk inl sl bl key o ef → ∀ k', ownK ef.s = some k' → k' = key := by
    intro hr k' hk'
    unfold RunR at hr
    rcases cop_al (P := P) (n := n) hop with hc | ⟨z, t, hc⟩ | ⟨t, z, hc⟩
    · rw [hc] at hr; exact absurd hr.1 (by simp [effC])
    · rw [hc] at hr
      have hr := hr.1
      simp only [effC] at hr
      split at hr <;> cases hr
      exact (Option.some.inj hk').symm
    · rw [hc] at hr
      have hr := hr.1
      simp only [effC] at hr
      split at hr <;> try (cases hr; done)
      split at hr <;> try (cases hr; done)
      split at hr <;> cases hr
      exact (Option.some.inj hk').symm
  unfold EffR at h
  split at h
  · exact hR h
  · exact h.elim
  · rcases h with ⟨b, _, ⟨_, h⟩ | ⟨_, rfl⟩⟩ | ⟨_, rfl⟩
    · exact hR h
    all_goals (intro k' hk'; cases hk')

theorem Inv.app {ops : Array Oper} {st0 st : St} (h : Inv ops.toList st0 st) {o : Oper} {j : Nat} (hj : ops[j]? = some o) {ef : Ef} (he : EffR P n hk inl ops.toList st.sl st.bl (st.nx + j) o ef) : Inv ops.toList st0 (appE (optP o.dst) ef st) := by
  have ho : o ∈ ops.toList := by have := Array.mem_of_getElem? hj; simpa using this
  have hsl : ∀ t, wrtn ops.toList t = false → (appE (optP o.dst) ef st).sl.get undefS (pth t) = st0.sl.get undefS (pth t) := by
    intro t ht
    simp only [appE]
    rw [putO_get, h.sl t ht]
    rintro d hd rfl
    simp only [wrtn, List.any_eq_false] at ht
    have := ht o ho
    simp [hd] at this
  refine ⟨hsl, h.nx, fun m x r hm hr k' hk' => ?_⟩
  by_cases hx : ∃ t, x = .tmp t ∧ o.dst = some t
  · obtain ⟨t, rfl, hd⟩ := hx
    have hs : ownK ef.s = some k' := by
      simp only [appE, hd, optP, putO, opd, get_set_same] at hk'
      exact hk'
    cases m with
    | zero => cases hr
    | succ m =>
      have hr0 := hr
      unfold rootO at hr
      simp only at hr
      split at hr
      · rename_i hw
        simp only [wrtn, List.any_eq_false] at hw
        have := hw o ho
        simp [hd] at this
      · split at hr
        · cases hr
        · split at hr
          · cases hr
          · split at hr
            · rename_i hw
              cases hr
              rcases writersOk_spec hw j o (by simpa using hj) hd with ⟨y, hop, hy⟩ | ⟨hop, hq⟩
              · exact h.ky m y r (by omega) hy k' (EffR_own hop he k' hs)
              · rw [hq, EffR_made hop he k' hs]
                simp only [krt, h.nx, Nat.zero_add]
            · cases hr
  · refine h.ky m x r hm hr k' ?_
    rw [← hk']
    cases x with
    | tmp t =>
      have : (appE (optP o.dst) ef st).sl.get undefS (pth t) = st.sl.get undefS (pth t) := by
        simp only [appE]
        exact putO_get fun d hd e => hx ⟨t, rfl, e ▸ hd⟩
      simp only [opd, this]
    | _ => rfl

/-! ### Marks -/

/-- What a mark says of a compiled operation. -/
def MarkOK (st0 st : St) (j : Nat) (co : CO) : Mk → Prop
  | .no => clsC co = .no
  | .rd r => (clsC co = .no ∨ clsC co = .ld) ∧ ∀ k', accK st.sl (st.nx + j) co = some k' → krt st0 r = some k'
  | .ru => clsC co = .no ∨ clsC co = .ld
  | .wr r => (clsC co = .no ∨ clsC co = .st) ∧ ∀ k', accK st.sl (st.nx + j) co = some k' → krt st0 r = some k'
  | .al q => (clsC co = .no ∨ clsC co = .al) ∧ q = j
  | .un => clsC co = .no ∨ clsC co = .st
  | .tk => clsC co = .no ∨ clsC co = .tk
  | .nt => clsC co = .no ∨ clsC co = .nt

theorem cls_c1 {x : Operand} {f : Opd → CO} {c : Cls} (h : ∀ y, clsC (f y) = c) : clsC (c1 n x f) = .no ∨ clsC (c1 n x f) = c := by
  unfold c1
  split
  · exact .inr (h _)
  · exact .inl rfl
theorem cls_c2 {x y : Operand} {f : Opd → Opd → CO} {c : Cls} (h : ∀ a b, clsC (f a b) = c) : clsC (c2 n x y f) = .no ∨ clsC (c2 n x y f) = c := by
  unfold c2
  split
  · split
    · exact .inr (h _ _)
    · exact .inl rfl
  · exact .inl rfl
theorem no_of {c : CO} (h : clsC c = .no ∨ clsC c = .no) : clsC c = .no := h.elim id id

theorem mark_ok {ops : Array Oper} {st0 st : St} (h : Inv ops.toList st0 st) {j : Nat} {o : Oper} : MarkOK st0 st j (cop P n o) (markO P ops.toList j o) := by
  obtain ⟨dst, op, type, pos, after, guard⟩ := o
  cases op <;> simp only [markO, MarkOK, cop]
  case move x => exact no_of (cls_c1 fun _ => rfl)
  case assign x => exact no_of (cls_c1 fun _ => rfl)
  case nilCheck x => exact no_of (cls_c1 fun _ => rfl)
  case extract x i => exact no_of (cls_c1 fun _ => rfl)
  case pick c x y =>
    split
    · exact no_of (cls_c2 fun _ _ => rfl)
    · rfl
  case alloc t => split <;> simp [clsC]
  case box t x =>
    refine ⟨cls_c1 fun _ => rfl, ?_⟩
    simp
  case fieldAddr t x f => (repeat' split) <;> first | rfl | exact no_of (cls_c1 fun _ => rfl)
  case field t x f => (repeat' split) <;> first | rfl | exact no_of (cls_c1 fun _ => rfl)
  case unOp op t x => (repeat' split) <;> first | rfl | exact no_of (cls_c1 fun _ => rfl) | (unfold cgen; split <;> rfl)
  case convert s d x => (repeat' split) <;> first | rfl | exact no_of (cls_c1 fun _ => rfl) | (unfold cgen; split <;> rfl)
  case indexAddr t x ix => (repeat' split) <;> first | rfl | exact no_of (cls_c2 fun _ _ => rfl)
  case index t x ix => (repeat' split) <;> first | rfl | exact no_of (cls_c2 fun _ _ => rfl)
  case binOp op t x y yt => (repeat' split) <;> first | rfl | exact no_of (cls_c2 fun _ _ => rfl) | (unfold cgen; split <;> rfl)
  case build t ps => (repeat' split) <;> rfl
  case makeFunc fn first caps => cases fn <;> simp only <;> (repeat' split) <;> rfl
  case load t x =>
    have hc : ∀ co, (match aggT P t, szT P t with
      | some ag, some m => c1 n x (.load (nOf ag m) ag)
      | _, _ => .bad) = co → (clsC co = .no ∨ clsC co = .ld) ∧ ∀ r, rootO ops.toList 6 x = some r → ∀ k', accK st.sl (st.nx + j) co = some k' → krt st0 r = some k' := by
      intro co hco
      subst hco
      split
      · refine ⟨cls_c1 fun _ => rfl, fun r hr k' hk' => ?_⟩
        unfold c1 at hk'
        split at hk'
        · rename_i z hz
          simp only [accK, cpo_opv hz] at hk'
          exact h.ky 6 x r (by omega) hr k' hk'
        · cases hk'
      · exact ⟨.inl rfl, fun r hr k' hk' => by cases hk'⟩
    have := hc _ rfl
    cases hr : rootO ops.toList 6 x with
    | some r => exact ⟨this.1, this.2 r hr⟩
    | none => exact this.1
  case store t x y =>
    have hc : ∀ co, (match szT P t with
      | some m => c2 n x y (.store m)
      | none => .bad) = co → (clsC co = .no ∨ clsC co = .st) ∧ ∀ r, rootO ops.toList 6 x = some r → ∀ k', accK st.sl (st.nx + j) co = some k' → krt st0 r = some k' := by
      intro co hco
      subst hco
      split
      · refine ⟨cls_c2 fun _ _ => rfl, fun r hr k' hk' => ?_⟩
        unfold c2 at hk'
        split at hk'
        · rename_i z hz
          split at hk'
          · simp only [accK, cpo_opv hz] at hk'
            exact h.ky 6 x r (by omega) hr k' hk'
          · cases hk'
        · cases hk'
      · exact ⟨.inl rfl, fun r hr k' hk' => by cases hk'⟩
    have := hc _ rfl
    cases hr : rootO ops.toList 6 x with
    | some r => exact ⟨this.1, this.2 r hr⟩
    | none => exact this.1
  case buildSlice t len ps => (repeat' split) <;> first | exact .inl rfl | exact .inr rfl
  case slice t x lo hi mx =>
    have key : ∀ {z : Option Operand} {f : Option Opd → CO} {c : Cls}, (∀ y, clsC (f y) = .no ∨ clsC (f y) = c) → clsC (cO n z f) = .no ∨ clsC (cO n z f) = c := by
      intro z f c hf
      unfold cO
      split
      · exact hf _
      · split
        · exact hf _
        · exact .inl rfl
    cases mx with
    | none =>
      simp only
      split
      · split
        · unfold c1
          split
          · exact no_of (key fun _ => key fun _ => .inl rfl)
          · rfl
        · rfl
      · rfl
    | some m =>
      simp only
      split
      · split
        · unfold c1
          split
          · refine key fun _ => key fun _ => ?_
            unfold cO
            simp only
            split
            · exact .inr rfl
            · exact .inl rfl
          · exact .inl rfl
        · exact .inl rfl
      · exact .inl rfl
  case call c =>
    obtain ⟨callee, args, argTypes⟩ := c
    simp only
    cases callee with
    | invoke r m => rfl
    | value f =>
      simp only
      cases slTy P type with
      | none => simp only; (repeat' split) <;> rfl
      | some q =>
        obtain ⟨ks, e⟩ := q
        simp only
        (repeat' split) <;> first
          | exact .inl rfl
          | exact .inr rfl
    | builtin b =>
      cases b <;> simp only <;> try rfl
      case append => (repeat' split) <;> first | exact .inl rfl | exact cls_c2 fun _ _ => rfl
      all_goals (repeat' split) <;> first | rfl | exact no_of (cls_c1 fun _ => rfl) | exact no_of (cls_c2 fun _ _ => rfl)
  all_goals rfl
end
end SY
end Go.Proofs.YtapjehgfekjdaaaDoor
