/- A region that draws its order comes to what its text's order comes to. No condition. -/
import Derived.Test.YtegdbpbafdpkfaaSxG
namespace Go.Proofs.Ytegdbpbafdpkfaa
open Go.RowKit
namespace SX
section
variable {P : Program} {ad : Ad} {w0 w W : World}

theorem putO_get? {slots : List S} {d t : Nat} {s : S} (h : d = t) : (putO slots (some d) s)[t]? = none ∨ (putO slots (some d) s)[t]? = some s := by
  subst h
  simp only [putO, List.getElem?_set]
  split
  · split
    · exact .inr rfl
    · exact .inl rfl
  · rename_i h; exact absurd trivial h

/-- The slots that no operation of the region writes are as they were; what can be told of addresses holds. -/
structure Inv (ops : List Oper) (st0 st : St) : Prop where
  sl : ∀ t, wrtn ops t = false → st.slots[t]? = st0.slots[t]?
  nx : st.next = st0.next
  ky : ∀ n x k, keyO ops st0.slots st0.next n x = some k → ∀ k', ownK (opd st.slots x) = some k' → k' = k

theorem writersOk_spec {t k : Nat} {f : Operand → Option Nat} : ∀ {ops : List Oper} {q : Nat}, writersOk t k f q ops = true → ∀ (j : Nat) (o : Oper), ops[j]? = some o → o.dst = some t →
    (∃ y, ((∃ a c, o.op = .fieldAddr a y c) ∨ ∃ a c, o.op = .indexAddr a y c) ∧ f y = some k) ∨ (((∃ a, o.op = .alloc a) ∨ ∃ a x, o.op = .box a x) ∧ q + j = k)
  | [], q, _, j, o, ho, _ => by simp at ho
  | p :: r, q, h, 0, o, ho, hd => by
    simp only [List.getElem?_cons_zero, Option.some.injEq] at ho
    subst ho
    simp only [writersOk, hd, Nat.beq_refl] at h
    split at h
    · rename_i a y c hop
      split at h
      · rename_i k' hk
        simp only [Bool.and_eq_true] at h
        exact .inl ⟨y, .inl ⟨a, c, hop⟩, by rw [hk, Nat.eq_of_beq_eq_true h.1]⟩
      · cases h
    · rename_i a y c hop
      split at h
      · rename_i k' hk
        simp only [Bool.and_eq_true] at h
        exact .inl ⟨y, .inr ⟨a, c, hop⟩, by rw [hk, Nat.eq_of_beq_eq_true h.1]⟩
      · cases h
    · rename_i a hop
      simp only [Bool.and_eq_true] at h
      exact .inr ⟨.inl ⟨a, hop⟩, Nat.eq_of_beq_eq_true h.1⟩
    · rename_i a x hop
      simp only [Bool.and_eq_true] at h
      exact .inr ⟨.inr ⟨a, x, hop⟩, Nat.eq_of_beq_eq_true h.1⟩
    · cases h
  | p :: r, q, h, j + 1, o, ho, hd => by
    have h' : writersOk t k f (q + 1) r = true := by
      unfold writersOk at h
      split at h
      · exact h
      · split at h
        · exact h
        · split at h
          · split at h
            · simp only [Bool.and_eq_true] at h; exact h.2
            · cases h
          · split at h
            · simp only [Bool.and_eq_true] at h; exact h.2
            · cases h
          · simp only [Bool.and_eq_true] at h; exact h.2
          · simp only [Bool.and_eq_true] at h; exact h.2
          · cases h
    have := writersOk_spec h' j o (by simpa using ho) hd
    rwa [show q + 1 + j = q + (j + 1) from by omega] at this

theorem stepW_own {ρ : Operand → S} {o : Oper} {y : Operand} {s : S} (hop : (∃ a c, o.op = .fieldAddr a y c) ∨ ∃ a c, o.op = .indexAddr a y c) (h : stepW P ρ o = some s) : ∀ k', ownK s = some k' → ownK (ρ y) = some k' := by
  intro k' hk
  rcases hop with ⟨a, c, hop⟩ | ⟨a, c, hop⟩
  · simp only [stepW, hop] at h
    split at h
    · rename_i k off hx
      repeat' split at h
      all_goals first
        | (cases h; done)
        | (cases h; rw [hx]; exact hk)
    · cases h
  · simp only [stepW, hop] at h
    split at h
    · rename_i k off hx
      repeat' split at h
      all_goals first
        | (cases h; done)
        | (cases h; rw [hx]; exact hk)
    · cases h

theorem EffR_own {call : FuncId → List Value → (Value → Prop) → Prop} {ops : List Oper} {slots : List S} {bl : Nat → Option Blk} {key : Nat} {o : Oper} {ef : Ef} {y : Operand}
    (hop : (∃ a c, o.op = .fieldAddr a y c) ∨ ∃ a c, o.op = .indexAddr a y c) (h : EffR P W call ops slots bl key o ef) : ∀ k', ownK ef.s = some k' → ownK (opd slots y) = some k' := by
  have hR : RunR P W call (opd slots) bl key o ef → ∀ k', ownK ef.s = some k' → ownK (opd slots y) = some k' := by
    intro hr k' hk
    rcases hop with ⟨a, c, ho⟩ | ⟨a, c, ho⟩
    · simp only [RunR, ho, effS] at hr
      have hr := hr.1
      split at hr
      · rename_i s hs
        cases hr
        exact stepW_own (.inl ⟨a, c, ho⟩) hs k' hk
      · cases hr
    · simp only [RunR, ho, effS] at hr
      have hr := hr.1
      split at hr
      · repeat' split at hr
        all_goals first
          | (cases hr; done)
          | (cases hr; cases hk; done)
      · split at hr
        · rename_i s hs
          cases hr
          exact stepW_own (.inr ⟨a, c, ho⟩) hs k' hk
        · cases hr
  unfold EffR at h
  split at h
  · exact hR h
  · exact h.elim
  · rcases h with ⟨b, _, ⟨_, h⟩ | ⟨_, rfl⟩⟩ | ⟨_, rfl⟩
    · exact hR h
    all_goals (intro k' hk; cases hk)

theorem EffR_made {call : FuncId → List Value → (Value → Prop) → Prop} {ops : List Oper} {slots : List S} {bl : Nat → Option Blk} {key : Nat} {o : Oper} {ef : Ef}
    (hop : (∃ a, o.op = .alloc a) ∨ ∃ a x, o.op = .box a x) (h : EffR P W call ops slots bl key o ef) : ∀ k', ownK ef.s = some k' → k' = key := by
  have hR : RunR P W call (opd slots) bl key o ef → ∀ k', ownK ef.s = some k' → k' = key := by
    intro hr k' hk
    rcases hop with ⟨a, ho⟩ | ⟨a, x, ho⟩
    · simp only [RunR, ho, effS] at hr
      have hr := hr.1
      repeat' split at hr
      all_goals first
        | (cases hr; done)
        | (cases hr; exact (Option.some.inj hk).symm)
    · simp only [RunR, ho, effS] at hr
      have hr := hr.1
      repeat' split at hr
      all_goals first
        | (cases hr; done)
        | (cases hr; exact (Option.some.inj hk).symm)
  unfold EffR at h
  split at h
  · exact hR h
  · exact h.elim
  · rcases h with ⟨b, _, ⟨_, h⟩ | ⟨_, rfl⟩⟩ | ⟨_, rfl⟩
    · exact hR h
    all_goals (intro k' hk; cases hk)

theorem Inv.start {ops : List Oper} {st0 : St} : Inv ops st0 st0 := by
  refine ⟨fun _ _ => rfl, rfl, fun n x k hk k' hk' => ?_⟩
  cases n with
  | zero => cases hk
  | succ n =>
    unfold keyO at hk
    split at hk
    · split at hk
      · rw [hk'] at hk; exact Option.some.inj hk
      · split at hk
        · cases hk
        · split at hk
          · cases hk
          · split at hk
            · rename_i hb
              simp only [Bool.and_eq_true] at hb
              have h2 := hb.2
              simp only [slotOk, hk'] at h2
              rw [← Option.some.inj hk]
              exact Nat.eq_of_beq_eq_true h2
            · cases hk
    · cases hk

theorem Inv.app {call : FuncId → List Value → (Value → Prop) → Prop} {ops : List Oper} {st0 st : St} (h : Inv ops st0 st) {o : Oper} {j : Nat} (hj : ops[j]? = some o) {ef : Ef} (he : EffR P W call ops st.slots st.blocks (st.next + j) o ef) : Inv ops st0 (appE o.dst ef st) := by
  have ho : o ∈ ops := List.mem_of_getElem? hj
  have hsl : ∀ t, wrtn ops t = false → (appE o.dst ef st).slots[t]? = st0.slots[t]? := by
    intro t ht
    simp only [appE]
    rw [putO_get, h.sl t ht]
    rintro d hd rfl
    simp only [wrtn, List.any_eq_false] at ht
    have := ht o ho
    simp [hd] at this
  refine ⟨hsl, h.nx, fun n x k hk k' hk' => ?_⟩
  by_cases hx : ∃ t, x = .tmp t ∧ o.dst = some t
  · obtain ⟨t, rfl, hd⟩ := hx
    cases n with
    | zero => cases hk
    | succ n =>
      unfold keyO at hk
      simp only at hk
      split at hk
      · rename_i hw
        simp only [opd, hsl t hw] at hk'
        simp only [opd] at hk
        rw [hk'] at hk; exact Option.some.inj hk
      · split at hk
        · cases hk
        · split at hk
          · cases hk
          · rename_i k1 _
            split at hk
            · rename_i hb
              simp only [Bool.and_eq_true] at hb
              cases hk
              have hwr := writersOk_spec hb.1 j o hj hd
              have hs : ownK ef.s = some k' := by
                simp only [appE, hd, opd] at hk'
                rcases putO_get? (slots := st.slots) (s := ef.s) (rfl : t = t) with e | e
                · rw [e] at hk'; cases hk'
                · rw [e] at hk'; exact hk'
              rcases hwr with ⟨y, hop, hy⟩ | ⟨hop, hq⟩
              · exact h.ky n y _ hy k' (EffR_own hop he k' hs)
              · rw [EffR_made hop he k' hs, h.nx]
                exact hq
            · cases hk
  · refine h.ky n x k hk k' ?_
    rw [← hk']
    cases x with
    | tmp t =>
      have : (appE o.dst ef st).slots[t]? = st.slots[t]? := by
        simp only [appE]
        exact putO_get fun d hd e => hx ⟨t, rfl, e ▸ hd⟩
      simp only [opd, this]
    | _ => rfl

theorem mark_acc {ops : List Oper} {st0 st : St} (h : Inv ops st0 st) {j : Nat} {o : Oper} :
    match markO ops st0.slots st0.next j o with
    | .no => accK (opd st.slots) (st.next + j) o = none
    | .rd k => (∀ k', accK (opd st.slots) (st.next + j) o = some k' → k' = k) ∧ ∃ t x, o.op = .load t x
    | .ru => ∃ t x, o.op = .load t x
    | .wr k => (∀ k', accK (opd st.slots) (st.next + j) o = some k' → k' = k) ∧ ∃ t x y, o.op = .store t x y
    | .al k => (∀ k', accK (opd st.slots) (st.next + j) o = some k' → k' = k) ∧ ((∃ t, o.op = .alloc t) ∨ ∃ t x, o.op = .box t x)
    | .un => (∃ t x, o.op = .load t x) ∨ ∃ t x y, o.op = .store t x y := by
  obtain ⟨dst, op, type, pos, after, guard⟩ := o
  cases op <;> try rfl
  case alloc t => simp only [markO, accK, h.nx]; exact ⟨fun k' e => (Option.some.inj e).symm, .inl ⟨_, rfl⟩⟩
  case box t x => simp only [markO, accK, h.nx]; exact ⟨fun k' e => (Option.some.inj e).symm, .inr ⟨_, _, rfl⟩⟩
  case load t x =>
    simp only [markO, accK]
    cases hk : keyO ops st0.slots st0.next 6 x with
    | none => exact ⟨_, _, rfl⟩
    | some k => exact ⟨h.ky _ _ _ hk, _, _, rfl⟩
  case store t x y =>
    simp only [markO, accK]
    cases hk : keyO ops st0.slots st0.next 6 x with
    | none => exact .inr ⟨_, _, _, rfl⟩
    | some k => exact ⟨h.ky _ _ _ hk, _, _, _, rfl⟩

theorem mk_free {call : FuncId → List Value → (Value → Prop) → Prop} {ops : Array Oper} {st0 st : St} (h : Inv ops.toList st0 st) {j i : Nat} {oj oi : Oper} {e1 e2 : Ef}
    (hm : mkApart (markO ops.toList st0.slots st0.next j oj) (markO ops.toList st0.slots st0.next i oi) = true)
    (h1 : EffR P W call ops.toList st.slots st.blocks (st.next + j) oj e1) (h2 : EffR P W call ops.toList st.slots (updB st.blocks e1.u) (st.next + i) oi e2) : Free P W call ops st j i oj oi e1 e2 := by
  have mj := mark_acc (ops := ops.toList) h (j := j) (o := oj)
  have mi := mark_acc (ops := ops.toList) h (j := i) (o := oi)
  generalize markO ops.toList st0.slots st0.next j oj = a at *
  generalize markO ops.toList st0.slots st0.next i oi = b at *
  cases a <;> cases b <;> simp only [mkApart] at hm <;> try (cases hm; done)
  case no.no => exact free_of (fun k hj hi => by rw [mj] at hj; cases hj) h1 h2
  case no.rd => exact free_of (fun k hj hi => by rw [mj] at hj; cases hj) h1 h2
  case no.ru => exact free_of (fun k hj hi => by rw [mj] at hj; cases hj) h1 h2
  case no.wr => exact free_of (fun k hj hi => by rw [mj] at hj; cases hj) h1 h2
  case no.al => exact free_of (fun k hj hi => by rw [mj] at hj; cases hj) h1 h2
  case no.un => exact free_of (fun k hj hi => by rw [mj] at hj; cases hj) h1 h2
  case rd.no => exact free_of (fun k hj hi => by rw [mi] at hi; cases hi) h1 h2
  case ru.no => exact free_of (fun k hj hi => by rw [mi] at hi; cases hi) h1 h2
  case wr.no => exact free_of (fun k hj hi => by rw [mi] at hi; cases hi) h1 h2
  case al.no => exact free_of (fun k hj hi => by rw [mi] at hi; cases hi) h1 h2
  case un.no => exact free_of (fun k hj hi => by rw [mi] at hi; cases hi) h1 h2
  case rd.rd => exact free_of (fun k hj hi => ⟨(EffR_u h1).2 mj.2, (EffR_u h2).2 mi.2⟩) h1 h2
  case ru.rd => exact free_of (fun k hj hi => ⟨(EffR_u h1).2 mj, (EffR_u h2).2 mi.2⟩) h1 h2
  case rd.ru => exact free_of (fun k hj hi => ⟨(EffR_u h1).2 mj.2, (EffR_u h2).2 mi⟩) h1 h2
  case ru.ru => exact free_of (fun k hj hi => ⟨(EffR_u h1).2 mj, (EffR_u h2).2 mi⟩) h1 h2
  case rd.al => exact free_al (.inl mj.2) mi.2 h1 h2
  case ru.al => exact free_al (.inl mj) mi.2 h1 h2
  case wr.al => exact free_al (.inr mj.2) mi.2 h1 h2
  case un.al => exact free_al mj mi.2 h1 h2
  all_goals
    refine free_of (fun k hj hi => ?_) h1 h2
    have e1 := mj.1 k hj
    have e2 := mi.1 k hi
    subst e1
    subst e2
    simp at hm

/-- Operations run one behind the other. -/
def Runs (P : Program) (W : World) (call : FuncId → List Value → (Value → Prop) → Prop) (ops : Array Oper) : List Nat → St → St → Prop
  | [], st, sf => st = sf
  | j :: l, st, sf => ∃ o ef, ops[j]? = some o ∧ EffR P W call ops.toList st.slots st.blocks (st.next + j) o ef ∧ Runs P W call ops l (appE o.dst ef st) sf

/-- Operation i comes to the front. -/
theorem bubble {call : FuncId → List Value → (Value → Prop) → Prop} {ops : Array Oper} {st0 sf : St} {i : Nat} {oi : Oper} (hi : ops[i]? = some oi) {post : List Nat} :
    ∀ (pre : List Nat) (st : St), (∀ j ∈ pre, ∀ oj, ops[j]? = some oj → oj.apart ops oi = true ∧ mkApart (markO ops.toList st0.slots st0.next j oj) (markO ops.toList st0.slots st0.next i oi) = true) →
      Inv ops.toList st0 st → Runs P W call ops (pre ++ i :: post) st sf → ∃ ef, EffR P W call ops.toList st.slots st.blocks (st.next + i) oi ef ∧ Runs P W call ops (pre ++ post) (appE oi.dst ef st) sf
  | [], st, _, _, h => by
    obtain ⟨o, ef, ho, he, hr⟩ := h
    rw [hi] at ho
    cases ho
    exact ⟨ef, he, hr⟩
  | j :: pre, st, hp, hinv, h => by
    obtain ⟨oj, e1, hj, he1, hr⟩ := h
    obtain ⟨e2, he2, hr2⟩ := bubble hi pre _ (fun j' hj' => hp j' (by simp [hj'])) (hinv.app (by simpa using hj) he1) hr
    obtain ⟨h1, h2⟩ := hp j (by simp) oj hj
    have he2' : EffR P W call ops.toList (appE oj.dst e1 st).slots (appE oj.dst e1 st).blocks (st.next + i) oi e2 := he2
    obtain ⟨s1, s2, s3⟩ := swap h1 (mk_free hinv h2 he1 (later_slots h1 he2'))
    refine ⟨e2, s1, oj, e1, hj, s2, ?_⟩
    rw [s3]
    exact hr2

theorem aheadOk_spec {ops : Array Oper} {slots : List S} {next i : Nat} {oi : Oper} : ∀ {l : List Oper} {j0 : Nat}, aheadOk ops slots next i oi j0 l = true →
    ∀ n o, l[n]? = some o → j0 + n < i → pairOk ops slots next i oi (j0 + n) o = true
  | [], j0, _, n, o, h, _ => by simp at h
  | x :: l, j0, h, n, o, hn, hlt => by
    simp only [aheadOk] at h
    have hb : Nat.blt j0 i = true := by
      rw [Nat.blt_eq]; omega
    rw [hb] at h
    dsimp only at h
    split at h
    · rename_i hp
      cases n with
      | zero => simp at hn; subst hn; simpa using hp
      | succ n =>
        have := aheadOk_spec h n o (by simpa using hn) (by omega)
        rwa [show j0 + 1 + n = j0 + (n + 1) from by omega] at this
    · cases h

theorem allOk_spec {ops : Array Oper} {slots : List S} {next : Nat} : ∀ {l : List Oper} {i0 : Nat}, allOk ops slots next i0 l = true →
    ∀ n o, l[n]? = some o → backOk (i0 + n) o = true ∧ aheadOk ops slots next (i0 + n) o 0 ops.toList = true
  | [], i0, _, n, o, h => by simp at h
  | x :: l, i0, h, n, o, hn => by
    simp only [allOk] at h
    split at h
    · rename_i hp
      simp only [Bool.and_eq_true] at hp
      cases n with
      | zero => simp at hn; subst hn; simpa using hp
      | succ n =>
        have := allOk_spec h n o (by simpa using hn)
        rwa [show i0 + 1 + n = i0 + (n + 1) from by omega] at this
    · cases h

theorem edge_of {o : Oper} {e : Edge} (he : e ∈ o.after) (hb : Region.binds .any e = true) : edge o e.on = true := by
  simp only [edge, List.any_eq_true]
  exact ⟨e, by simpa using he, by simp [hb]⟩

theorem getD_lt {listed : Array Bool} {i : Nat} (h : i < listed.size) (d d' : Bool) : listed.getD i d = listed.getD i d' := by
  simp [h]

theorem any_ok {call : FuncId → List Value → (Value → Prop) → Prop} (hc : CallOK P W call) (hW : Below W.heap.size W w0) {ops : Array Oper} {st0 sf : St} {Q : Exit → Act → World → Prop}
    (hall : allOk ops st0.slots st0.next 0 ops.toList = true) : ∀ (fuel : Nat) (l : List Nat) (listed : Array Bool) (ad : Ad) (st : St) (a : Act) (w : World), listed.size = ops.size → l.Pairwise (· < ·) →
      (∀ i, i ∈ l ↔ i < ops.size ∧ listed.getD i true = false) → l.length ≤ fuel → Runs P W call ops l st sf → Inv ops.toList st0 st → Rep w0 ad st a w →
      (∀ ad' a' w', Rep w0 ad' sf a' w' → Q .normal a' w') → wpAny P .any ops Q fuel listed a w := by
  have hback : ∀ i o, ops[i]? = some o → ∀ e ∈ o.after, Region.binds .any e = true → e.on < i := by
    intro i o ho e he hb
    have := (allOk_spec hall i o (by simpa using ho)).1
    simp only [backOk, Nat.zero_add, List.all_eq_true] at this
    have := this e (by simpa using he)
    simpa [hb] using this
  have hpair : ∀ i oi j oj, ops[i]? = some oi → ops[j]? = some oj → j < i → pairOk ops st0.slots st0.next i oi j oj = true := by
    intro i oi j oj hi hj hlt
    have := (allOk_spec hall i oi (by simpa using hi)).2
    have := aheadOk_spec this j oj (by simpa using hj) (by omega)
    simpa using this
  have hempty : ∀ (l : List Nat) (listed : Array Bool), listed.size = ops.size → l.Pairwise (· < ·) → (∀ i, i ∈ l ↔ i < ops.size ∧ listed.getD i true = false) → Region.ready .any ops listed = [] → l = [] := by
    intro l listed hsz hs hl hr
    cases l with
    | nil => rfl
    | cons i l =>
      exfalso
      have hi := (hl i).1 (by simp)
      have : i ∈ Region.ready .any ops listed := by
        rw [mem_ready]
        refine ⟨hi.2, ops[i], Array.getElem?_eq_getElem hi.1, fun e he hb => ?_⟩
        have hlt := hback i ops[i] (Array.getElem?_eq_getElem hi.1) e he hb
        have hnot : e.on ∉ i :: l := by
          intro hm
          rcases List.mem_cons.1 hm with h | h
          · omega
          · have := (List.pairwise_cons.1 hs).1 _ h
            omega
        have h1 : ¬ (e.on < ops.size ∧ listed.getD e.on true = false) := fun h => hnot ((hl e.on).2 h)
        have h2 : e.on < ops.size := by omega
        have h3 : listed.getD e.on true = true := by
          cases h : listed.getD e.on true
          · exact absurd ⟨h2, h⟩ h1
          · rfl
        rw [getD_lt (by omega) false true]
        exact h3
      rw [hr] at this
      cases this
  intro fuel
  induction fuel with
  | zero =>
    intro l listed ad st a w hsz hs hl hle hr hinv hrep hQ
    have hnil : l = [] := by cases l with
      | nil => rfl
      | cons x l => simp at hle
    subst hnil
    have : Region.ready .any ops listed = [] := by
      cases h : Region.ready .any ops listed with
      | nil => rfl
      | cons i r =>
        have hm : i ∈ Region.ready .any ops listed := by rw [h]; simp
        rw [mem_ready] at hm
        obtain ⟨h0, o, ho, _⟩ := hm
        have := (hl i).2 ⟨(Array.getElem?_eq_some_iff.1 ho).1, h0⟩
        cases this
    have hr : st = sf := hr
    subst hr
    exact ⟨this, hQ ad a w hrep⟩
  | succ fuel ih =>
    intro l listed ad st a w hsz hs hl hle hr hinv hrep hQ
    refine ⟨fun h0 => ?_, fun i hi => ?_⟩
    · have := hempty l listed hsz hs hl h0
      subst this
      have hr : st = sf := hr
      subst hr
      exact hQ ad a w hrep
    · obtain ⟨h0, oi, hoi, hedges⟩ := mem_ready.1 hi
      have hil := (hl i).2 ⟨(Array.getElem?_eq_some_iff.1 hoi).1, h0⟩
      obtain ⟨pre, post, rfl⟩ := List.append_of_mem hil
      have hpre : ∀ j ∈ pre, j < i := fun j hj => (List.pairwise_append.1 hs).2.2 j hj i (by simp)
      have hpost : ∀ j ∈ post, i < j := fun j hj => (List.pairwise_cons.1 (List.pairwise_append.1 hs).2.1).1 j hj
      obtain ⟨ef, he, hruns⟩ := bubble (st0 := st0) hoi pre st (fun j hj oj hoj => by
        have hp := hpair i oi j oj hoi hoj (hpre j hj)
        simp only [pairOk, Bool.or_eq_true, Bool.and_eq_true] at hp
        rcases hp with hp | hp
        · exfalso
          simp only [edge, List.any_eq_true, Bool.and_eq_true] at hp
          obtain ⟨e, hem, hb, hon⟩ := hp
          have hon := Nat.eq_of_beq_eq_true hon
          have h1 := hedges e (by simpa using hem) hb
          have h2 := ((hl j).1 (by simp [hj]))
          rw [hon, getD_lt (by omega) false true, h2.2] at h1
          cases h1
        · exact hp) hinv hr
      refine EffR_wp hc hW hoi he hrep fun ad' a' w' hrep' => ?_
      refine ih (pre ++ post) (listed.setIfInBounds i true) ad' _ a' w' (by simpa using hsz) ?_ ?_ (by simp at hle ⊢; omega) hruns (hinv.app (by simpa using hoi) he) hrep' hQ
      · rw [List.pairwise_append] at hs ⊢
        exact ⟨hs.1, (List.pairwise_cons.1 hs.2.1).2, fun x hx y hy => hs.2.2 x hx y (by simp [hy])⟩
      · intro j
        by_cases hji : j = i
        · subst hji
          have hlt : j < listed.size := by rw [hsz]; exact (Array.getElem?_eq_some_iff.1 hoi).1
          constructor
          · intro hm
            rcases List.mem_append.1 hm with h | h
            · have := hpre j h; omega
            · have := hpost j h; omega
          · intro ⟨_, h⟩
            simp [hlt] at h
        · rw [getD_set_ne true (Ne.symm hji), ← hl j]
          simp [hji]
end
end SX
end Go.Proofs.Ytegdbpbafdpkfaa
