/- A region that draws its order comes to what its text's order comes to. No condition. -/
import Derived.Test.YtjibdkdmioacgaaSxG
namespace Go.Proofs.Ytjibdkdmioacgaa
open Go.RowKit
namespace SX
section
variable {P : Program} {ad : Ad} {w0 w W : World}

/-- The slots that no operation of the region writes are as they were. -/
structure Inv (ops : List Oper) (st0 st : St) : Prop where
  sl : ∀ t, wrtn ops t = false → st.slots[t]? = st0.slots[t]?
  nx : st.next = st0.next

theorem Inv.app {ops : List Oper} {st0 st : St} (h : Inv ops st0 st) {o : Oper} (ho : o ∈ ops) (ef : Ef) : Inv ops st0 (appE o.dst ef st) := by
  refine ⟨fun t ht => ?_, h.nx⟩
  simp only [appE]
  rw [putO_get, h.sl t ht]
  rintro d hd rfl
  simp only [wrtn, List.any_eq_false] at ht
  have := ht o ho
  simp [hd] at this

theorem keyO_own {ops : List Oper} {st0 st : St} (h : Inv ops st0 st) {x : Operand} {k : Nat} (hk : keyO ops st0.slots x = some k) : ownK (opd st.slots x) = some k := by
  unfold keyO at hk
  split at hk
  · rename_i t
    split at hk
    · cases hk
    · rename_i hw
      have he : opd st.slots (.tmp t) = opd st0.slots (.tmp t) := by simp only [opd, h.sl t hw]
      rw [he]
      split at hk
      · rename_i k' off hx
        simp only [Option.some.injEq] at hk
        rw [hx, ← hk]
        rfl
      · cases hk
  · cases hk

theorem mark_acc {ops : List Oper} {st0 st : St} (h : Inv ops st0 st) {j : Nat} {o : Oper} :
    match markO ops st0.slots st0.next j o with
    | .no => accK (opd st.slots) (st.next + j) o = none
    | .rd k => accK (opd st.slots) (st.next + j) o = some k ∧ ∃ t x, o.op = .load t x
    | .ru => ∃ t x, o.op = .load t x
    | .wr k => accK (opd st.slots) (st.next + j) o = some k
    | .un => True := by
  obtain ⟨dst, op, type, pos, after, guard⟩ := o
  cases op <;> try rfl
  case alloc t => simp only [markO, accK, h.nx]
  case box t x => simp only [markO, accK, h.nx]
  case load t x =>
    simp only [markO, accK]
    cases hk : keyO ops st0.slots x with
    | none => exact ⟨_, _, rfl⟩
    | some k => exact ⟨keyO_own h hk, _, _, rfl⟩
  case store t x y =>
    simp only [markO, accK]
    cases hk : keyO ops st0.slots x with
    | none => trivial
    | some k => exact keyO_own h hk

theorem mk_apart {call : FuncId → List Value → (Value → Prop) → Prop} {ops : List Oper} {st0 st : St} (h : Inv ops st0 st) {j i : Nat} {oj oi : Oper} {e1 e2 : Ef} {st' : St}
    (hm : mkApart (markO ops st0.slots st0.next j oj) (markO ops st0.slots st0.next i oi) = true)
    (h1 : EffR P W call ops st.slots st.blocks (st.next + j) oj e1) (h2 : EffR P W call ops st'.slots st'.blocks (st.next + i) oi e2) :
    ∀ k, accK (opd st.slots) (st.next + j) oj = some k → accK (opd st.slots) (st.next + i) oi = some k → e1.u = none ∧ e2.u = none := by
  intro k hj hi
  have mj := mark_acc (ops := ops) h (j := j) (o := oj)
  have mi := mark_acc (ops := ops) h (j := i) (o := oi)
  generalize markO ops st0.slots st0.next j oj = a at *
  generalize markO ops st0.slots st0.next i oi = b at *
  cases a <;> cases b <;> simp only [mkApart] at hm <;> try (cases hm; done)
  case no.no => rw [mj] at hj; cases hj
  case no.rd => rw [mj] at hj; cases hj
  case no.wr => rw [mj] at hj; cases hj
  case no.un => rw [mj] at hj; cases hj
  case no.ru => rw [mj] at hj; cases hj
  case ru.no => rw [mi] at hi; cases hi
  case ru.rd => exact ⟨(EffR_u h1).2 mj, (EffR_u h2).2 mi.2⟩
  case rd.ru => exact ⟨(EffR_u h1).2 mj.2, (EffR_u h2).2 mi⟩
  case ru.ru => exact ⟨(EffR_u h1).2 mj, (EffR_u h2).2 mi⟩
  case rd.no => rw [mi] at hi; cases hi
  case wr.no => rw [mi] at hi; cases hi
  case un.no => rw [mi] at hi; cases hi
  case rd.rd => exact ⟨(EffR_u h1).2 mj.2, (EffR_u h2).2 mi.2⟩
  case rd.wr x y =>
    rw [mj.1] at hj; rw [mi] at hi
    simp only [Option.some.injEq] at hj hi
    subst hj; subst hi
    simp at hm
  case wr.rd x y =>
    rw [mj] at hj; rw [mi.1] at hi
    simp only [Option.some.injEq] at hj hi
    subst hj; subst hi
    simp at hm
  case wr.wr x y =>
    rw [mj] at hj; rw [mi] at hi
    simp only [Option.some.injEq] at hj hi
    subst hj; subst hi
    simp at hm

/-- Operations run one behind the other. -/
def Runs (P : Program) (W : World) (call : FuncId → List Value → (Value → Prop) → Prop) (ops : Array Oper) : List Nat → St → St → Prop
  | [], st, sf => st = sf
  | j :: l, st, sf => ∃ o ef, ops[j]? = some o ∧ EffR P W call ops.toList st.slots st.blocks (st.next + j) o ef ∧ Runs P W call ops l (appE o.dst ef st) sf

/-- Operation i comes to the front. -/
theorem bubble {call : FuncId → List Value → (Value → Prop) → Prop} {ops : Array Oper} {st0 sf : St} {i : Nat} {oi : Oper} (hi : ops[i]? = some oi) {post : List Nat} :
    ∀ (pre : List Nat) (st : St), (∀ j ∈ pre, ∀ oj, ops[j]? = some oj → oj.apart ops oi = true ∧ mkApart (markO ops.toList st0.slots st0.next j oj) (markO ops.toList st0.slots st0.next i oi) = true) →
      Inv ops.toList st0 st → Runs P W call ops (pre ++ i :: post) st sf → ∃ ef, EffR P W call ops.toList st.slots st.blocks (st.next + i) oi ef ∧ Runs P W call ops (pre ++ post) (appE oi.dst ef st) sf
  | [], st, _, _, h => by
    obtain ⟨o, ef, ho, he, hr⟩ := h
    rw [hi] at ho
    cases ho
    exact ⟨ef, he, hr⟩
  | j :: pre, st, hp, hinv, h => by
    obtain ⟨oj, e1, hj, he1, hr⟩ := h
    have hmem : oj ∈ ops.toList := by
      have := Array.mem_of_getElem? hj
      simpa using this
    obtain ⟨e2, he2, hr2⟩ := bubble hi pre _ (fun j' hj' => hp j' (by simp [hj'])) (hinv.app hmem e1) hr
    obtain ⟨h1, h2⟩ := hp j (by simp) oj hj
    have he2' : EffR P W call ops.toList (appE oj.dst e1 st).slots (appE oj.dst e1 st).blocks (st.next + i) oi e2 := he2
    obtain ⟨s1, s2, s3⟩ := swap h1 (mk_apart hinv h2 he1 he2') he1 he2'
    refine ⟨e2, s1, oj, e1, hj, s2, ?_⟩
    rw [s3]
    exact hr2

theorem aheadOk_spec {ops : Array Oper} {slots : List S} {next i : Nat} {oi : Oper} : ∀ {l : List Oper} {j0 : Nat}, aheadOk ops slots next i oi j0 l = true →
    ∀ n o, l[n]? = some o → j0 + n < i → pairOk ops slots next i oi (j0 + n) o = true
  | [], j0, _, n, o, h, _ => by simp at h
  | x :: l, j0, h, n, o, hn, hlt => by
    simp only [aheadOk] at h
    have hb : Nat.blt j0 i = true := by
      rw [Nat.blt_eq]; omega
    rw [hb] at h
    dsimp only at h
    split at h
    · rename_i hp
      cases n with
      | zero => simp at hn; subst hn; simpa using hp
      | succ n =>
        have := aheadOk_spec h n o (by simpa using hn) (by omega)
        rwa [show j0 + 1 + n = j0 + (n + 1) from by omega] at this
    · cases h

theorem allOk_spec {ops : Array Oper} {slots : List S} {next : Nat} : ∀ {l : List Oper} {i0 : Nat}, allOk ops slots next i0 l = true →
    ∀ n o, l[n]? = some o → backOk (i0 + n) o = true ∧ aheadOk ops slots next (i0 + n) o 0 ops.toList = true
  | [], i0, _, n, o, h => by simp at h
  | x :: l, i0, h, n, o, hn => by
    simp only [allOk] at h
    split at h
    · rename_i hp
      simp only [Bool.and_eq_true] at hp
      cases n with
      | zero => simp at hn; subst hn; simpa using hp
      | succ n =>
        have := allOk_spec h n o (by simpa using hn)
        rwa [show i0 + 1 + n = i0 + (n + 1) from by omega] at this
    · cases h

theorem edge_of {o : Oper} {e : Edge} (he : e ∈ o.after) (hb : Region.binds .any e = true) : edge o e.on = true := by
  simp only [edge, List.any_eq_true]
  exact ⟨e, by simpa using he, by simp [hb]⟩

theorem getD_lt {listed : Array Bool} {i : Nat} (h : i < listed.size) (d d' : Bool) : listed.getD i d = listed.getD i d' := by
  simp [h]

theorem any_ok {call : FuncId → List Value → (Value → Prop) → Prop} (hc : CallOK P W call) (hW : Below W.heap.size W w0) {ops : Array Oper} {st0 sf : St} {Q : Exit → Act → World → Prop}
    (hall : allOk ops st0.slots st0.next 0 ops.toList = true) : ∀ (fuel : Nat) (l : List Nat) (listed : Array Bool) (ad : Ad) (st : St) (a : Act) (w : World), listed.size = ops.size → l.Pairwise (· < ·) →
      (∀ i, i ∈ l ↔ i < ops.size ∧ listed.getD i true = false) → l.length ≤ fuel → Runs P W call ops l st sf → Inv ops.toList st0 st → Rep w0 ad st a w →
      (∀ ad' a' w', Rep w0 ad' sf a' w' → Q .normal a' w') → wpAny P .any ops Q fuel listed a w := by
  have hback : ∀ i o, ops[i]? = some o → ∀ e ∈ o.after, Region.binds .any e = true → e.on < i := by
    intro i o ho e he hb
    have := (allOk_spec hall i o (by simpa using ho)).1
    simp only [backOk, Nat.zero_add, List.all_eq_true] at this
    have := this e (by simpa using he)
    simpa [hb] using this
  have hpair : ∀ i oi j oj, ops[i]? = some oi → ops[j]? = some oj → j < i → pairOk ops st0.slots st0.next i oi j oj = true := by
    intro i oi j oj hi hj hlt
    have := (allOk_spec hall i oi (by simpa using hi)).2
    have := aheadOk_spec this j oj (by simpa using hj) (by omega)
    simpa using this
  have hempty : ∀ (l : List Nat) (listed : Array Bool), listed.size = ops.size → l.Pairwise (· < ·) → (∀ i, i ∈ l ↔ i < ops.size ∧ listed.getD i true = false) → Region.ready .any ops listed = [] → l = [] := by
    intro l listed hsz hs hl hr
    cases l with
    | nil => rfl
    | cons i l =>
      exfalso
      have hi := (hl i).1 (by simp)
      have : i ∈ Region.ready .any ops listed := by
        rw [mem_ready]
        refine ⟨hi.2, ops[i], Array.getElem?_eq_getElem hi.1, fun e he hb => ?_⟩
        have hlt := hback i ops[i] (Array.getElem?_eq_getElem hi.1) e he hb
        have hnot : e.on ∉ i :: l := by
          intro hm
          rcases List.mem_cons.1 hm with h | h
          · omega
          · have := (List.pairwise_cons.1 hs).1 _ h
            omega
        have h1 : ¬ (e.on < ops.size ∧ listed.getD e.on true = false) := fun h => hnot ((hl e.on).2 h)
        have h2 : e.on < ops.size := by omega
        have h3 : listed.getD e.on true = true := by
          cases h : listed.getD e.on true
          · exact absurd ⟨h2, h⟩ h1
          · rfl
        rw [getD_lt (by omega) false true]
        exact h3
      rw [hr] at this
      cases this
  intro fuel
  induction fuel with
  | zero =>
    intro l listed ad st a w hsz hs hl hle hr hinv hrep hQ
    have hnil : l = [] := by cases l with
      | nil => rfl
      | cons x l => simp at hle
    subst hnil
    have : Region.ready .any ops listed = [] := by
      cases h : Region.ready .any ops listed with
      | nil => rfl
      | cons i r =>
        have hm : i ∈ Region.ready .any ops listed := by rw [h]; simp
        rw [mem_ready] at hm
        obtain ⟨h0, o, ho, _⟩ := hm
        have := (hl i).2 ⟨(Array.getElem?_eq_some_iff.1 ho).1, h0⟩
        cases this
    have hr : st = sf := hr
    subst hr
    exact ⟨this, hQ ad a w hrep⟩
  | succ fuel ih =>
    intro l listed ad st a w hsz hs hl hle hr hinv hrep hQ
    refine ⟨fun h0 => ?_, fun i hi => ?_⟩
    · have := hempty l listed hsz hs hl h0
      subst this
      have hr : st = sf := hr
      subst hr
      exact hQ ad a w hrep
    · obtain ⟨h0, oi, hoi, hedges⟩ := mem_ready.1 hi
      have hil := (hl i).2 ⟨(Array.getElem?_eq_some_iff.1 hoi).1, h0⟩
      obtain ⟨pre, post, rfl⟩ := List.append_of_mem hil
      have hpre : ∀ j ∈ pre, j < i := fun j hj => (List.pairwise_append.1 hs).2.2 j hj i (by simp)
      have hpost : ∀ j ∈ post, i < j := fun j hj => (List.pairwise_cons.1 (List.pairwise_append.1 hs).2.1).1 j hj
      obtain ⟨ef, he, hruns⟩ := bubble (st0 := st0) hoi pre st (fun j hj oj hoj => by
        have hp := hpair i oi j oj hoi hoj (hpre j hj)
        simp only [pairOk, Bool.or_eq_true, Bool.and_eq_true] at hp
        rcases hp with hp | hp
        · exfalso
          simp only [edge, List.any_eq_true, Bool.and_eq_true] at hp
          obtain ⟨e, hem, hb, hon⟩ := hp
          have hon := Nat.eq_of_beq_eq_true hon
          have h1 := hedges e (by simpa using hem) hb
          have h2 := ((hl j).1 (by simp [hj]))
          rw [hon, getD_lt (by omega) false true, h2.2] at h1
          cases h1
        · exact hp) hinv hr
      have hmem : oi ∈ ops.toList := by
        have := Array.mem_of_getElem? hoi
        simpa using this
      refine EffR_wp hc hW hoi he hrep fun ad' a' w' hrep' => ?_
      refine ih (pre ++ post) (listed.setIfInBounds i true) ad' _ a' w' (by simpa using hsz) ?_ ?_ (by simp at hle ⊢; omega) hruns (hinv.app hmem ef) hrep' hQ
      · rw [List.pairwise_append] at hs ⊢
        exact ⟨hs.1, (List.pairwise_cons.1 hs.2.1).2, fun x hx y hy => hs.2.2 x hx y (by simp [hy])⟩
      · intro j
        by_cases hji : j = i
        · subst hji
          have hlt : j < listed.size := by rw [hsz]; exact (Array.getElem?_eq_some_iff.1 hoi).1
          constructor
          · intro hm
            rcases List.mem_append.1 hm with h | h
            · have := hpre j h; omega
            · have := hpost j h; omega
          · intro ⟨_, h⟩
            simp [hlt] at h
        · rw [getD_set_ne true (Ne.symm hji), ← hl j]
          simp [hji]
end
end SX
end Go.Proofs.Ytjibdkdmioacgaa
