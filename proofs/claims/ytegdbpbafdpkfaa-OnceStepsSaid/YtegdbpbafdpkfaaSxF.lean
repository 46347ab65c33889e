/- One operation of the symbolic executor, and what it hangs on. No condition. -/
import Derived.Test.YtegdbpbafdpkfaaSxE
namespace Go.Proofs.Ytegdbpbafdpkfaa
open Go.RowKit
namespace SX

structure Rep (w0 : World) (ad : Ad) (st : St) (a : Act) (w : World) : Prop where
  sl : All2 (DS ad) st.slots a.tmps.toList
  df : a.defers = []
  mem : Mem w0 ad st.blocks w

section
variable {P : Program} {ad : Ad} {w0 w W : World}

theorem put_ok {slots : List S} {a : Act} {s : S} {v : Value} (h : All2 (DS ad) slots a.tmps.toList) (hd : DS ad s v) (d : Option Nat) :
    All2 (DS ad) (putO slots d s) (a.put d v).tmps.toList := by
  cases d with
  | none => exact h
  | some d =>
    simp only [putO, Act.put, Array.toList_setIfInBounds]
    exact h.set d hd
theorem put_df {a : Act} (h : a.defers = []) (d : Option Nat) (v : Value) : (a.put d v).defers = [] := by
  cases d <;> exact h

theorem set_same {slots : List S} {d : Nat} {s : S} (h : slots[d]? = some s) : slots.set d s = slots := by
  apply List.ext_getElem?
  intro i
  rw [List.getElem?_set]
  split
  · rename_i e
    subst e
    split
    · exact h.symm
    · rename_i hl
      rw [List.getElem?_eq_none (by omega)] at h
      cases h
  · rfl

theorem sideP_ok {p : Option Prop} {k : Prop} (h : sideP p k) : sideH p ∧ k := by
  cases p with
  | none => exact ⟨trivial, h⟩
  | some p => exact h

/-- What a call symbolically run is worth. -/
def CallOK (P : Program) (W : World) (call : FuncId → List Value → (Value → Prop) → Prop) : Prop :=
  ∀ f vs k, call f vs k → (∃ fn c, P.funcs[f]? = some fn ∧ fn.body = some c ∧ (fn.name == "runtime.NumGoroutine") = false) ∧
    ∀ w, Below W.heap.size W w → Calls P f vs.toArray w fun e w' => ∃ v, e = .returned v ∧ k v ∧ Below w.heap.size w w'

theorem argsV_ok {ρ : Operand → S} {e : Operand → Value} (hd : ∀ x, DS ad (ρ x) (e x)) : ∀ {l : List Operand} {vs : List Value}, argsV ρ l = some vs → l.map e = vs
  | [], vs, h => by simp only [argsV, Option.some.injEq] at h; exact h
  | x :: l, vs, h => by
    simp only [argsV] at h
    split at h
    · rename_i v hv
      split at h
      · rename_i us hu
        simp only [Option.some.injEq] at h
        subst h
        rw [List.map_cons, sV_ok hv (hd x), argsV_ok hd hu]
      · cases h
    · cases h

theorem run_target {ρ : Operand → S} {e : Operand → Value} {o : Oper} {c : Call} {f : FuncId} {vs : List Value} {fn : Func} {b : Code} (ho : o.op = .call c) (hd : ∀ x, DS ad (ρ x) (e x))
    (h : target ρ c = some (f, vs)) (hf : P.funcs[f]? = some fn) (hb : fn.body = some b) (hn : (fn.name == "runtime.NumGoroutine") = false) (w : World) :
    (execOp e o).run P w = .ok (.enter f vs.toArray) w := by
  unfold target at h
  split at h
  · rename_i x hx
    split at h
    · rename_i g first captured hv
      split at h
      · rename_i us hu
        simp only [Option.some.injEq, Prod.mk.injEq] at h
        obtain ⟨rfl, rfl⟩ := h
        have he := sV_ok hv (hd x)
        have ha := argsV_ok hd hu
        have harr : first ++ c.args.map e ++ captured = (first.toList ++ (us ++ captured.toList)).toArray := by
          apply Array.ext'
          simp [← ha]
        simp only [execOp, ho, resolve, hx, Sem.run_bind, he, Deferred.ofValue, Sem.run_pure, Result.andThen_ok, invoke, callFunc, run_program, hf, hn, hb, Bool.false_eq_true, if_false, Option.isNone_some, harr]
      · cases h
    · cases h
  · cases h

/-- What an operation comes to: the machine's side. -/
def RunR (P : Program) (W : World) (call : FuncId → List Value → (Value → Prop) → Prop) (ρ : Operand → S) (bl : Nat → Option Blk) (key : Nat) (o : Oper) (ef : Ef) : Prop :=
  match o.op with
  | .pick c x y => ∃ b, boolS (ρ c) = some b ∧ ef = ⟨bif b then ρ x else ρ y, none, none⟩
  | .call c => match target ρ c with
    | some (f, vs) => ∃ v, call f vs (fun v' => v' = v) ∧ ef = ⟨ofV v, none, none⟩
    | none => effS P W ρ bl key o = some ef ∧ sideH ef.p
  | _ => effS P W ρ bl key o = some ef ∧ sideH ef.p

def EffR (P : Program) (W : World) (call : FuncId → List Value → (Value → Prop) → Prop) (ops : List Oper) (slots : List S) (bl : Nat → Option Blk) (key : Nat) (o : Oper) (ef : Ef) : Prop :=
  match guardOf ops o with
  | none => RunR P W call (opd slots) bl key o ef
  | some (none, _) => False
  | some (some d, want) => (∃ b, slots[d]? = some (ofB b) ∧ ((b = want ∧ RunR P W call (opd slots) bl key o ef) ∨ (b ≠ want ∧ ef = ⟨undefS, none, none⟩))) ∨ (slots[d]? = some undefS ∧ ef = ⟨undefS, none, none⟩)

theorem run_pick {o : Oper} {e : Operand → Value} {c x y : Operand} {b : Bool} (ho : o.op = .pick c x y) (hb : e c = .bool b) (w : World) :
    (execOp e o).run P w = .ok (.value (bif b then e x else e y)) w := by
  cases b <;> simp [execOp, ho, hb, asBool]

theorem EffS_wp {st : St} {a : Act} {key : Nat} {o : Oper} {ef : Ef} {K : Act → World → Prop} {Q : Exit → Act → World → Prop}
    (hW : Below W.heap.size W w0) (h : effS P W (opd st.slots) st.blocks key o = some ef) (hs : sideH ef.p) (hr : Rep w0 ad st a w) (hK : ∀ ad' a' w', Rep w0 ad' (appE o.dst ef st) a' w' → K a' w') : o.wp P a w K Q := by
  obtain ⟨n, v, w', ad', hrun, hn, hx, hds, hm⟩ := effS_ok h (fun x => opd_ok hr.sl x) hr.mem (hW.trans (hr.mem.base.mono hW.size)) hs
  have hk : K (a.put o.dst v) w' := hK ad' _ _ ⟨put_ok (hr.sl.mono fun _ _ => DS.mono hx) hds _, put_df hr.df _ _, hm⟩
  unfold Oper.wp
  rw [hrun]
  rcases hn with rfl | ⟨rfl, rfl⟩
  · exact hk
  · exact hk

theorem RunR_wp {call : FuncId → List Value → (Value → Prop) → Prop} (hc : CallOK P W call) (hW : Below W.heap.size W w0) {st : St} {a : Act} {key : Nat} {o : Oper} {ef : Ef} {K : Act → World → Prop} {Q : Exit → Act → World → Prop}
    (h : RunR P W call (opd st.slots) st.blocks key o ef) (hr : Rep w0 ad st a w) (hK : ∀ ad' a' w', Rep w0 ad' (appE o.dst ef st) a' w' → K a' w') : o.wp P a w K Q := by
  unfold RunR at h
  split at h
  · rename_i c x y ho
    obtain ⟨b, hb, rfl⟩ := h
    have hcb := boolS_ok hb (opd_ok hr.sl c)
    unfold Oper.wp
    rw [run_pick ho hcb]
    refine hK ad _ _ ⟨put_ok hr.sl ?_ _, put_df hr.df _ _, hr.mem⟩
    cases b
    · exact opd_ok hr.sl y
    · exact opd_ok hr.sl x
  · rename_i c ho
    split at h
    · rename_i f vs ht
      obtain ⟨v, hv, rfl⟩ := h
      obtain ⟨⟨fn, b, hf, hb, hn⟩, hcall⟩ := hc f vs _ hv
      unfold Oper.wp
      rw [run_target ho (fun x => opd_ok hr.sl x) ht hf hb hn]
      refine (hcall w (hW.trans (hr.mem.base.mono hW.size))).mono ?_
      rintro e w' ⟨v', rfl, rfl, hbel⟩
      exact hK ad _ _ ⟨put_ok hr.sl (ofV_ok _) _, put_df hr.df _ _, hr.mem.below hbel⟩
    · exact EffS_wp hW h.1 h.2 hr hK
  · exact EffS_wp hW h.1 h.2 hr hK

theorem yielded_at {ops : Array Oper} {slots : List S} {a : Act} {g d : Nat} {og : Oper} {b : Bool} (hg : ops[g]? = some og) (hd : og.dst = some d) (hs : slots[d]? = some (ofB b)) (h : All2 (DS ad) slots a.tmps.toList) :
    yielded ops a.tmps g = some b := by
  obtain ⟨v, hv, hdv⟩ := h.get hs
  have : v = .bool b := hdv
  subst this
  rw [Array.getElem?_toList] at hv
  simp [yielded, hg, hd, hv]

/-- How a guard is met. -/
theorem wanted_none {ops : Array Oper} {o : Oper} (h : guardOf ops.toList o = none) (y : Nat → Option Bool) : Region.wanted o y = true := by
  unfold guardOf at h
  split at h
  · rename_i hg; simp [Region.wanted, hg]
  · split at h <;> cases h
theorem wanted_some {ops : Array Oper} {o : Oper} {d : Nat} {want b : Bool} {slots : List S} {a : Act} (h : guardOf ops.toList o = some (some d, want)) (hs : slots[d]? = some (ofB b)) (hr : All2 (DS ad) slots a.tmps.toList) :
    Region.wanted o (yielded ops a.tmps) = decide (b = want) := by
  unfold guardOf at h
  split at h
  · cases h
  · rename_i g wt hg
    split at h
    · rename_i og hog
      simp only [Option.some.injEq, Prod.mk.injEq] at h
      obtain ⟨h1, rfl⟩ := h
      simp only [Region.wanted, hg, yielded_at (by simpa using hog) h1 hs hr]
      cases b <;> cases wt <;> rfl
    · simp at h

theorem wanted_undef {ops : Array Oper} {o : Oper} {d : Nat} {want : Bool} {slots : List S} {a : Act} (h : guardOf ops.toList o = some (some d, want)) (hs : slots[d]? = some undefS) (hr : All2 (DS ad) slots a.tmps.toList) :
    Region.wanted o (yielded ops a.tmps) = false := by
  unfold guardOf at h
  split at h
  · cases h
  · rename_i g wt hg
    split at h
    · rename_i og hog
      simp only [Option.some.injEq, Prod.mk.injEq] at h
      obtain ⟨h1, rfl⟩ := h
      obtain ⟨v, hv, vs, rfl, _⟩ := hr.get hs
      rw [Array.getElem?_toList] at hv
      rw [Array.getElem?_toList] at hog
      have : yielded ops a.tmps g = none := by simp [yielded, hog, h1, hv]
      simp [Region.wanted, hg, this]
    · simp at h

theorem EffR_wp {call : FuncId → List Value → (Value → Prop) → Prop} (hc : CallOK P W call) (hW : Below W.heap.size W w0) {ops : Array Oper} {st : St} {a : Act} {key j : Nat} {o : Oper} {ef : Ef} {K : Act → World → Prop} {Q : Exit → Act → World → Prop}
    (ho : ops[j]? = some o) (h : EffR P W call ops.toList st.slots st.blocks key o ef) (hr : Rep w0 ad st a w) (hK : ∀ ad' a' w', Rep w0 ad' (appE o.dst ef st) a' w' → K a' w') : wpOp P ops Q j K a w := by
  unfold wpOp
  simp only [ho]
  unfold EffR at h
  split at h
  · rename_i hg
    rw [if_pos (wanted_none hg _)]
    exact .inl (RunR_wp hc hW h hr hK)
  · exact h.elim
  · rename_i d want hg
    rcases h with ⟨b, hs, h⟩ | ⟨hs, rfl⟩
    case inr =>
      rw [wanted_undef hg hs hr.sl]
      rw [if_neg (by simp)]
      exact hK ad _ _ ⟨put_ok hr.sl undefS_ok _, put_df hr.df _ _, hr.mem⟩
    rw [wanted_some hg hs hr.sl]
    rcases h with ⟨rfl, h⟩ | ⟨hne, rfl⟩
    · rw [if_pos (by simp)]
      exact .inl (RunR_wp hc hW h hr hK)
    · rw [if_neg (by simpa using hne)]
      exact hK ad _ _ ⟨put_ok hr.sl undefS_ok _, put_df hr.df _ _, hr.mem⟩

/-! ### From the run to what it says -/

theorem doC_false {call : FuncId → List Value → (Value → Prop) → Prop} (hc : CallOK P W call) (hW : Below W.heap.size W w0) {st : St} {a : Act} {j : Nat} {o : Oper} {k : St → Prop} {K : Act → World → Prop} {Q : Exit → Act → World → Prop}
    (h : doC P W call false o j st k) (hr : Rep w0 ad st a w) (hK : ∀ ad' st' a' w', k st' → Rep w0 ad' st' a' w' → K a' w') : o.wp P a w K Q := by
  unfold doC at h
  have eff : (match effS P W (opd st.slots) st.blocks (st.next + j) o with
    | some ef => sideP ef.p (k (appE o.dst ef st))
    | none => False) → o.wp P a w K Q := by
    intro h
    split at h
    · rename_i ef hef
      have h := sideP_ok h
      exact EffS_wp hW hef h.1 hr fun ad' a' w' hr' => hK ad' _ a' w' h.2 hr'
    · exact h.elim
  split at h
  · rename_i c x y ho
    split at h
    · rename_i b hb
      have hcb := boolS_ok hb (opd_ok hr.sl c)
      unfold Oper.wp
      rw [run_pick ho hcb]
      cases b
      · exact hK ad _ _ _ h ⟨put_ok hr.sl (opd_ok hr.sl y) _, put_df hr.df _ _, hr.mem⟩
      · exact hK ad _ _ _ h ⟨put_ok hr.sl (opd_ok hr.sl x) _, put_df hr.df _ _, hr.mem⟩
    · exact h.elim
  · rename_i c ho
    split at h
    · rename_i f vs ht
      obtain ⟨⟨fn, b, hf, hb, hn⟩, hcall⟩ := hc f vs _ h
      unfold Oper.wp
      rw [run_target ho (fun x => opd_ok hr.sl x) ht hf hb hn]
      refine (hcall w (hW.trans (hr.mem.base.mono hW.size))).mono ?_
      rintro e w' ⟨v', rfl, hk, hbel⟩
      exact hK ad _ _ _ hk ⟨put_ok hr.sl (ofV_ok _) _, put_df hr.df _ _, hr.mem.below hbel⟩
    · exact eff h
  · exact eff h

theorem doC_true {call : FuncId → List Value → (Value → Prop) → Prop} (hc : CallOK P W call) (hW : Below W.heap.size W w) {st : St} {j : Nat} {o : Oper} {k : St → Prop}
    (h : doC P W call true o j st k) : ∃ ef, RunR P W call (opd st.slots) st.blocks (st.next + j) o ef ∧ k (appE o.dst ef st) := by
  have eff : (match effS P W (opd st.slots) st.blocks (st.next + j) o with
    | some ef => sideP ef.p (k (appE o.dst ef st))
    | none => False) → ∃ ef, (effS P W (opd st.slots) st.blocks (st.next + j) o = some ef ∧ sideH ef.p) ∧ k (appE o.dst ef st) := by
    intro h
    split at h
    · rename_i ef hef
      have h := sideP_ok h
      exact ⟨ef, ⟨hef, h.1⟩, h.2⟩
    · exact h.elim
  obtain ⟨dst, op, type, pos, after, guard⟩ := o
  cases op <;> try exact eff h
  case pick c x y =>
    simp only [doC] at h
    simp only [RunR]
    split at h
    · rename_i b hb
      cases b
      · exact ⟨⟨opd st.slots y, none, none⟩, ⟨false, hb, rfl⟩, h⟩
      · exact ⟨⟨opd st.slots x, none, none⟩, ⟨true, hb, rfl⟩, h⟩
    · exact h.elim
  case call c =>
    simp only [doC] at h
    simp only [RunR]
    split at h
    · rename_i f vs ht
      simp only [ht]
      obtain ⟨_, hcall⟩ := hc f vs _ h
      obtain ⟨e, w', _, ⟨v, _, hv, _⟩, _⟩ := hcall w hW []
      exact ⟨⟨ofV v, none, none⟩, ⟨v, hv.1, rfl⟩, hv.2⟩
    · rename_i ht
      simp only [ht]
      exact eff h

/-! ### With its guard -/

theorem stepC_false {call : FuncId → List Value → (Value → Prop) → Prop} (hc : CallOK P W call) (hW : Below W.heap.size W w0) {ops : Array Oper} {st : St} {a : Act} {j : Nat} {o : Oper} {k : St → Prop} {K : Act → World → Prop} {Q : Exit → Act → World → Prop}
    (ho : ops[j]? = some o) (h : stepC P W call false ops.toList j o st k) (hr : Rep w0 ad st a w) (hK : ∀ ad' st' a' w', k st' → Rep w0 ad' st' a' w' → K a' w') : wpOp P ops Q j K a w := by
  unfold wpOp
  simp only [ho]
  unfold stepC at h
  split at h
  · rename_i hg
    rw [if_pos (wanted_none hg _)]
    exact .inl (doC_false hc hW h hr hK)
  · exact h.elim
  · rename_i d want hg
    split at h
    · rename_i s hs
      split at h
      · rename_i b hb
        have hs : st.slots[d]? = some (ofB b) := by rw [hs, boolS_eq hb]
        rw [wanted_some hg hs hr.sl]
        cases b
        · simp only [br, set_same hs] at h
          cases want
          · simp only [decide_true, if_true]
            exact .inl (doC_false hc hW h hr hK)
          · simp only [decide_eq_true_eq, Bool.false_eq_true, if_false]
            exact hK ad _ _ _ h ⟨put_ok hr.sl undefS_ok _, put_df hr.df _ _, hr.mem⟩
        · simp only [br, set_same hs] at h
          cases want
          · simp only [decide_eq_true_eq, Bool.true_eq_false, if_false]
            exact hK ad _ _ _ h ⟨put_ok hr.sl undefS_ok _, put_df hr.df _ _, hr.mem⟩
          · simp only [decide_true, if_true]
            exact .inl (doC_false hc hW h hr hK)
      · split at h <;> try exact h.elim
        rw [wanted_undef hg hs hr.sl]
        rw [if_neg (by simp)]
        exact hK ad _ _ _ h ⟨put_ok hr.sl undefS_ok _, put_df hr.df _ _, hr.mem⟩
    · exact h.elim

theorem stepC_true {call : FuncId → List Value → (Value → Prop) → Prop} (hc : CallOK P W call) (hW : Below W.heap.size W w) {ops : List Oper} {st : St} {j : Nat} {o : Oper} {k : St → Prop}
    (h : stepC P W call true ops j o st k) : ∃ ef, EffR P W call ops st.slots st.blocks (st.next + j) o ef ∧ k (appE o.dst ef st) := by
  unfold stepC at h
  unfold EffR
  split at h
  · rename_i hg
    simp only [hg]
    exact doC_true hc hW h
  · exact h.elim
  · rename_i d want hg
    simp only [hg]
    split at h
    · rename_i s hs
      split at h
      · rename_i b hb
        have hs : st.slots[d]? = some (ofB b) := by rw [hs, boolS_eq hb]
        cases b
        · simp only [br, set_same hs] at h
          cases want
          · obtain ⟨ef, h1, h2⟩ := doC_true hc hW h
            exact ⟨ef, .inl ⟨false, hs, .inl ⟨rfl, h1⟩⟩, h2⟩
          · exact ⟨⟨undefS, none, none⟩, .inl ⟨false, hs, .inr ⟨by simp, rfl⟩⟩, h⟩
        · simp only [br, set_same hs] at h
          cases want
          · exact ⟨⟨undefS, none, none⟩, .inl ⟨true, hs, .inr ⟨by simp, rfl⟩⟩, h⟩
          · obtain ⟨ef, h1, h2⟩ := doC_true hc hW h
            exact ⟨ef, .inl ⟨true, hs, .inl ⟨rfl, h1⟩⟩, h2⟩
      · split at h <;> try exact h.elim
        exact ⟨⟨undefS, none, none⟩, .inr ⟨hs, rfl⟩, h⟩
    · exact h.elim
end
end SX
end Go.Proofs.Ytegdbpbafdpkfaa
