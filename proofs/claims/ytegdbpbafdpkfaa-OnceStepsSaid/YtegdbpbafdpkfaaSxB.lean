/- The symbolic executor's values and single operations are sound. No condition. -/
import Derived.Test.YtegdbpbafdpkfaaSxA
import Derived.Laws.CopyRow
import Derived.Laws.Tables
namespace Go.Proofs.Ytegdbpbafdpkfaa
open Go.RowKit
namespace SX

def Ad := Nat → Option Nat

def DC (ad : Ad) : SC → Value → Prop
  | .v x, v => v = x
  | .own i off, v => ∃ b, ad i = some b ∧ v = .pointer (some ⟨b, off, none⟩)
  | .any, _ => True

def All2 {α β : Type} (R : α → β → Prop) : List α → List β → Prop
  | [], [] => True
  | a :: l, b :: m => R a b ∧ All2 R l m
  | _, _ => False

def DT (ad : Ad) : T → Value → Prop
  | .c x, v => DC ad x v
  | .agg l, v => ∃ vs : List Value, v = .agg vs.toArray ∧ All2 (DC ad) l vs
def DS (ad : Ad) : S → Value → Prop
  | .t x, v => DT ad x v
  | .tup l, v => ∃ vs : List Value, v = .tuple vs.toArray ∧ All2 (DT ad) l vs
  | .any, _ => True

def Ext (ad ad' : Ad) : Prop := ∀ k b, ad k = some b → ad' k = some b
theorem Ext.refl (ad : Ad) : Ext ad ad := fun _ _ h => h
theorem Ext.trans {a b c : Ad} (h : Ext a b) (g : Ext b c) : Ext a c := fun k x hx => g k x (h k x hx)

section lists
variable {α β : Type} {R R' : α → β → Prop}
theorem All2.mono (h : ∀ a b, R a b → R' a b) : ∀ {l : List α} {m : List β}, All2 R l m → All2 R' l m
  | [], [], _ => trivial
  | _ :: _, _ :: _, hx => ⟨h _ _ hx.1, All2.mono h hx.2⟩
theorem All2.len : ∀ {l : List α} {m : List β}, All2 R l m → l.length = m.length
  | [], [], _ => rfl
  | _ :: _, _ :: _, hx => by simp [All2.len hx.2]
theorem All2.get : ∀ {l : List α} {m : List β}, All2 R l m → ∀ {i : Nat} {a : α}, l[i]? = some a → ∃ b, m[i]? = some b ∧ R a b
  | [], [], _, i, a, h => by simp at h
  | x :: l, y :: m, hx, 0, a, h => by simp at h; subst h; exact ⟨y, rfl, hx.1⟩
  | x :: l, y :: m, hx, i + 1, a, h => by simpa using All2.get hx.2 (i := i) (by simpa using h)
theorem All2.drop : ∀ {l : List α} {m : List β} (n : Nat), All2 R l m → All2 R (l.drop n) (m.drop n)
  | [], [], n, _ => by rw [List.drop_nil, List.drop_nil]; exact trivial
  | _ :: _, _ :: _, 0, h => h
  | _ :: _, _ :: _, n + 1, h => by simpa using All2.drop n h.2
theorem All2.take : ∀ {l : List α} {m : List β} (n : Nat), All2 R l m → All2 R (l.take n) (m.take n)
  | [], [], n, _ => by rw [List.take_nil, List.take_nil]; exact trivial
  | _ :: _, _ :: _, 0, _ => trivial
  | _ :: _, _ :: _, n + 1, h => ⟨h.1, All2.take n h.2⟩
theorem All2.app : ∀ {l : List α} {m : List β} {l' : List α} {m' : List β}, All2 R l m → All2 R l' m' → All2 R (l ++ l') (m ++ m')
  | [], [], _, _, _, h => h
  | _ :: _, _ :: _, _, _, hx, h => ⟨hx.1, All2.app hx.2 h⟩
theorem All2.set : ∀ {l : List α} {m : List β} (n : Nat) {a : α} {b : β}, All2 R l m → R a b → All2 R (l.set n a) (m.set n b)
  | [], [], _, _, _, _, _ => trivial
  | _ :: _, _ :: _, 0, _, _, h, hr => ⟨hr, h.2⟩
  | _ :: _, _ :: _, n + 1, _, _, h, hr => ⟨h.1, All2.set n h.2 hr⟩
theorem All2.rep (n : Nat) {a : α} {b : β} (h : R a b) : All2 R (List.replicate n a) (List.replicate n b) := by
  induction n with
  | zero => trivial
  | succ n ih => exact ⟨h, ih⟩
theorem All2.mapl (f : β → α) (h : ∀ b, R (f b) b) : ∀ m : List β, All2 R (m.map f) m
  | [] => trivial
  | b :: m => ⟨h b, All2.mapl f h m⟩
end lists

section values
variable {ad ad' : Ad}
theorem DC.mono (h : Ext ad ad') {c : SC} {v : Value} (d : DC ad c v) : DC ad' c v := by
  cases c with
  | v x => exact d
  | own i off => obtain ⟨b, hb, e⟩ := d; exact ⟨b, h _ _ hb, e⟩
  | any => trivial
theorem DT.mono (h : Ext ad ad') {c : T} {v : Value} (d : DT ad c v) : DT ad' c v := by
  cases c with
  | c x => exact DC.mono h d
  | agg l => obtain ⟨vs, e, hl⟩ := d; exact ⟨vs, e, hl.mono fun _ _ => DC.mono h⟩
theorem DS.mono (h : Ext ad ad') {c : S} {v : Value} (d : DS ad c v) : DS ad' c v := by
  cases c with
  | t x => exact DT.mono h d
  | tup l => obtain ⟨vs, e, hl⟩ := d; exact ⟨vs, e, hl.mono fun _ _ => DT.mono h⟩
  | any => trivial

theorem cV_ok {c : SC} {x v : Value} (h : cV c = some x) (d : DC ad c v) : v = x := by
  cases c with
  | v y => simp only [cV, Option.some.injEq] at h; subst h; exact d
  | own i off => simp [cV] at h
  | any => simp [cV] at h
theorem csV_ok : ∀ {l : List SC} {xs vs : List Value}, csV l = some xs → All2 (DC ad) l vs → vs = xs
  | [], xs, [], h, _ => by simp only [csV, Option.some.injEq] at h; exact h
  | c :: l, xs, v :: vs, h, d => by
    simp only [csV] at h
    split at h
    · rename_i x hx
      split at h
      · rename_i ys hy
        simp only [Option.some.injEq] at h
        subst h
        rw [cV_ok hx d.1, csV_ok hy d.2]
      · cases h
    · cases h
theorem tV_ok {c : T} {x v : Value} (h : tV c = some x) (d : DT ad c v) : v = x := by
  cases c with
  | c y => exact cV_ok h d
  | agg l =>
    obtain ⟨vs, rfl, hl⟩ := d
    simp only [tV] at h
    split at h
    · rename_i ys hy
      simp only [Option.some.injEq] at h
      rw [csV_ok hy hl, h]
    · cases h
theorem tsV_ok : ∀ {l : List T} {xs vs : List Value}, tsV l = some xs → All2 (DT ad) l vs → vs = xs
  | [], xs, [], h, _ => by simp only [tsV, Option.some.injEq] at h; exact h
  | c :: l, xs, v :: vs, h, d => by
    simp only [tsV] at h
    split at h
    · rename_i x hx
      split at h
      · rename_i ys hy
        simp only [Option.some.injEq] at h
        subst h
        rw [tV_ok hx d.1, tsV_ok hy d.2]
      · cases h
    · cases h
theorem sV_ok {c : S} {x v : Value} (h : sV c = some x) (d : DS ad c v) : v = x := by
  cases c with
  | t y => exact tV_ok h d
  | tup l =>
    obtain ⟨vs, rfl, hl⟩ := d
    simp only [sV] at h
    split at h
    · rename_i ys hy
      simp only [Option.some.injEq] at h
      rw [tsV_ok hy hl, h]
    · cases h
  | any => simp [sV] at h
theorem ofT_ok (v : Value) : DT ad (ofT v) v := by
  cases v with
  | agg cs => exact ⟨cs.toList, by simp, All2.mapl (R := DC ad) SC.v (fun _ => rfl) _⟩
  | _ => exact rfl
theorem ofV_ok (v : Value) : DS ad (ofV v) v := by
  cases v with
  | tuple vs => exact ⟨vs.toList, by simp, All2.mapl (R := DT ad) ofT (fun v => ofT_ok v) _⟩
  | agg cs => exact ofT_ok (.agg cs)
  | _ => exact rfl
theorem undefS_ok : DS ad undefS undef := ⟨[], rfl, trivial⟩
theorem ofB_ok (b : Bool) : DS ad (ofB b) (.bool b) := rfl
theorem boolS_eq {s : S} {b : Bool} (h : boolS s = some b) : s = ofB b := by
  unfold boolS at h
  split at h
  · simp only [Option.some.injEq] at h; subst h; rfl
  · cases h
theorem boolS_ok {s : S} {b : Bool} {v : Value} (h : boolS s = some b) (d : DS ad s v) : v = .bool b := by
  rw [boolS_eq h] at d; exact d

theorem opd_ok {slots : List S} {a : Act} (h : All2 (DS ad) slots a.tmps.toList) (x : Operand) : DS ad (opd slots x) (a.eval x) := by
  cases x with
  | tmp t =>
    simp only [opd, Act.eval]
    cases hs : slots[t]? with
    | some s =>
      obtain ⟨v, hv, d⟩ := h.get hs
      have : a.tmps.getD t undef = v := by
        rw [Array.getElem?_toList] at hv
        simp [hv]
      rw [this]; exact d
    | none =>
      have hl := h.len
      have : a.tmps.getD t undef = undef := by
        rw [List.getElem?_eq_none_iff, hl] at hs
        simp at hs
        simp [hs]
      rw [this]; exact undefS_ok
  | const v => exact ofV_ok v
  | global g => exact ofV_ok (.pointer (some ⟨g, 0, none⟩))
  | func f => exact ofV_ok (.func (.func f) #[] #[])

theorem pureRun_ok {P : Program} {α : Type} : ∀ (s : Sem α) (x : α), pureRun P s = some x → ∀ w, s.run P w = .ok x w := by
  intro s
  induction s with
  | pure a => intro x h w; simp only [pureRun, Option.some.injEq] at h; subst h; rfl
  | program k ih => intro x h w; exact ih P x h w
  | mark m k ih => intro x h w; exact ih x h w
  | _ => intro x h; simp [pureRun] at h

theorem allV_ok {ρ : Operand → S} : ∀ {l : List Operand}, allV ρ l = true → ∀ x ∈ l, ∃ v, sV (ρ x) = some v
  | [], _, x, hx => by cases hx
  | y :: l, h, x, hx => by
    simp only [allV] at h
    split at h
    · rename_i v hv
      rcases List.mem_cons.1 hx with rfl | hx
      · exact ⟨v, hv⟩
      · exact allV_ok h x hx
    · cases h

theorem stepV_ok {P : Program} {ρ : Operand → S} {o : Oper} {s : S} {e : Operand → Value} (h : stepV P ρ o = some s) (hd : ∀ x ∈ o.op.operands, DS ad (ρ x) (e x)) :
    ∃ v, (∀ w, (execOp e o).run P w = .ok (.value v) w) ∧ DS ad s v := by
  unfold stepV at h
  split at h
  · cases h
  · rename_i hc
    simp only [Bool.or_eq_false_iff, Bool.not_eq_false'] at hc
    obtain ⟨hsel, hall⟩ := hc
    split at h
    · rename_i v hv
      simp only [Option.some.injEq] at h
      subst h
      refine ⟨v, ?_, ofV_ok v⟩
      have he : execOp e o = execOp (rv ρ) o := execOp_congr o (fun cs b hop => by rw [hop] at hsel; simp [isSel] at hsel) fun x hx => by
        obtain ⟨y, hy⟩ := allV_ok hall x (by simpa using hx)
        rw [sV_ok hy (hd x hx)]
        simp [rv, hy]
      rw [he]
      exact pureRun_ok _ _ hv
    · cases h
end values
end SX
end Go.Proofs.Ytegdbpbafdpkfaa
