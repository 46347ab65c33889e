/- The symbolic executor's values, as the machine has them; what of them stays when memory is made or written. No condition. -/
import Derived.Test.YtapjehgfekjdaaaDoorSyC
import Derived.Laws.CopyRow
namespace Go.Proofs.YtapjehgfekjdaaaDoor
open Go.RowKit
namespace SY

/-! ### Trees -/
section tree
variable {α : Type} (d : α)
theorem get_lf (p : Pa) : (Tr.lf : Tr α).get d p = d := rfl
theorem get_e (l r : Tr α) (v : α) : (Tr.nd l v r).get d .e = v := rfl
theorem get_l (l r : Tr α) (v : α) (p : Pa) : (Tr.nd l v r).get d (.l p) = l.get d p := rfl
theorem get_r (l r : Tr α) (v : α) (p : Pa) : (Tr.nd l v r).get d (.r p) = r.get d p := rfl
theorem get_set_same (x : α) : ∀ (p : Pa) (t : Tr α), (t.set d x p).get d p = x
  | .e, .lf => rfl
  | .e, .nd _ _ _ => rfl
  | .l p, .lf => get_set_same x p .lf
  | .l p, .nd l _ _ => get_set_same x p l
  | .r p, .lf => get_set_same x p .lf
  | .r p, .nd _ _ r => get_set_same x p r
theorem get_set_ne (x : α) : ∀ (p q : Pa) (t : Tr α), p ≠ q → (t.set d x p).get d q = t.get d q
  | .e, .e, _, h => absurd rfl h
  | .e, .l _, .lf, _ => rfl
  | .e, .l _, .nd _ _ _, _ => rfl
  | .e, .r _, .lf, _ => rfl
  | .e, .r _, .nd _ _ _, _ => rfl
  | .l _, .e, .lf, _ => rfl
  | .l _, .e, .nd _ _ _, _ => rfl
  | .l p, .l q, .lf, h => get_set_ne x p q .lf (fun e => h (e ▸ rfl))
  | .l p, .l q, .nd l _ _, h => get_set_ne x p q l (fun e => h (e ▸ rfl))
  | .l _, .r _, .lf, _ => rfl
  | .l _, .r _, .nd _ _ _, _ => rfl
  | .r _, .e, .lf, _ => rfl
  | .r _, .e, .nd _ _ _, _ => rfl
  | .r _, .l _, .lf, _ => rfl
  | .r _, .l _, .nd _ _ _, _ => rfl
  | .r p, .r q, .lf, h => get_set_ne x p q .lf (fun e => h (e ▸ rfl))
  | .r p, .r q, .nd _ _ r, h => get_set_ne x p q r (fun e => h (e ▸ rfl))
theorem get_map (f : α → α) (hd : f d = d) : ∀ (p : Pa) (t : Tr α), (t.map f).get d p = f (t.get d p)
  | .e, .lf => hd.symm
  | .l _, .lf => hd.symm
  | .r _, .lf => hd.symm
  | .e, .nd _ _ _ => rfl
  | .l p, .nd l _ _ => get_map f hd p l
  | .r p, .nd _ _ r => get_map f hd p r
end tree

def num : Pa → Nat
  | .e => 1
  | .l p => 2 * num p
  | .r p => 2 * num p + 1
theorem num_pthG : ∀ (n m : Nat), 1 ≤ m → m ≤ n → num (pthG n m) = m
  | 0, m, h, h' => by omega
  | n + 1, m, h, h' => by
    show num (Bool.casesOn (motive := fun _ => Pa) (Nat.ble m 1) (Bool.casesOn (motive := fun _ => Pa) (Nat.beq (m % 2) 0) (.r (pthG n (m / 2))) (.l (pthG n (m / 2)))) .e) = m
    cases h1 : Nat.ble m 1 with
    | true =>
      have := Nat.le_of_ble_eq_true h1
      simp only [num]; omega
    | false =>
      have h1 : ¬ m ≤ 1 := fun e => by rw [Nat.ble_eq_true_of_le e] at h1; cases h1
      cases h2 : Nat.beq (m % 2) 0 with
      | true =>
        have h2 := Nat.eq_of_beq_eq_true h2
        simp only [num, num_pthG n (m / 2) (by omega) (by omega)]; omega
      | false =>
        have h2 : ¬ m % 2 = 0 := fun e => by rw [e] at h2; cases h2
        simp only [num, num_pthG n (m / 2) (by omega) (by omega)]; omega
theorem num_pth (t : Nat) : num (pth t) = t + 1 := num_pthG _ _ (by omega) (Nat.le_refl _)
theorem pth_inj {t u : Nat} (h : pth t = pth u) : t = u := by
  have := num_pth t; rw [h, num_pth] at this; omega
theorem pth_ne {t u : Nat} (h : t ≠ u) : pth t ≠ pth u := fun e => h (pth_inj e)

theorem lkB_set (bl : Tr (Option Blk)) (k : Nat) (B : Blk) (i : Nat) : lkB (bl.set none (some B) (pth k)) i = if i = k then some B else lkB bl i := by
  unfold lkB
  split
  · rename_i h; subst h; exact get_set_same none _ _ _
  · rename_i h; exact get_set_ne none _ _ _ _ (pth_ne fun e => h e.symm)

/-! ### Lists -/
def All2 {α β : Type} (R : α → β → Prop) : List α → List β → Prop
  | [], [] => True
  | a :: l, b :: m => R a b ∧ All2 R l m
  | _, _ => False
section lists
variable {α β : Type} {R R' : α → β → Prop}
theorem All2.mono (h : ∀ a b, R a b → R' a b) : ∀ {l : List α} {m : List β}, All2 R l m → All2 R' l m
  | [], [], _ => trivial
  | _ :: _, _ :: _, hx => ⟨h _ _ hx.1, All2.mono h hx.2⟩
theorem All2.len : ∀ {l : List α} {m : List β}, All2 R l m → l.length = m.length
  | [], [], _ => rfl
  | _ :: _, _ :: _, hx => by simp [All2.len hx.2]
theorem All2.get : ∀ {l : List α} {m : List β}, All2 R l m → ∀ {i : Nat} {a : α}, l[i]? = some a → ∃ b, m[i]? = some b ∧ R a b
  | [], [], _, i, a, h => by simp at h
  | x :: l, y :: m, hx, 0, a, h => by simp at h; subst h; exact ⟨y, rfl, hx.1⟩
  | x :: l, y :: m, hx, i + 1, a, h => by simpa using All2.get hx.2 (i := i) (by simpa using h)
theorem All2.drop : ∀ {l : List α} {m : List β} (n : Nat), All2 R l m → All2 R (l.drop n) (m.drop n)
  | [], [], n, _ => by rw [List.drop_nil, List.drop_nil]; exact trivial
  | _ :: _, _ :: _, 0, h => h
  | _ :: _, _ :: _, n + 1, h => by simpa using All2.drop n h.2
theorem All2.take : ∀ {l : List α} {m : List β} (n : Nat), All2 R l m → All2 R (l.take n) (m.take n)
  | [], [], n, _ => by rw [List.take_nil, List.take_nil]; exact trivial
  | _ :: _, _ :: _, 0, _ => trivial
  | _ :: _, _ :: _, n + 1, h => ⟨h.1, All2.take n h.2⟩
theorem All2.app : ∀ {l : List α} {m : List β} {l' : List α} {m' : List β}, All2 R l m → All2 R l' m' → All2 R (l ++ l') (m ++ m')
  | [], [], _, _, _, h => h
  | _ :: _, _ :: _, _, _, hx, h => ⟨hx.1, All2.app hx.2 h⟩
theorem All2.mapl (f : β → α) (h : ∀ b, R (f b) b) : ∀ m : List β, All2 R (m.map f) m
  | [] => trivial
  | b :: m => ⟨h b, All2.mapl f h m⟩
theorem All2.nil_left {m : List β} (h : All2 R [] m) : m = [] := by
  cases m with
  | nil => rfl
  | cons _ _ => exact h.elim
theorem All2.cons_left {a : α} {l : List α} {m : List β} (h : All2 R (a :: l) m) : ∃ b r, m = b :: r ∧ R a b ∧ All2 R l r := by
  cases m with
  | nil => exact h.elim
  | cons b r => exact ⟨b, r, rfl, h.1, h.2⟩
end lists

theorem nth_eq {α : Type} : ∀ (l : List α) (i : Nat), nth l i = l[i]?
  | [], i => by simp [nth]
  | _ :: _, 0 => rfl
  | _ :: l, i + 1 => by
    show nth l i = _
    rw [nth_eq l i]; simp

/-! ### Values -/

structure G where
  ad : Nat → Option Nat
  tk : Nat → Option (Nat × Nat)
  tb : Nat → Option (TypeId × Nat)
  pl : Nat → Nat → Prop

/-- How far slices may reach in a block. -/
def Lim (g : G) (b f : Nat) : Prop := (f = 0 ∧ ∃ k, g.ad k = some b) ∨ (∃ k, g.tk k = some (b, f)) ∨ g.pl b f

structure Far (g : G) (w : World) (A : Addr) (n : Nat) : Prop where
  spot : A.spot = none
  lt : A.block < w.heap.size
  lim : ∀ f, Lim g A.block f → A.off + n ≤ f

def Rd (w : World) (A : Addr) (vs : List Value) : Prop := ∀ j u, vs[j]? = some u → w.cell? (A.add j) = some u

def Tip (g : G) (w : World) (k : Nat) (e : TypeId) (m len : Nat) (a : Option Addr) (n c : Nat) : Prop :=
  (g.tk k = none ∧ c = n) ∨ ∃ A cur, a = some A ∧ (A.off = 0 ∧ A.spot = none) ∧ g.tk k = some (A.block, len) ∧ w.heap[A.block]? = some (.cells cur e (0, 0)) ∧ c * m = cur.size
def TokOK (g : G) (w : World) (m len : Nat) (a : Option Addr) (n c : Nat) : Option (Nat × Nat) → Prop
  | none => True
  | some (k, i) => ∃ e i', g.tb k = some (e, i') ∧ i ≤ i' ∧ (i' = i → Tip g w k e m len a n c)

structure SlI (g : G) (w : World) (ks : List CK) (xs : List Int) (tok : Option (Nat × Nat)) (a : Option Addr) (n c : Nat) : Prop where
  cap : n ≤ c
  most : c ≤ maxLen
  pos : 0 < ks.length
  len : xs.length = n * ks.length
  nil : a = none → n = 0 ∧ c = 0
  at_ : ∀ A, a = some A → (0 < xs.length → Far g w A xs.length) ∧ Rd w A (encV ks xs)
  tok : TokOK g w ks.length xs.length a n c tok
def SlD (g : G) (w : World) (ks : List CK) (xs : List Int) (tok : Option (Nat × Nat)) (v : Value) : Prop :=
  ∃ a n c, v = .slice a n c ∧ SlI g w ks xs tok a n c

def DC (g : G) (w : World) : SC → Value → Prop
  | .v x, v => v = x
  | .own k off, v => ∃ b, g.ad k = some b ∧ v = .pointer (some ⟨b, off, none⟩)
  | .sl ks xs tok, v => SlD g w ks xs tok v
  | .st xs, v => v = .string (bstr xs)
  | .any, _ => True
def DT (g : G) (w : World) : T → Value → Prop
  | .c x, v => DC g w x v
  | .agg l, v => ∃ vs : List Value, v = .agg vs.toArray ∧ All2 (DC g w) l vs
def DS (g : G) (w : World) : S → Value → Prop
  | .t x, v => DT g w x v
  | .tup l, v => ∃ vs : List Value, v = .tuple vs.toArray ∧ All2 (DT g w) l vs
  | .clo f caps, v => ∃ vs : List Value, v = .func (.func f) #[] vs.toArray ∧ All2 (DC g w) caps vs
  | .ea cells, v => ∃ (A : Addr) (vs : List Value), v = .pointer (some A) ∧ Far g w A cells.length ∧ All2 (DC g w) cells vs ∧ Rd w A vs
  | .nest l, v => ∃ (A : Addr) (vs : List Value), v = .slice (some A) l.length l.length ∧ Far g w A l.length ∧ All2 (DC g w) l vs ∧ Rd w A vs
  | .fp k o j, v => ∃ b, g.ad k = some b ∧ v = .pointer (some ⟨b, offE o j, none⟩)
  | .any, _ => True

structure Ext (g : G) (w : World) (g' : G) (w' : World) : Prop where
  c : ∀ c v, DC g w c v → DC g' w' c v
  s : ∀ s v, DS g w s v → DS g' w' s v

theorem Ext.refl (g : G) (w : World) : Ext g w g w := ⟨fun _ _ h => h, fun _ _ h => h⟩
theorem Ext.trans {g w g' w' g'' w''} (h : Ext g w g' w') (k : Ext g' w' g'' w'') : Ext g w g'' w'' := ⟨fun c v x => k.c c v (h.c c v x), fun c v x => k.s c v (h.s c v x)⟩

theorem Rd.keep {w w' : World} {A : Addr} {vs : List Value} (h : Rd w A vs) (hc : ∀ j, j < vs.length → w'.cell? (A.add j) = w.cell? (A.add j)) : Rd w' A vs := by
  intro j u hu
  have hl : j < vs.length := by
    rcases Nat.lt_or_ge j vs.length with h1 | h1
    · exact h1
    · rw [List.getElem?_eq_none h1] at hu; cases hu
  rw [hc j hl]
  exact h j u hu

theorem encV_len (ks : List CK) (xs : List Int) : (encV ks xs).length = xs.length := by simp [encV]

/-- What stays. -/
theorem ext_core {g g' : G} {w w' : World} (hlt : w.heap.size ≤ w'.heap.size)
    (had : ∀ k b, g.ad k = some b → g'.ad k = some b)
    (hlim : ∀ b f, b < w.heap.size → Lim g' b f → ∃ f', Lim g b f' ∧ f' ≤ f)
    (hcell : ∀ A n, Far g w A n → ∀ j, j < n → w'.cell? (A.add j) = w.cell? (A.add j))
    (htok : ∀ k e i, g.tb k = some (e, i) → ∃ i', g'.tb k = some (e, i') ∧ i ≤ i' ∧ (i' = i → g'.tk k = g.tk k))
    (hblk : ∀ k b f e cur, g'.tk k = g.tk k → g.tk k = some (b, f) → w.heap[b]? = some (.cells cur e (0, 0)) → ∃ cur' : Array Value, w'.heap[b]? = some (.cells cur' e (0, 0)) ∧ cur'.size = cur.size) :
    Ext g w g' w' := by
  have far : ∀ A n, Far g w A n → Far g' w' A n := fun A n h => ⟨h.spot, Nat.lt_of_lt_of_le h.lt hlt, fun f hf => by
    obtain ⟨f', h1, h2⟩ := hlim _ f h.lt hf
    exact Nat.le_trans (h.lim f' h1) h2⟩
  have dc : ∀ c v, DC g w c v → DC g' w' c v := by
    intro c v h
    cases c with
    | v x => exact h
    | own k off => obtain ⟨b, hb, e⟩ := h; exact ⟨b, had _ _ hb, e⟩
    | st xs => exact h
    | any => trivial
    | sl ks xs tok =>
      obtain ⟨a, n, c, hv, h⟩ := h
      refine ⟨a, n, c, hv, h.cap, h.most, h.pos, h.len, h.nil, fun A hA => ?_, ?_⟩
      · obtain ⟨h1, h2⟩ := h.at_ A hA
        exact ⟨fun h0 => far A _ (h1 h0), h2.keep fun j hj => by rw [encV_len] at hj; exact hcell A _ (h1 (by omega)) j hj⟩
      · have ht := h.tok
        cases tok with
        | none => trivial
        | some q =>
          obtain ⟨k, i⟩ := q
          obtain ⟨e, i', h1, h2, h3⟩ := ht
          obtain ⟨i'', g1, g2, g3⟩ := htok k e i' h1
          refine ⟨e, i'', g1, Nat.le_trans h2 g2, fun hi => ?_⟩
          have e1 : i' = i := by omega
          have e2 := g3 (by omega)
          rcases h3 e1 with ⟨t1, t2⟩ | ⟨A, cur, t1, t2, t3, t4, t5⟩
          · exact .inl ⟨by rw [e2]; exact t1, t2⟩
          · obtain ⟨cur', c1, c2⟩ := hblk k _ _ e cur e2 t3 t4
            exact .inr ⟨A, cur', t1, t2, by rw [e2]; exact t3, c1, by rw [c2]; exact t5⟩
  refine ⟨dc, fun s v h => ?_⟩
  cases s with
  | t x =>
    cases x with
    | c x => exact dc x v h
    | agg l => obtain ⟨vs, e, hl⟩ := h; exact ⟨vs, e, hl.mono dc⟩
  | tup l =>
    obtain ⟨vs, e, hl⟩ := h
    refine ⟨vs, e, hl.mono fun x v h => ?_⟩
    cases x with
    | c x => exact dc x v h
    | agg l => obtain ⟨vs, e, hl⟩ := h; exact ⟨vs, e, hl.mono dc⟩
  | clo f caps => obtain ⟨vs, e, hl⟩ := h; exact ⟨vs, e, hl.mono dc⟩
  | ea cells =>
    obtain ⟨A, vs, e, hf, hl, hr⟩ := h
    exact ⟨A, vs, e, far A _ hf, hl.mono dc, hr.keep fun j hj => hcell A _ hf j (by rw [hl.len]; exact hj)⟩
  | nest l =>
    obtain ⟨A, vs, e, hf, hl, hr⟩ := h
    exact ⟨A, vs, e, far A _ hf, hl.mono dc, hr.keep fun j hj => hcell A _ hf j (by rw [hl.len]; exact hj)⟩
  | fp k o j => obtain ⟨b, hb, e⟩ := h; exact ⟨b, had _ _ hb, e⟩
  | any => trivial

theorem Ext.t {g w g' w'} (h : Ext g w g' w') : ∀ x v, DT g w x v → DT g' w' x v := fun x v d => h.s (.t x) v d

/-! ### Values as they are -/
section
variable {g : G} {w : World}
theorem cV_ok {c : SC} {x v : Value} (h : cV c = some x) (d : DC g w c v) : v = x := by
  cases c with
  | v y => simp only [cV, Option.some.injEq] at h; subst h; exact d
  | st y => simp only [cV, Option.some.injEq] at h; subst h; exact d
  | _ => simp [cV] at h
theorem csV_ok : ∀ {l : List SC} {xs vs : List Value}, csV l = some xs → All2 (DC g w) l vs → vs = xs
  | [], xs, [], h, _ => by simp only [csV, Option.some.injEq] at h; exact h
  | c :: l, xs, v :: vs, h, d => by
    have h : (match cV c with
      | some x => match csV l with
        | some xs => some (x :: xs)
        | none => none
      | none => none) = some xs := h
    split at h
    · rename_i x hx
      split at h
      · rename_i ys hy
        simp only [Option.some.injEq] at h
        subst h
        rw [cV_ok hx d.1, csV_ok hy d.2]
      · cases h
    · cases h
theorem tV_ok {c : T} {x v : Value} (h : tV c = some x) (d : DT g w c v) : v = x := by
  cases c with
  | c y => exact cV_ok h d
  | agg l =>
    obtain ⟨vs, rfl, hl⟩ := d
    simp only [tV] at h
    split at h
    · rename_i ys hy
      simp only [Option.some.injEq] at h
      rw [csV_ok hy hl, h]
    · cases h
theorem tsV_ok : ∀ {l : List T} {xs vs : List Value}, tsV l = some xs → All2 (DT g w) l vs → vs = xs
  | [], xs, [], h, _ => by simp only [tsV, Option.some.injEq] at h; exact h
  | c :: l, xs, v :: vs, h, d => by
    have h : (match tV c with
      | some x => match tsV l with
        | some xs => some (x :: xs)
        | none => none
      | none => none) = some xs := h
    split at h
    · rename_i x hx
      split at h
      · rename_i ys hy
        simp only [Option.some.injEq] at h
        subst h
        rw [tV_ok hx d.1, tsV_ok hy d.2]
      · cases h
    · cases h
theorem sV_ok {c : S} {x v : Value} (h : sV c = some x) (d : DS g w c v) : v = x := by
  cases c with
  | t y => exact tV_ok h d
  | tup l =>
    obtain ⟨vs, rfl, hl⟩ := d
    simp only [sV] at h
    split at h
    · rename_i ys hy
      simp only [Option.some.injEq] at h
      rw [tsV_ok hy hl, h]
    · cases h
  | _ => simp [sV] at h

theorem bstr_of (s : ByteArray) : bstr (ofStr s) = s := by
  obtain ⟨d⟩ := s
  unfold bstr ofStr
  simp only [List.map_map]
  congr 1
  apply Array.ext'
  simp only
  conv => rhs; rw [← List.map_id d.toList]
  apply List.map_congr_left
  intro b _
  simp
theorem ofC_ok (v : Value) : DC g w (ofC v) v := by
  cases v with
  | string s => exact congrArg Value.string (bstr_of s).symm
  | _ => exact rfl
theorem ofT_ok (v : Value) : DT g w (ofT v) v := by
  cases v with
  | agg cs => exact ⟨cs.toList, by simp, All2.mapl (R := DC g w) ofC (fun v => ofC_ok v) _⟩
  | string s => exact ofC_ok (g := g) (w := w) (.string s)
  | _ => exact rfl
theorem ofV_ok (v : Value) : DS g w (ofV v) v := by
  cases v with
  | tuple vs => exact ⟨vs.toList, by simp, All2.mapl (R := DT g w) ofT (fun v => ofT_ok v) _⟩
  | agg cs => exact ofT_ok (.agg cs)
  | string s => exact ofC_ok (g := g) (w := w) (.string s)
  | _ => exact rfl
theorem undefS_ok : DS g w undefS undef := ⟨[], rfl, trivial⟩
theorem boolS_eq {s : S} {b : Bool} (h : boolS s = some b) : s = ofB b := by
  unfold boolS at h
  split at h
  · simp only [Option.some.injEq] at h; subst h; rfl
  · cases h
theorem boolS_ok {s : S} {b : Bool} {v : Value} (h : boolS s = some b) (d : DS g w s v) : v = .bool b := by
  rw [boolS_eq h] at d; exact d
theorem intS_eq {s : S} {k : IntKind} {n : Int} (h : intS s = some (k, n)) : s = ofI k n := by
  unfold intS at h
  split at h
  · simp only [Option.some.injEq, Prod.mk.injEq] at h; obtain ⟨rfl, rfl⟩ := h; rfl
  · cases h
theorem intS_ok {s : S} {k : IntKind} {n : Int} {v : Value} (h : intS s = some (k, n)) (d : DS g w s v) : v = .int k n := by
  rw [intS_eq h] at d; exact d
end

theorem pureRun_ok {P : Program} {α : Type} : ∀ (s : Sem α) (x : α), pureRun P s = some x → ∀ w, s.run P w = .ok x w := by
  intro s
  induction s with
  | pure a => intro x h w; simp only [pureRun, Option.some.injEq] at h; subst h; rfl
  | program k ih => intro x h w; exact ih P x h w
  | mark m k ih => intro x h w; exact ih x h w
  | _ => intro x h; simp [pureRun] at h

theorem allV_ok {ρ : Operand → S} : ∀ {l : List Operand}, allV ρ l = true → ∀ x ∈ l, ∃ v, sV (ρ x) = some v
  | [], _, x, hx => by cases hx
  | y :: l, h, x, hx => by
    simp only [allV] at h
    split at h
    · rename_i v hv
      rcases List.mem_cons.1 hx with rfl | hx
      · exact ⟨v, hv⟩
      · exact allV_ok h x hx
    · cases h

theorem stepV_ok {P : Program} {ρ : Operand → S} {o : Oper} {s : S} {e : Operand → Value} {g : G} {w0 : World} (h : stepV P ρ o = some s) (hd : ∀ x ∈ o.op.operands, DS g w0 (ρ x) (e x)) :
    ∃ v, (∀ w, (execOp e o).run P w = .ok (.value v) w) ∧ s = ofV v := by
  unfold stepV at h
  split at h
  · cases h
  · rename_i hc
    simp only [Bool.or_eq_false_iff, Bool.not_eq_false'] at hc
    obtain ⟨hsel, hall⟩ := hc
    split at h
    · rename_i v hv
      simp only [Option.some.injEq] at h
      refine ⟨v, ?_, h.symm⟩
      have he : execOp e o = execOp (rv ρ) o := execOp_congr o (fun cs b hop => by rw [hop] at hsel; simp [isSel] at hsel) fun x hx => by
        obtain ⟨y, hy⟩ := allV_ok hall x (by simpa using hx)
        rw [sV_ok hy (hd x hx)]
        simp [rv, hy]
      rw [he]
      exact pureRun_ok _ _ hv
    · cases h

end SY
end Go.Proofs.YtapjehgfekjdaaaDoor
