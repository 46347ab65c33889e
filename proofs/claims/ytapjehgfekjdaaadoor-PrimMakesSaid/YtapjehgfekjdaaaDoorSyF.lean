/- The symbolic executor's memory. No condition. -/
import Derived.Test.YtapjehgfekjdaaaDoorSyE
namespace Go.Proofs.YtapjehgfekjdaaaDoor
open Go.RowKit
namespace SY

/-! ### Flat cells -/

theorem encV_get (ks : List CK) (xs : List Int) (i : Nat) : (encV ks xs)[i]? = xs[i]?.map (rdV (kAt ks i)) := by
  simp [encV, List.getElem?_mapIdx]
theorem kAt_add {ks : List CK} {d i : Nat} (h : d % ks.length = 0) : kAt ks (d + i) = kAt ks i := by
  unfold kAt; rw [Nat.add_mod, h]; simp
theorem kAt_lt {ks : List CK} {i : Nat} {k : CK} (h : ks[i]? = some k) : kAt ks i = k := by
  have hl : i < ks.length := by
    rcases Nat.lt_or_ge i ks.length with h1 | h1
    · exact h1
    · rw [List.getElem?_eq_none h1] at h; cases h
  unfold kAt; rw [Nat.mod_eq_of_lt hl, h]
theorem encV_app {ks : List CK} {xs ys : List Int} (h : xs.length % ks.length = 0) : encV ks (xs ++ ys) = encV ks xs ++ encV ks ys := by
  apply List.ext_getElem?
  intro i
  rw [encV_get, List.getElem?_append, List.getElem?_append, encV_len]
  split
  · rw [encV_get]
  · rename_i hi
    rw [encV_get]
    have : kAt ks i = kAt ks (i - xs.length) := by
      have := kAt_add (ks := ks) (d := xs.length) (i := i - xs.length) h
      rwa [show xs.length + (i - xs.length) = i from by omega] at this
    rw [this]
theorem encV_take (ks : List CK) (xs : List Int) (n : Nat) : encV ks (xs.take n) = (encV ks xs).take n := by
  apply List.ext_getElem?
  intro i
  rw [encV_get, List.getElem?_take, List.getElem?_take, encV_get]
  split <;> rfl
theorem encV_drop {ks : List CK} (xs : List Int) {d : Nat} (h : d % ks.length = 0) : encV ks (xs.drop d) = (encV ks xs).drop d := by
  apply List.ext_getElem?
  intro i
  rw [encV_get, List.getElem?_drop, List.getElem?_drop, encV_get, kAt_add h]
theorem rdV_one (k : CK) (x : Int) : (rdV k x).oneCell' = true := by cases k <;> rfl
theorem encV_one (ks : List CK) (xs : List Int) : ∀ v ∈ encV ks xs, v.oneCell' = true := by
  intro v hv
  obtain ⟨i, hi, rfl⟩ := List.getElem_of_mem hv
  have := encV_get ks xs i
  rw [List.getElem?_eq_getElem hi] at this
  cases hx : xs[i]? with
  | none => rw [hx] at this; cases this
  | some x => rw [hx] at this; simp only [Option.map_some, Option.some.injEq] at this; rw [this]; exact rdV_one _ _

section
variable {g : G} {w : World}
theorem rdCells_len : ∀ (kk : List CK) (xs : List Int) (b : Nat), (rdCells kk xs b).length = kk.length
  | [], _, _ => rfl
  | _ :: r, xs, b => by
    show (rdCells r xs (b + 1)).length + 1 = _
    rw [rdCells_len r xs (b + 1)]; rfl
theorem rdCells_ok {ks : List CK} {xs : List Int} : ∀ (kk : List CK) (b : Nat), (∀ (t : Nat) (k : CK), kk[t]? = some k → kAt ks (b + t) = k) → b + kk.length ≤ xs.length → All2 (DC g w) (rdCells kk xs b) (((encV ks xs).drop b).take kk.length)
  | [], b, _, _ => by simp; exact trivial
  | k :: r, b, h, hl => by
    have hb : b < (encV ks xs).length := by rw [encV_len]; simp at hl; omega
    have hx : b < xs.length := by simp at hl; omega
    rw [List.drop_eq_getElem_cons hb]
    refine ⟨?_, ?_⟩
    · show (encV ks xs)[b] = rdV k (gI xs b)
      have e := encV_get ks xs b
      rw [List.getElem?_eq_getElem hb, List.getElem?_eq_getElem hx] at e
      simp only [Option.map_some, Option.some.injEq] at e
      rw [e, show kAt ks b = k from h 0 k rfl]
      simp [gI, hx]
    · have := rdCells_ok (ks := ks) (xs := xs) r (b + 1) (fun t k' ht => by
        have := h (t + 1) k' (by simpa using ht)
        rwa [show b + (t + 1) = b + 1 + t from by omega] at this) (by simp at hl; omega)
      exact this

theorem toI_ok {k : CK} {c : SC} {x : Int} {v : Value} (h : toI k c = some x) (d : DC g w c v) : v = rdV k x := by
  unfold toI at h
  split at h
  · split at h
    · rename_i hk
      have hk := of_decide_eq_true hk
      simp only [Option.some.injEq] at h
      subst h; subst hk
      exact d
    · cases h
  · simp only [Option.some.injEq] at h
    subst h
    rename_i b
    have d : v = .bool b := d
    rw [d]
    cases b <;> rfl
  · cases h
theorem toIs_nil (c : List SC) : toIs [] c = (match c with
  | [] => some []
  | _ => none) := rfl
theorem toIs_cons (k : CK) (kk : List CK) (c : List SC) : toIs (k :: kk) c = (match c with
  | [] => none
  | c :: l => match toI k c with
    | some x => match toIs kk l with
      | some xs => some (x :: xs)
      | none => none
    | none => none) := rfl
theorem toIs_ok : ∀ {kk : List CK} {c : List SC} {is : List Int} {vs : List Value}, toIs kk c = some is → All2 (DC g w) c vs →
    is.length = kk.length ∧ vs.length = kk.length ∧ ∀ (t : Nat) (k : CK) (x : Int), kk[t]? = some k → is[t]? = some x → vs[t]? = some (rdV k x)
  | [], c, is, vs, h, d => by
    rw [toIs_nil] at h
    split at h
    · simp only [Option.some.injEq] at h; subst h
      rw [d.nil_left]
      exact ⟨rfl, rfl, fun t k x hk => by simp at hk⟩
    · cases h
  | k :: kk, c, is, vs, h, d => by
    rw [toIs_cons] at h
    split at h
    · cases h
    · rename_i c l
      obtain ⟨v, vs, rfl, d1, d2⟩ := d.cons_left
      split at h <;> try (cases h; done)
      rename_i x hx
      split at h <;> try (cases h; done)
      rename_i xs hxs
      simp only [Option.some.injEq] at h; subst h
      obtain ⟨h1, h2, h3⟩ := toIs_ok hxs d2
      refine ⟨by simp [h1], by simp [h2], fun t k' x' hk hx' => ?_⟩
      cases t with
      | zero =>
        simp only [List.getElem?_cons_zero, Option.some.injEq] at hk hx' ⊢
        subst hk; subst hx'
        exact toI_ok hx d1
      | succ t =>
        simp only [List.getElem?_cons_succ] at hk hx' ⊢
        exact h3 t k' x' hk hx'

theorem splice_len {α : Type} (l m : List α) (off : Nat) (h : off + m.length ≤ l.length) : (splice l off m).length = l.length := by
  simp [splice]; omega
theorem splice_get {α : Type} (l m : List α) (off i : Nat) (h : off + m.length ≤ l.length) : (splice l off m)[i]? = if off ≤ i ∧ i < off + m.length then m[i - off]? else l[i]? := by
  unfold splice
  rw [List.getElem?_append]
  simp only [List.length_take, Nat.min_eq_left (by omega : off ≤ l.length)]
  split
  · rw [List.getElem?_take, if_pos (by assumption), if_neg (by omega)]
  · rw [List.getElem?_append]
    split
    · rw [if_pos (by omega)]
    · rw [List.getElem?_drop, if_neg (by omega)]
      congr 1; omega
theorem encV_splice {ks kk : List CK} {xs is : List Int} {vs : List Value} {b : Nat} (hk : ∀ (t : Nat) (k : CK), kk[t]? = some k → kAt ks (b + t) = k) (h1 : is.length = kk.length) (h2 : vs.length = kk.length)
    (h3 : ∀ (t : Nat) (k : CK) (x : Int), kk[t]? = some k → is[t]? = some x → vs[t]? = some (rdV k x)) (hl : b + kk.length ≤ xs.length) : encV ks (splice xs b is) = splice (encV ks xs) b vs := by
  apply List.ext_getElem?
  intro i
  rw [encV_get, splice_get _ _ _ _ (by omega), splice_get _ _ _ _ (by rw [encV_len]; omega), h1, h2]
  split
  · rename_i hi
    have hlt : i - b < kk.length := by omega
    have e1 : kk[i - b]? = some kk[i - b] := List.getElem?_eq_getElem hlt
    have e2 : is[i - b]? = some (is[i - b]'(by omega)) := List.getElem?_eq_getElem _
    rw [h3 _ _ _ e1 e2, e2]
    have := hk _ _ e1
    rw [show b + (i - b) = i from by omega] at this
    rw [this]; rfl
  · rw [encV_get]
end

/-! ### Addresses, loads -/

theorem add_block (a : Addr) (n : Nat) : (a.add n).block = a.block := by unfold Addr.add; split <;> rfl
theorem add_none {a : Addr} (h : a.spot = none) (n : Nat) : a.add n = ⟨a.block, a.off + n, none⟩ := by
  obtain ⟨b, o, s⟩ := a
  simp only at h
  subst h
  unfold Addr.add; split <;> simp_all
theorem add_own (b off n : Nat) : (⟨b, off, none⟩ : Addr).add n = ⟨b, off + n, none⟩ := add_none rfl n
theorem add_zero' {a : Addr} (h : a.spot = none) : a.add 0 = a := by
  rw [add_none h]; obtain ⟨b, o, s⟩ := a; simp only at h; subst h; rfl
theorem add_add' {a : Addr} (h : a.spot = none) (m n : Nat) : (a.add m).add n = a.add (m + n) := by
  rw [add_none h, add_own, add_none h]; congr 1; omega

theorem offE_eq (o : Option (Nat × Nat)) (j : Nat) : offE o j = (match o with
  | none => j
  | some (i, m) => i * m + j) := by
  unfold offE
  split
  · rfl
  · rename_i i m
    have hm : mulE m i = i * m := by
      unfold mulE
      split
      · rename_i h; rw [Nat.eq_of_beq_eq_true h]; omega
      · rfl
    split
    · rename_i h; rw [Nat.eq_of_beq_eq_true h, hm]; rfl
    · rw [hm]
theorem mulE_eq (m i : Nat) : mulE m i = i * m := by
  unfold mulE
  split
  · rename_i h; rw [Nat.eq_of_beq_eq_true h]; omega
  · rfl
theorem lenE_eq (ks : List CK) (xs : List Int) : lenE ks xs = xs.length / ks.length := by
  unfold lenE
  split
  · simp
  · rfl
theorem lenE_of {ks : List CK} {xs : List Int} {n : Nat} (hp : 0 < ks.length) (h : xs.length = n * ks.length) : lenE ks xs = n := by
  rw [lenE_eq, h, Nat.mul_div_cancel _ hp]

section
variable {P : Program} {g : G} {w : World}
theorem partS_ok {l : List SC} {vs : List Value} {off n : Nat} {ag : Bool} {y : T} (h : partS l off n ag = some y) (hl : All2 (DC g w) l vs) :
    (ag = true ∧ off + n ≤ vs.length ∧ DT g w y (.agg ((vs.drop off).take n).toArray)) ∨ (ag = false ∧ ∃ v, vs[off]? = some v ∧ DT g w y v) := by
  unfold partS at h
  split at h
  · split at h
    · rename_i hle
      have hle := Nat.le_of_ble_eq_true hle
      simp only [Option.some.injEq] at h; subst h
      exact .inl ⟨rfl, by rw [← hl.len]; exact hle, _, rfl, (hl.drop _).take _⟩
    · cases h
  · split at h
    · rename_i c hc
      rw [nth_eq] at hc
      simp only [Option.some.injEq] at h; subst h
      obtain ⟨v, hv, hd⟩ := hl.get hc
      exact .inr ⟨rfl, v, hv, hd⟩
    · cases h

theorem load_ok {t : TypeId} {ag : Bool} {n off : Nat} {A : Addr} {l : List SC} {vs : List Value} {y : T} (ha : aggT P t = some ag) (hn : szT P t = some n)
    (hp : partS l off (nOf ag n) ag = some y) (hl : All2 (DC g w) l vs) (hA : A.spot = none) (hr : Rd w A vs) : ∃ v, (loadVar t (A.add off)).run P w = .ok v w ∧ DT g w y v := by
  rcases partS_ok hp hl with ⟨rfl, h1, h2⟩ | ⟨rfl, v, h1, h2⟩
  · simp only [nOf] at h1 h2
    have hl := run_loadCells_list (P := P) w (A.add off) ((vs.drop off).take n) (fun j v hv => by
      rw [add_add' hA]
      apply hr
      rw [List.getElem?_take] at hv
      split at hv
      · rwa [List.getElem?_drop] at hv
      · cases hv)
    have hln : ((vs.drop off).take n).length = n := by simp; omega
    rw [hln] at hl
    exact ⟨_, by simp [loadVar, run_agg ha, run_size hn, hl], h2⟩
  · refine ⟨v, ?_, h2⟩
    have := hr _ _ h1
    simp [loadVar, run_agg ha, this]
end

/-! ### Memory -/

def BlkOK (g : G) (w0 w : World) (k : Nat) : Blk → Prop
  | .cells l t => ∃ (b : Nat) (cs : List Value), g.ad k = some b ∧ w0.heap.size ≤ b ∧ w.heap[b]? = some (.cells cs.toArray t (0, 0)) ∧ All2 (DC g w) l cs
  | .flat ks xs t => ∃ b, g.ad k = some b ∧ w0.heap.size ≤ b ∧ w.heap[b]? = some (.cells (encV ks xs).toArray t (0, 0)) ∧ 0 < ks.length ∧ xs.length % ks.length = 0
  | .tok e i => g.tb k = some (e, i)

structure Mem (p : Nat → Nat → Prop) (w0 : World) (g : G) (bl : Tr (Option Blk)) (w : World) : Prop where
  base : Below w0.heap.size w0 w
  pl : g.pl = p
  plo : ∀ b f, p b f → b < w0.heap.size
  blk : ∀ k B, lkB bl k = some B → BlkOK g w0 w k B
  dom : ∀ k b, g.ad k = some b → ∃ B, lkB bl k = some B ∧ (∀ e i, B ≠ .tok e i)
  tdom : ∀ k e i, g.tb k = some (e, i) → lkB bl k = some (.tok e i)
  kdom : ∀ k q, g.tk k = some q → ∃ e i, lkB bl k = some (.tok e i)
  inj : ∀ k k' b, g.ad k = some b → g.ad k' = some b → k = k'
  tinj : ∀ k k' b f f', g.tk k = some (b, f) → g.tk k' = some (b, f') → k = k'
  sep : ∀ k k' b f, g.ad k = some b → g.tk k' = some (b, f) → False
  told : ∀ k b f, g.tk k = some (b, f) → w0.heap.size ≤ b ∧ b < w.heap.size

section
variable {p : Nat → Nat → Prop} {w0 w w' : World} {g : G} {bl : Tr (Option Blk)}

theorem lt_of_heap {w : World} {b : Nat} {o : Obj} (h : w.heap[b]? = some o) : b < w.heap.size := (Array.getElem?_eq_some_iff.1 h).1

theorem Mem.ad_lt (h : Mem p w0 g bl w) {k b : Nat} (hb : g.ad k = some b) : w0.heap.size ≤ b ∧ b < w.heap.size := by
  obtain ⟨B, hB, hne⟩ := h.dom k b hb
  have := h.blk k B hB
  cases B with
  | cells l t => obtain ⟨b', cs, h1, h2, h3, _⟩ := this; rw [hb] at h1; cases h1; exact ⟨h2, lt_of_heap h3⟩
  | flat ks xs t => obtain ⟨b', h1, h2, h3, _⟩ := this; rw [hb] at h1; cases h1; exact ⟨h2, lt_of_heap h3⟩
  | tok e i => exact absurd rfl (hne e i)
theorem Mem.lim_lt (h : Mem p w0 g bl w) {b f : Nat} (hl : Lim g b f) : b < w.heap.size := by
  rcases hl with ⟨_, k, hk⟩ | ⟨k, hk⟩ | hk
  · exact (h.ad_lt hk).2
  · exact (h.told k b f hk).2
  · rw [h.pl] at hk; exact Nat.lt_of_lt_of_le (h.plo b f hk) h.base.size
theorem Mem.far_new (h : Mem p w0 g bl w) {n : Nat} (hs : w.heap.size < w'.heap.size) : Far g w' ⟨w.heap.size, 0, none⟩ n :=
  ⟨rfl, hs, fun _ hf => absurd (h.lim_lt hf) (Nat.lt_irrefl _)⟩

theorem ext_grow (g : G) (hs : w.heap.size ≤ w'.heap.size) (hb : ∀ b, b < w.heap.size → w'.heap[b]? = w.heap[b]?) : Ext g w g w' :=
  ext_core hs (fun _ _ h => h) (fun b f _ h => ⟨f, h, Nat.le_refl _⟩) (fun A n hf j _ => World.cell?_of_block (by rw [add_block]; exact hb _ hf.lt))
    (fun k e i h => ⟨i, h, Nat.le_refl _, fun _ => rfl⟩) (fun _ b _ _ cur _ _ hc => ⟨cur, by rw [hb b (lt_of_heap hc)]; exact hc, rfl⟩)

theorem Mem.grow (h : Mem p w0 g bl w) (hb : Below w.heap.size w w') : Mem p w0 g bl w' := by
  have hx := ext_grow g hb.size hb.block
  refine ⟨h.base.trans (hb.mono h.base.size), h.pl, h.plo, fun k B hB => ?_, h.dom, h.tdom, h.kdom, h.inj, h.tinj, h.sep, fun k b f hk => ⟨(h.told k b f hk).1, Nat.lt_of_lt_of_le (h.told k b f hk).2 hb.size⟩⟩
  have := h.blk k B hB
  cases B with
  | cells l t => obtain ⟨b, cs, h1, h2, h3, h4⟩ := this; exact ⟨b, cs, h1, h2, by rw [hb.block b (lt_of_heap h3)]; exact h3, h4.mono hx.c⟩
  | flat ks xs t => obtain ⟨b, h1, h2, h3, h4⟩ := this; exact ⟨b, h1, h2, by rw [hb.block b (lt_of_heap h3)]; exact h3, h4⟩
  | tok e i => exact this
theorem Mem.drew (h : Mem p w0 g bl w) : Mem p w0 g bl w.drew := h.grow (Below.refl _ _).drew
theorem ext_below (g : G) (hb : Below w.heap.size w w') : Ext g w g w' := ext_grow g hb.size hb.block

theorem Mem.noad (h : Mem p w0 g bl w) {key : Nat} (hk : lkB bl key = none) : g.ad key = none := by
  cases ha : g.ad key with
  | none => rfl
  | some b => obtain ⟨B, hB, _⟩ := h.dom key b ha; rw [hk] at hB; cases hB
theorem Mem.notb (h : Mem p w0 g bl w) {key : Nat} (hk : lkB bl key = none) : g.tb key = none := by
  cases ha : g.tb key with
  | none => rfl
  | some q => obtain ⟨e, i⟩ := q; have := h.tdom key e i ha; rw [hk] at this; cases this
theorem Mem.notk (h : Mem p w0 g bl w) {key : Nat} (hk : lkB bl key = none) : g.tk key = none := by
  cases ha : g.tk key with
  | none => rfl
  | some q => obtain ⟨e, i, this⟩ := h.kdom key q ha; rw [hk] at this; cases this

/-- A new block of the call's own. -/
theorem Mem.alloc {key : Nat} {l : List SC} {cs : List Value} {t : TypeId} (h : Mem p w0 g bl w) (hk : lkB bl key = none) (hc : All2 (DC g w) l cs) :
    ∃ g', Ext g w g' (w.alloc (.cells cs.toArray t)) ∧ g'.ad key = some w.heap.size ∧ Mem p w0 g' (bl.set none (some (.cells l t)) (pth key)) (w.alloc (.cells cs.toArray t)) := by
  have hnone := h.noad hk
  have hne : ∀ k b, g.ad k = some b → k ≠ key := by rintro k b hb rfl; rw [hnone] at hb; cases hb
  have hold : ∀ b, b < w.heap.size → (w.alloc (.cells cs.toArray t)).heap[b]? = w.heap[b]? := fun b hb => Below.heap_alloc w _ b hb
  have hnew : (w.alloc (.cells cs.toArray t)).heap[w.heap.size]? = some (.cells cs.toArray t (0, 0)) := heap_alloc_new w _
  have hsz : (w.alloc (.cells cs.toArray t)).heap.size = w.heap.size + 1 := by show (w.heap.push _).size = _; simp
  have hx : Ext g w { g with ad := fun i => if i = key then some w.heap.size else g.ad i } (w.alloc (.cells cs.toArray t)) := by
    refine ext_core (by omega) (fun k b hb => by simp [hne k b hb, hb]) ?_ (fun A n hf j _ => World.cell?_of_block (by rw [add_block]; exact hold _ hf.lt)) (fun k e i h => ⟨i, h, Nat.le_refl _, fun _ => rfl⟩)
      (fun k b f e cur _ _ hc => ⟨cur, by rw [hold b (lt_of_heap hc)]; exact hc, rfl⟩)
    rintro b f hb (⟨rfl, k, hk⟩ | ht | hp)
    · simp only at hk
      split at hk
      · cases hk; omega
      · exact ⟨0, .inl ⟨rfl, k, hk⟩, Nat.le_refl _⟩
    · exact ⟨f, .inr (.inl ht), Nat.le_refl _⟩
    · exact ⟨f, .inr (.inr hp), Nat.le_refl _⟩
  refine ⟨_, hx, by simp, h.base.alloc h.base.size _, h.pl, h.plo, ?_, ?_, ?_, ?_, ?_, h.tinj, ?_, fun k b f hk => ⟨(h.told k b f hk).1, by have := (h.told k b f hk).2; omega⟩⟩
  · intro k B hB
    rw [lkB_set] at hB
    split at hB
    · rename_i e; subst e
      simp only [Option.some.injEq] at hB
      subst hB
      exact ⟨w.heap.size, cs, by simp, h.base.size, hnew, hc.mono hx.c⟩
    · rename_i hkk
      have := h.blk k B hB
      cases B with
      | cells l t => obtain ⟨b, cs, h1, h2, h3, h4⟩ := this; exact ⟨b, cs, by simp [hkk, h1], h2, by rw [hold b (lt_of_heap h3)]; exact h3, h4.mono hx.c⟩
      | flat ks xs t => obtain ⟨b, h1, h2, h3, h4⟩ := this; exact ⟨b, by simp [hkk, h1], h2, by rw [hold b (lt_of_heap h3)]; exact h3, h4⟩
      | tok e i => exact this
  · intro k b hb
    rw [lkB_set]
    simp only at hb
    split at hb
    · rename_i e; subst e; exact ⟨_, if_pos rfl, fun _ _ e => by cases e⟩
    · rename_i hkk; rw [if_neg hkk]; exact h.dom k b hb
  · intro k e i hb
    have hkk : k ≠ key := by rintro rfl; have hb : g.tb k = some (e, i) := hb; rw [h.notb hk] at hb; cases hb
    rw [lkB_set, if_neg hkk]; exact h.tdom k e i hb
  · intro k q hb
    have hkk : k ≠ key := by rintro rfl; have hb : g.tk k = some q := hb; rw [h.notk hk] at hb; cases hb
    rw [lkB_set, if_neg hkk]; exact h.kdom k q hb
  · intro k k' b hb hb'
    simp only at hb hb'
    split at hb <;> split at hb'
    · simp_all
    · simp only [Option.some.injEq] at hb; subst hb; have := (h.ad_lt hb').2; omega
    · simp only [Option.some.injEq] at hb'; subst hb'; have := (h.ad_lt hb).2; omega
    · exact h.inj k k' b hb hb'
  · intro k k' b f hb hb'
    simp only at hb
    split at hb
    · simp only [Option.some.injEq] at hb; subst hb; have := (h.told _ _ _ hb').2; omega
    · exact h.sep k k' b f hb hb'

/-- A write into a block of the call's own. -/
theorem Mem.setRow {key b : Nat} {B B' : Blk} {cs cs0 : List Value} {t : TypeId} (h : Mem p w0 g bl w) (hB : lkB bl key = some B) (hb : g.ad key = some b) (h0 : w.heap[b]? = some (.cells cs0.toArray t (0, 0)))
    (hB' : (∃ l, B' = .cells l t ∧ All2 (DC g w) l cs) ∨ ∃ ks xs, B' = .flat ks xs t ∧ cs = encV ks xs ∧ 0 < ks.length ∧ xs.length % ks.length = 0) :
    Ext g w g (w.setRow b cs.toArray) ∧ Mem p w0 g (bl.set none (some B') (pth key)) (w.setRow b cs.toArray) := by
  have hother : ∀ q, q ≠ b → (w.setRow b cs.toArray).heap[q]? = w.heap[q]? := fun q hq => setRow_other w b q _ hq
  have hsz : (w.setRow b cs.toArray).heap.size = w.heap.size := by simp [World.setRow]
  have hlt := h.ad_lt hb
  have hx : Ext g w g (w.setRow b cs.toArray) := by
    refine ext_core (by omega) (fun _ _ h => h) (fun b f _ h => ⟨f, h, Nat.le_refl _⟩) ?_ (fun k e i h => ⟨i, h, Nat.le_refl _, fun _ => rfl⟩) ?_
    · intro A n hf j hj
      have hne : A.block ≠ b := by
        rintro rfl
        have := hf.lim 0 (.inl ⟨rfl, key, hb⟩)
        omega
      exact World.cell?_of_block (by rw [add_block]; exact hother _ hne)
    · intro k q f e cur _ hk hc
      have hne : q ≠ b := by rintro rfl; exact h.sep key k q f hb hk
      exact ⟨cur, by rw [hother q hne]; exact hc, rfl⟩
  refine ⟨hx, h.base.trans ⟨rfl, rfl, rfl, by omega, fun q hq => hother q (by omega)⟩, h.pl, h.plo, ?_, ?_, ?_, ?_, h.inj, h.tinj, h.sep, fun k b f hk => ⟨(h.told k b f hk).1, by have := (h.told k b f hk).2; omega⟩⟩
  · intro k C hC
    rw [lkB_set] at hC
    split at hC
    · rename_i e; subst e
      simp only [Option.some.injEq] at hC
      subst hC
      rcases hB' with ⟨l, rfl, hc⟩ | ⟨ks, xs, rfl, rfl, h1, h2⟩
      · exact ⟨b, cs, hb, hlt.1, setRow_heap w b _ _ _ _ h0, hc.mono hx.c⟩
      · exact ⟨b, hb, hlt.1, setRow_heap w b _ _ _ _ h0, h1, h2⟩
    · rename_i hkk
      have := h.blk k C hC
      cases C with
      | cells l t => obtain ⟨q, cs, h1, h2, h3, h4⟩ := this; exact ⟨q, cs, h1, h2, by rw [hother q (fun e => hkk (h.inj k key b (e ▸ h1) hb))]; exact h3, h4.mono hx.c⟩
      | flat ks xs t => obtain ⟨q, h1, h2, h3, h4⟩ := this; exact ⟨q, h1, h2, by rw [hother q (fun e => hkk (h.inj k key b (e ▸ h1) hb))]; exact h3, h4⟩
      | tok e i => exact this
  · intro k q hq
    rw [lkB_set]
    split
    · refine ⟨_, rfl, fun e i he => ?_⟩
      rcases hB' with ⟨l, rfl, _⟩ | ⟨ks, xs, rfl, _⟩ <;> cases he
    · exact h.dom k q hq
  · intro k e i hq
    have hkk : k ≠ key := by
      rintro rfl
      obtain ⟨C, h1, h2⟩ := h.dom k b hb
      rw [h.tdom k e i hq] at h1
      cases h1
      exact h2 e i rfl
    rw [lkB_set, if_neg hkk]; exact h.tdom k e i hq
  · intro k q hq
    have hkk : k ≠ key := by
      rintro rfl
      obtain ⟨C, h1, h2⟩ := h.dom k b hb
      obtain ⟨e, i, h3⟩ := h.kdom k q hq
      rw [h3] at h1
      cases h1
      exact h2 e i rfl
    rw [lkB_set, if_neg hkk]; exact h.kdom k q hq

/-- Something may be put behind a slice from now on. -/
theorem Mem.tok {key : Nat} (e : TypeId) (i : Nat) (h : Mem p w0 g bl w) (hk : lkB bl key = none) :
    ∃ g', Ext g w g' w ∧ g'.tb key = some (e, i) ∧ g'.tk key = none ∧ (∀ b f, Lim g' b f ↔ Lim g b f) ∧ Mem p w0 g' (bl.set none (some (.tok e i)) (pth key)) w := by
  have hnone := h.notb hk
  have hx : Ext g w { g with tb := fun j => if j = key then some (e, i) else g.tb j } w := by
    refine ext_core (Nat.le_refl _) (fun _ _ h => h) (fun b f _ h => ⟨f, h, Nat.le_refl _⟩) (fun _ _ _ _ _ => rfl) (fun k e' i' hb => ?_) (fun k b f e cur _ _ hc => ⟨cur, hc, rfl⟩)
    have hkk : k ≠ key := by rintro rfl; rw [hnone] at hb; cases hb
    exact ⟨i', by simp [hkk, hb], Nat.le_refl _, fun _ => rfl⟩
  refine ⟨_, hx, by simp, h.notk hk, fun _ _ => Iff.rfl, h.base, h.pl, h.plo, ?_, ?_, ?_, ?_, h.inj, h.tinj, h.sep, h.told⟩
  · intro k B hB
    rw [lkB_set] at hB
    split at hB
    · rename_i e; subst e
      simp only [Option.some.injEq] at hB
      subst hB
      simp [BlkOK]
    · rename_i hkk
      have := h.blk k B hB
      cases B with
      | cells l t => obtain ⟨b, cs, h1, h2, h3, h4⟩ := this; exact ⟨b, cs, h1, h2, h3, h4.mono hx.c⟩
      | flat ks xs t => exact this
      | tok e i => simpa [BlkOK, hkk] using this
  · intro k b hb
    have hkk : k ≠ key := by rintro rfl; have hb : g.ad k = some b := hb; rw [h.noad hk] at hb; cases hb
    rw [lkB_set, if_neg hkk]; exact h.dom k b hb
  · intro k e' i' hb
    simp only at hb
    rw [lkB_set]
    split at hb
    · rename_i hkk; rw [if_pos hkk]; cases hb; rfl
    · rename_i hkk; rw [if_neg hkk]; exact h.tdom k e' i' hb
  · intro k q hb
    have hkk : k ≠ key := by rintro rfl; have hb : g.tk k = some q := hb; rw [h.notk hk] at hb; cases hb
    rw [lkB_set, if_neg hkk]; exact h.kdom k q hb
/-- A callee's own slice comes with a number of the caller's. -/
theorem Mem.tokOwn {key : Nat} (e : TypeId) (i : Nat) (q : Option (Nat × Nat)) (h : Mem p w0 g bl w) (hk : lkB bl key = none) (hb : Below w.heap.size w w') (hq : ∀ b f, q = some (b, f) → w.heap.size ≤ b ∧ b < w'.heap.size) :
    ∃ g', Ext g w g' w' ∧ g'.tb key = some (e, i) ∧ g'.tk key = q ∧ (∀ b f, Lim g' b f → q = some (b, f) ∨ Lim g b f) ∧ Mem p w0 g' (bl.set none (some (.tok e i)) (pth key)) w' := by
  have hnone := h.notb hk
  have hx : Ext g w { g with tb := fun j => if j = key then some (e, i) else g.tb j, tk := fun j => if j = key then q else g.tk j } w' := by
    refine ext_core hb.size (fun _ _ h => h) ?_ (fun A n hf j _ => World.cell?_of_block (by rw [add_block]; exact hb.block _ hf.lt)) (fun k e' i' hb' => ?_) (fun k b f e cur _ _ hc => ⟨cur, by rw [hb.block b (lt_of_heap hc)]; exact hc, rfl⟩)
    · rintro b f hlt (⟨rfl, k, hk'⟩ | ⟨k, hk'⟩ | hp)
      · exact ⟨0, .inl ⟨rfl, k, hk'⟩, Nat.le_refl _⟩
      · simp only at hk'
        split at hk'
        · have := (hq b f hk').1; omega
        · exact ⟨f, .inr (.inl ⟨k, hk'⟩), Nat.le_refl _⟩
      · exact ⟨f, .inr (.inr hp), Nat.le_refl _⟩
    · have hkk : k ≠ key := by rintro rfl; rw [hnone] at hb'; cases hb'
      exact ⟨i', by simp [hkk, hb'], Nat.le_refl _, fun _ => by simp [hkk]⟩
  have h' := h.grow hb
  refine ⟨_, hx, by simp, by simp, ?_, h'.base, h.pl, h.plo, ?_, ?_, ?_, ?_, h.inj, ?_, ?_, ?_⟩
  · rintro b f (⟨rfl, k, hk'⟩ | ⟨k, hk'⟩ | hp)
    · exact .inr (.inl ⟨rfl, k, hk'⟩)
    · simp only at hk'
      split at hk'
      · exact .inl hk'
      · exact .inr (.inr (.inl ⟨k, hk'⟩))
    · exact .inr (.inr (.inr hp))
  · intro k B hB
    rw [lkB_set] at hB
    split at hB
    · rename_i hkk; subst hkk
      simp only [Option.some.injEq] at hB
      subst hB
      simp [BlkOK]
    · rename_i hkk
      have := h.blk k B hB
      cases B with
      | cells l t => obtain ⟨b, cs, h1, h2, h3, h4⟩ := this; exact ⟨b, cs, h1, h2, by rw [hb.block b (lt_of_heap h3)]; exact h3, h4.mono hx.c⟩
      | flat ks xs t => obtain ⟨b, h1, h2, h3, h4⟩ := this; exact ⟨b, h1, h2, by rw [hb.block b (lt_of_heap h3)]; exact h3, h4⟩
      | tok e i => simpa [BlkOK, hkk] using this
  · intro k b hb'
    have hkk : k ≠ key := by rintro rfl; have hb' : g.ad k = some b := hb'; rw [h.noad hk] at hb'; cases hb'
    rw [lkB_set, if_neg hkk]; exact h.dom k b hb'
  · intro k e' i' hb'
    simp only at hb'
    rw [lkB_set]
    split at hb'
    · rename_i hkk; rw [if_pos hkk]; cases hb'; rfl
    · rename_i hkk; rw [if_neg hkk]; exact h.tdom k e' i' hb'
  · intro k q' hb'
    simp only at hb'
    rw [lkB_set]
    split at hb'
    · rename_i hkk; rw [if_pos hkk]; exact ⟨_, _, rfl⟩
    · rename_i hkk; rw [if_neg hkk]; exact h.kdom k q' hb'
  · intro k k' b f f' h1 h2
    simp only at h1 h2
    split at h1 <;> split at h2
    · simp_all
    · have := (hq b f h1).1; have := (h.told k' b f' h2).2; omega
    · have := (hq b f' h2).1; have := (h.told k b f h1).2; omega
    · exact h.tinj k k' b f f' h1 h2
  · intro k k' b f h1 h2
    simp only at h2
    split at h2
    · have := (hq b f h2).1; have := (h.ad_lt h1).2; omega
    · exact h.sep k k' b f h1 h2
  · intro k b f h1
    simp only at h1
    split at h1
    · exact ⟨Nat.le_trans h.base.size (hq b f h1).1, (hq b f h1).2⟩
    · exact h'.told k b f h1
end
end SY
end Go.Proofs.YtapjehgfekjdaaaDoor
