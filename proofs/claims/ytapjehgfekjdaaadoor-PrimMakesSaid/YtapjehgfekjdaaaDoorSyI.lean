/- The symbolic executor's single operations are sound: parts, slices, all. No condition. -/
import Derived.Test.YtapjehgfekjdaaaDoorSyH
namespace Go.Proofs.YtapjehgfekjdaaaDoor
open Go.RowKit
namespace SY
section
variable {P : Program} {p : Nat → Nat → Prop} {w0 w : World} {g : G} {sl : Tr S} {bl : Tr (Option Blk)} {key n : Nat} {ef : Ef}

/-! ### Parts -/

theorem foldl_splice (off : Nat) : ∀ (vs : List Value) (j : Nat) (l : List Value), off + j + vs.length ≤ l.length →
    ((vs.zipIdx j).foldl (fun cs (x : Value × Nat) => cs.setIfInBounds (off + x.2) x.1) l.toArray).toList = splice l (off + j) vs
  | [], j, l, _ => by simp [splice]
  | v :: vs, j, l, h => by
    simp only [List.zipIdx_cons, List.foldl_cons, List.length_cons] at h ⊢
    have e : (l.toArray.setIfInBounds (off + j) v) = (l.set (off + j) v).toArray := by simp
    rw [e, foldl_splice off vs (j + 1) _ (by simp; omega)]
    apply List.ext_getElem?
    intro i
    rw [splice_get _ _ _ _ (by simp; omega), splice_get _ _ _ _ (by simp; omega)]
    simp only [List.length_cons]
    by_cases h1 : off + (j + 1) ≤ i ∧ i < off + (j + 1) + vs.length
    · rw [if_pos h1, if_pos (by omega)]
      obtain ⟨d, hd⟩ : ∃ d, i - (off + j) = d + 1 := ⟨i - (off + j) - 1, by omega⟩
      rw [hd, List.getElem?_cons_succ]
      congr 1; omega
    · rw [if_neg h1, List.getElem?_set]
      by_cases h2 : off + j = i
      · subst h2
        rw [if_pos rfl, if_pos (by omega), if_pos (by omega), Nat.sub_self]; rfl
      · rw [if_neg h2, if_neg (by omega)]

theorem fill_step {place : Nat → Option (Nat × Nat)} {i off size : Nat} {v : Value} {l : List Value} {rest : List (Nat × Value)} (hp : place i = some (off, size)) (hs : v.cells.size = size) (hl : off + size ≤ l.length) :
    Instr.fill place l.toArray ((i, v) :: rest) = Instr.fill place (splice l off v.cells.toList).toArray rest := by
  simp only [Instr.fill, hp]
  rw [if_neg (by simp; omega)]
  congr 1
  apply Array.ext'
  have := foldl_splice off v.cells.toList 0 l (by simp; omega)
  simp only [Nat.add_zero] at this
  rw [← this]
  simp only [← Array.foldl_toList, Array.toList_zipIdx]

theorem parts_cons (ρ : Opd → S) (q : Nat × Nat × Opd) (ps : List (Nat × Nat × Opd)) (l : List SC) : parts ρ (q :: ps) l = (match cellsO (ρ q.2.2) with
    | some m => match Nat.beq m.length q.2.1 && Nat.ble (q.1 + q.2.1) l.length with
      | true => match allC m with
        | true => parts ρ ps (splice l q.1 m)
        | false => none
      | false => none
    | none => none) := rfl
theorem partsI_cons (ρ : Opd → S) (ks : List CK) (q : Nat × Nat × Opd) (ps : List (Nat × Nat × Opd)) (l : List Int) : partsI ρ ks (q :: ps) l = (match cellsO (ρ q.2.2) with
    | some m => match toIs ks m with
      | some is => match Nat.beq is.length q.2.1 && Nat.ble (q.1 + q.2.1) l.length with
        | true => partsI ρ ks ps (splice l q.1 is)
        | false => none
      | none => none
    | none => none) := rfl

theorem splice_all2 {l m : List SC} {vs us : List Value} (h : All2 (DC g w) l vs) (h' : All2 (DC g w) m us) (off : Nat) : All2 (DC g w) (splice l off m) (splice vs off us) := by
  unfold splice
  rw [h'.len]
  exact (h.take _).app (h'.app (h.drop _))

theorem parts_ok {pl : Nat → Option (Nat × Nat)} {e : Operand → Value} (hd : ∀ x y, cpo n x = some y → DS g w (opv sl y) (e x)) : ∀ {ps : List (Nat × Operand)} {qs : List (Nat × Nat × Opd)} {l r : List SC} {vs : List Value},
    cparts n pl ps = some qs → parts (opv sl) qs l = some r → All2 (DC g w) l vs → ∃ us, Instr.fill pl vs.toArray (ps.map fun (i, x) => (i, e x)) = some us.toArray ∧ All2 (DC g w) r us
  | [], qs, l, r, vs, h, h', hl => by
    simp only [cparts, Option.some.injEq] at h; subst h
    simp only [parts, Option.some.injEq] at h'; subst h'
    exact ⟨vs, rfl, hl⟩
  | (i, x) :: ps, qs, l, r, vs, h, h', hl => by
    simp only [cparts] at h
    split at h <;> try (cases h; done)
    rename_i o m y hpl hy
    split at h <;> try (cases h; done)
    rename_i q hq
    simp only [Option.some.injEq] at h; subst h
    rw [parts_cons] at h'
    simp only at h'
    split at h' <;> try (cases h'; done)
    rename_i c hc
    split at h' <;> try (cases h'; done)
    rename_i hcond
    split at h' <;> try (cases h'; done)
    rename_i hall
    simp only [Bool.and_eq_true] at hcond
    have h1 := Nat.eq_of_beq_eq_true hcond.1
    have h2 := Nat.le_of_ble_eq_true hcond.2
    have hcells := cellsO_ok hc hall (hd x y hy)
    have hsz : (e x).cells.size = m := by rw [← h1, hcells.len]; simp
    obtain ⟨us, hu, hr⟩ := parts_ok hd hq h' (splice_all2 hl hcells o)
    refine ⟨us, ?_, hr⟩
    rw [List.map_cons, fill_step hpl hsz (by rw [← hl.len]; exact h2)]
    exact hu

theorem toI_okC {k : CK} {c : SC} {x : Int} (h : toI k c = some x) : okC c = true := by
  unfold toI at h
  split at h <;> try rfl
  cases h
theorem toIs_allC : ∀ {kk : List CK} {c : List SC} {is : List Int}, toIs kk c = some is → allC c = true
  | [], c, is, h => by
    rw [toIs_nil] at h
    split at h
    · rfl
    · cases h
  | k :: kk, c, is, h => by
    rw [toIs_cons] at h
    split at h
    · cases h
    · split at h <;> try (cases h; done)
      rename_i x hx
      split at h <;> try (cases h; done)
      rename_i xs hxs
      rw [allC_cons, toI_okC hx]
      exact toIs_allC hxs

theorem partsI_ok {ks : List CK} {e : Operand → Value} (hd : ∀ x y, cpo n x = some y → DS g w (opv sl y) (e x)) : ∀ {ps : List (Nat × Operand)} {qs : List (Nat × Nat × Opd)} {l r : List Int},
    cparts n (fun i => some (i * ks.length, ks.length)) ps = some qs → partsI (opv sl) ks qs l = some r →
    Instr.fill (fun i => some (i * ks.length, ks.length)) (encV ks l).toArray (ps.map fun (i, x) => (i, e x)) = some (encV ks r).toArray ∧ r.length = l.length
  | [], qs, l, r, h, h' => by
    simp only [cparts, Option.some.injEq] at h; subst h
    simp only [partsI, Option.some.injEq] at h'; subst h'
    exact ⟨rfl, rfl⟩
  | (i, x) :: ps, qs, l, r, h, h' => by
    simp only [cparts] at h
    split at h <;> try (cases h; done)
    rename_i o m y hpl hy
    simp only [Option.some.injEq, Prod.mk.injEq] at hpl
    obtain ⟨rfl, rfl⟩ := hpl
    split at h <;> try (cases h; done)
    rename_i q hq
    simp only [Option.some.injEq] at h; subst h
    rw [partsI_cons] at h'
    simp only at h'
    split at h' <;> try (cases h'; done)
    rename_i c hc
    split at h' <;> try (cases h'; done)
    rename_i is his
    split at h' <;> try (cases h'; done)
    rename_i hcond
    simp only [Bool.and_eq_true] at hcond
    have h2 := Nat.le_of_ble_eq_true hcond.2
    have hcells := cellsO_ok hc (toIs_allC his) (hd x y hy)
    obtain ⟨t1, t2, t3⟩ := toIs_ok his hcells
    have hsz : (e x).cells.size = ks.length := by rw [← t2]; simp
    obtain ⟨hu, hr⟩ := partsI_ok hd hq h'
    refine ⟨?_, by rw [hr, splice_len _ _ _ (by omega)]⟩
    rw [List.map_cons, fill_step (place := fun i => some (i * ks.length, ks.length)) rfl hsz (by rw [encV_len]; exact h2)]
    rw [← encV_splice (kk := ks) (ks := ks) (is := is) ?_ t1 t2 t3 h2]
    · exact hu
    · intro t k hk
      rw [kAt_add (by simp)]
      exact kAt_lt hk

theorem placesF_ok : ∀ {fs : List Field} {pl : List (Nat × Nat)}, placesF P fs = some pl → fs.mapM (fun f => (P.info? f.type).map fun i => (f.offset, i.size)) = some pl
  | [], pl, h => by simp only [placesF, Option.some.injEq] at h; subst h; rfl
  | f :: fs, pl, h => by
    simp only [placesF] at h
    split at h <;> try (cases h; done)
    rename_i m hm
    split at h <;> try (cases h; done)
    rename_i l hl
    simp only [Option.some.injEq] at h; subst h
    obtain ⟨i, hi, rfl⟩ := szT_eq hm
    simp [List.mapM_cons, hi, placesF_ok hl]

/-! ### Slices of slices -/

theorem Far.sub {A : Addr} {m k d : Nat} (h : Far g w A m) (hd : d + k ≤ m) : Far g w (A.add d) k := by
  refine ⟨?_, by rw [add_block]; exact h.lt, fun f hf => ?_⟩
  · rw [add_none h.spot]
  · rw [add_block] at hf
    rw [add_none h.spot]
    have := h.lim f hf
    simp only; omega

theorem SlI.part {ks : List CK} {xs ys : List Int} {tok} {a : Option Addr} {n c l h m : Nat} (hx : SlI g w ks xs tok a n c) (h1 : l ≤ h) (h2 : h ≤ m) (h3 : m ≤ c) (h4 : h ≤ n) (hy : ys = (xs.take (h * ks.length)).drop (l * ks.length)) :
    SlI g w ks ys none (if m = l then a else a.map (·.add (l * ks.length))) (h - l) (m - l) := by
  have hle : h * ks.length ≤ xs.length := by rw [hx.len]; exact Nat.mul_le_mul_right _ h4
  have hll : l * ks.length ≤ h * ks.length := Nat.mul_le_mul_right _ h1
  have hyl : ys.length = (h - l) * ks.length := by rw [hy, List.length_drop, List.length_take, Nat.min_eq_left hle, Nat.sub_mul]
  have hmost := hx.most
  refine ⟨by omega, by omega, hx.pos, hyl, fun ha => ?_, fun A hA => ?_, trivial⟩
  · have : a = none := by
      split at ha
      · exact ha
      · cases a with
        | none => rfl
        | some A => cases ha
    have := hx.nil this
    omega
  · have hy0 : ys.length = 0 → ys = [] := List.eq_nil_of_length_eq_zero
    by_cases h0 : ys.length = 0
    · have := hy0 h0
      subst this
      exact ⟨fun h => by simp at h, fun j u hu => by simp [encV] at hu⟩
    · split at hA
      · exact absurd (by rw [hyl, show h - l = 0 from by omega, Nat.zero_mul]) h0
      · cases a with
        | none => cases hA
        | some B =>
          simp only [Option.map_some, Option.some.injEq] at hA
          subst hA
          obtain ⟨hf, hr⟩ := hx.at_ B rfl
          have hsub : l * ks.length + ys.length ≤ xs.length := by rw [hyl, Nat.sub_mul]; omega
          have hf := hf (by omega)
          refine ⟨fun _ => hf.sub hsub, fun j u hu => ?_⟩
          rw [add_add' hf.spot]
          apply hr
          rw [hy, encV_drop _ (by simp), encV_take, List.getElem?_drop, List.getElem?_take] at hu
          split at hu
          · exact hu
          · cases hu

theorem optI_ok {x : Option Operand} {f : Option Opd → CO} {e : Operand → Value} (hd : ∀ x y, cpo n x = some y → DS g w (opv sl y) (e x)) (h : effC P sl bl key (cO n x f) = some ef) :
    ∃ y, effC P sl bl key (f y) = some ef ∧ ∀ r, optI (opv sl) y = some r → (r = none ∧ x.map e = none) ∨ ∃ k i, r = some i ∧ x.map e = some (.int k i) := by
  unfold cO at h
  split at h
  · exact ⟨none, h, fun r hr => .inl (by simp only [optI, Option.some.injEq] at hr; exact ⟨hr.symm, rfl⟩)⟩
  · rename_i z
    split at h
    · rename_i y hy
      refine ⟨some y, h, fun r hr => .inr ?_⟩
      simp only [optI] at hr
      split at hr <;> try (cases hr; done)
      rename_i k i hi
      simp only [Option.some.injEq] at hr
      exact ⟨k, i, hr.symm, by rw [Option.map_some, intS_ok hi (hd z y hy)]⟩
    · cases h

/-- The slice of a slice. -/
theorem slc_ok {t e : TypeId} {ks : List CK} {xs : List Int} {tok} {a : Option Addr} {n c : Nat} {lo hi mx : Option Int} {vl vh vm : Option Value} (ht : P.underlying t = some (.slice e)) (hs : szT P e = some ks.length) (hx : SlI g w ks xs tok a n c)
    (hl : (lo = none ∧ vl = none) ∨ ∃ k i, lo = some i ∧ vl = some (.int k i)) (hh : (hi = none ∧ vh = none) ∨ ∃ k i, hi = some i ∧ vh = some (.int k i)) (hm : (mx = none ∧ vm = none) ∨ ∃ k i, mx = some i ∧ vm = some (.int k i))
    (hok : cutOk (lenE ks xs) lo hi mx = true) :
    ∃ a' n' c', (Instr.sliceAt t (.slice a n c) vl vh vm).run P w = .ok (.slice a' n' c') w ∧ SlI g w ks (cutI ks.length xs lo hi) none a' n' c' ∧ (mx ≠ none → c' = n') := by
  obtain ⟨ht', he⟩ := elem_of ht
  have hsz : (sizeOf (P.elem t)).run P w = .ok ks.length w := by rw [he]; exact run_size hs w
  rw [lenE_of hx.pos hx.len] at hok
  rw [run_sliceAt_slice w t _ _ _ _ ht']
  have hcap := hx.cap
  rcases hl with ⟨rfl, rfl⟩ | ⟨kl, il, rfl, rfl⟩ <;> rcases hh with ⟨rfl, rfl⟩ | ⟨kh, ih, rfl, rfl⟩ <;> rcases hm with ⟨rfl, rfl⟩ | ⟨km, im, rfl, rfl⟩ <;> simp only [cutOk, Bool.and_eq_true, decide_eq_true_eq] at hok <;> try (cases hok; done)
  · rw [run_slice_all w t a n c ht', hsz]
    exact ⟨_, _, _, rfl, hx.part (l := 0) (h := n) (m := c) (by omega) (by omega) (by omega) (by omega) (by rw [← hx.len]; simp [cutI]), fun h => absurd rfl h⟩
  · rw [run_slice_h w t a n c ht' kh ih hok.1 (by omega), hsz]
    exact ⟨_, _, _, rfl, hx.part (l := 0) (h := ih.toNat) (m := c) (by omega) (by omega) (by omega) (by omega) (by simp [cutI, mulE_eq]), fun h => absurd rfl h⟩
  · rw [run_slice_hm w t a n c ht' kh km ih im (by omega) (by omega) (by omega), hsz]
    exact ⟨_, _, _, rfl, hx.part (l := 0) (h := ih.toNat) (m := im.toNat) (by omega) (by omega) (by omega) (by omega) (by simp [cutI, mulE_eq]), fun _ => by omega⟩
  · rw [run_slice_l w t a n c ht' kl il hok.1 (by omega), hsz]
    exact ⟨_, _, _, rfl, hx.part (l := il.toNat) (h := n) (m := c) (by omega) (by omega) (by omega) (by omega) (by rw [← hx.len]; simp [cutI, mulE_eq]), fun h => absurd rfl h⟩
  · rw [run_slice_lh w t a n c ht' kl kh il ih hok.1 hok.2.1 (by omega), hsz]
    exact ⟨_, _, _, rfl, hx.part (l := il.toNat) (h := ih.toNat) (m := c) (by omega) (by omega) (by omega) (by omega) (by simp [cutI, mulE_eq]), fun h => absurd rfl h⟩
  · rw [run_slice_lhm w t a n c ht' kl kh km il ih im (by omega) (by omega) (by omega) (by omega), hsz]
    exact ⟨_, _, _, rfl, hx.part (l := il.toNat) (h := ih.toNat) (m := im.toNat) (by omega) (by omega) (by omega) (by omega) (by simp [cutI, mulE_eq]), fun _ => by omega⟩

theorem nil_sl {ks : List CK} (hp : 0 < ks.length) : SlI g w ks [] none none 0 0 :=
  ⟨Nat.le_refl _, Nat.zero_le _, hp, by simp, fun _ => ⟨rfl, rfl⟩, fun A h => (by cases h), trivial⟩
end
end SY
end Go.Proofs.YtapjehgfekjdaaaDoor
