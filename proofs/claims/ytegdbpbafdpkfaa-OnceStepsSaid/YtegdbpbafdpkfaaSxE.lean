/- The symbolic executor's memory is the machine's. No condition. -/
import Derived.Test.YtegdbpbafdpkfaaSxD
namespace Go.Proofs.Ytegdbpbafdpkfaa
open Go.RowKit
namespace SX

structure Mem (w0 : World) (ad : Ad) (bl : Nat → Option Blk) (w : World) : Prop where
  base : Below w0.heap.size w0 w
  blk : ∀ k B, bl k = some B → ∃ (b : Nat) (cs : List Value), ad k = some b ∧ w0.heap.size ≤ b ∧ w.heap[b]? = some (.cells cs.toArray B.t (0, 0)) ∧ All2 (DC ad) B.cells cs
  dom : ∀ k b, ad k = some b → ∃ B, bl k = some B
  inj : ∀ k k' b, ad k = some b → ad k' = some b → k = k'

section
variable {P : Program} {ad : Ad} {w0 w W : World} {bl : Nat → Option Blk}

theorem Mem.drew (h : Mem w0 ad bl w) : Mem w0 ad bl w.drew := ⟨h.base.drew, h.blk, h.dom, h.inj⟩

/-- A callee that leaves all that was there as it was. -/
theorem Mem.below {w' : World} (h : Mem w0 ad bl w) (hb : Below w.heap.size w w') : Mem w0 ad bl w' := by
  refine ⟨h.base.trans (hb.mono h.base.size), fun k B hk => ?_, h.dom, h.inj⟩
  obtain ⟨b, cs, h1, h2, h3, h4⟩ := h.blk k B hk
  refine ⟨b, cs, h1, h2, ?_, h4⟩
  rw [hb.block b (Array.getElem?_eq_some_iff.1 h3).1]
  exact h3

theorem Mem.alloc {key : Nat} {l : List SC} {cs : List Value} {t : TypeId} (h : Mem w0 ad bl w) (hk : bl key = none) (hc : All2 (DC ad) l cs) :
    ∃ ad', Ext ad ad' ∧ ad' key = some w.heap.size ∧ Mem w0 ad' (updB bl (some (key, ⟨l, t⟩))) (w.alloc (.cells cs.toArray t)) := by
  have hnone : ad key = none := by
    cases ha : ad key with
    | none => rfl
    | some b => obtain ⟨B, hB⟩ := h.dom key b ha; rw [hk] at hB; cases hB
  have hlt : ∀ k b, ad k = some b → b < w.heap.size := by
    intro k b hb
    obtain ⟨B, hB⟩ := h.dom k b hb
    obtain ⟨b', cs', h1, _, h3, _⟩ := h.blk k B hB
    rw [hb] at h1
    cases h1
    exact (Array.getElem?_eq_some_iff.1 h3).1
  have hext : Ext ad (fun i => if i = key then some w.heap.size else ad i) := by
    intro k b hb
    have : k ≠ key := by rintro rfl; rw [hnone] at hb; cases hb
    simp [this, hb]
  refine ⟨fun i => if i = key then some w.heap.size else ad i, hext, by simp, ?_, ?_, ?_, ?_⟩
  · exact h.base.alloc h.base.size _
  · intro k B hB
    simp only [updB] at hB
    split at hB
    · rename_i hkk
      have hkk := Nat.eq_of_beq_eq_true hkk
      subst hkk
      simp only [Option.some.injEq] at hB
      subst hB
      exact ⟨w.heap.size, cs, by simp, h.base.size, heap_alloc_new w _, hc.mono fun _ _ => DC.mono hext⟩
    · rename_i hkk
      obtain ⟨b, cs', h1, h2, h3, h4⟩ := h.blk k B hB
      refine ⟨b, cs', hext _ _ h1, h2, ?_, h4.mono fun _ _ => DC.mono hext⟩
      rw [Below.heap_alloc w _ b (hlt k b h1)]
      exact h3
  · intro k b hb
    simp only [updB]
    split
    · exact ⟨_, rfl⟩
    · rename_i hkk
      have : k ≠ key := by rintro rfl; simp at hkk
      simp only [this, if_false] at hb
      exact h.dom k b hb
  · intro k k' b hb hb'
    split at hb <;> split at hb'
    · simp_all
    · simp only [Option.some.injEq] at hb; subst hb
      have := hlt _ _ hb'
      omega
    · simp only [Option.some.injEq] at hb'; subst hb'
      have := hlt _ _ hb
      omega
    · exact h.inj k k' b hb hb'

theorem Mem.store {key : Nat} {B : Blk} {b : Nat} {l : List SC} {cs : List Value} (h : Mem w0 ad bl w) (hB : bl key = some B) (hb : ad key = some b) (hc : All2 (DC ad) l cs) :
    Mem w0 ad (updB bl (some (key, ⟨l, B.t⟩))) (w.setRow b cs.toArray) := by
  obtain ⟨b', cs', h1, h2, h3, h4⟩ := h.blk key B hB
  rw [hb] at h1
  cases h1
  refine ⟨?_, ?_, ?_, h.inj⟩
  · exact h.base.trans ⟨rfl, rfl, rfl, by simp, fun k hk => setRow_other w b k _ (by omega)⟩
  · intro k B' hB'
    simp only [updB] at hB'
    split at hB'
    · rename_i hkk
      have hkk := Nat.eq_of_beq_eq_true hkk
      subst hkk
      simp only [Option.some.injEq] at hB'
      subst hB'
      exact ⟨b, cs, hb, h2, setRow_heap w b _ _ _ _ h3, hc⟩
    · rename_i hkk
      obtain ⟨b2, cs2, g1, g2, g3, g4⟩ := h.blk k B' hB'
      have hne : b2 ≠ b := by
        rintro rfl
        have := h.inj k key b2 g1 hb
        subst this
        simp at hkk
      exact ⟨b2, cs2, g1, g2, by rw [setRow_other w b b2 _ hne]; exact g3, g4⟩
  · intro k b2 hb2
    simp only [updB]
    split
    · exact ⟨_, rfl⟩
    · exact h.dom k b2 hb2

theorem okC_one {c : SC} {v : Value} (h : okC c = true) (d : DC ad c v) : v.oneCell' = true ∧ v.cells = #[v] := by
  cases c with
  | v x =>
    have : v = x := d
    subst this
    cases v <;> simp_all [okC, Value.oneCell', Value.cells]
  | own i off => obtain ⟨b, _, rfl⟩ := d; exact ⟨rfl, rfl⟩
  | any => simp [okC] at h
theorem allC_one : ∀ {l : List SC} {vs : List Value}, allC l = true → All2 (DC ad) l vs → ∀ v ∈ vs, v.oneCell' = true
  | [], [], _, _, v, hv => by cases hv
  | c :: l, x :: vs, h, d, v, hv => by
    simp only [allC] at h
    split at h
    · rename_i hc
      rcases List.mem_cons.1 hv with rfl | hv
      · exact (okC_one hc d.1).1
      · exact allC_one h d.2 v hv
    · cases h
theorem cellsT_ok {x : T} {v : Value} (h : allC (cellsT x) = true) (d : DT ad x v) : All2 (DC ad) (cellsT x) v.cells.toList := by
  cases x with
  | c y =>
    simp only [cellsT, allC] at h
    split at h
    · rename_i hc
      have d : DC ad y v := d
      rw [(okC_one hc d).2]
      exact ⟨d, trivial⟩
    · cases h
  | agg l => obtain ⟨vs, rfl, hl⟩ := d; simpa [cellsT, Value.cells] using hl

theorem loadS_ok {t : TypeId} {B : List SC} {off b : Nat} {x : T} {cs : List Value} {tt : TypeId} (h : loadS P t B off = some x) (hb : w.heap[b]? = some (.cells cs.toArray tt (0, 0))) (hc : All2 (DC ad) B cs) :
    ∃ v, (loadVar t ⟨b, off, none⟩).run P w = .ok v w ∧ DT ad x v := by
  unfold loadS at h
  have hcell : ∀ j v, cs[off + j]? = some v → w.cell? ⟨b, off + j, none⟩ = some v := by
    intro j v hv
    simp [World.cell?, hb, hv]
  split at h
  · rename_i ha
    split at h
    · rename_i n hn
      split at h
      · rename_i hle
        have hle := Nat.le_of_ble_eq_true hle
        simp only [Option.some.injEq] at h; subst h
        have hlen := hc.len
        have hl := run_loadCells_list (P := P) w ⟨b, off, none⟩ ((cs.drop off).take n) (fun j v hv => by
          rw [add_own]
          apply hcell
          rw [List.getElem?_take] at hv
          split at hv
          · rwa [List.getElem?_drop] at hv
          · cases hv)
        have hln : ((cs.drop off).take n).length = n := by simp; omega
        rw [hln] at hl
        refine ⟨.agg ((cs.drop off).take n).toArray, ?_, ⟨_, rfl, (hc.drop _).take _⟩⟩
        simp [loadVar, run_agg ha, run_size hn, hl]
      · cases h
    · cases h
  · rename_i ha
    split at h
    · rename_i c hcc
      simp only [Option.some.injEq] at h; subst h
      obtain ⟨v, hv, hd⟩ := hc.get hcc
      refine ⟨v, ?_, hd⟩
      have := hcell 0 v (by simpa using hv)
      simp only [Nat.add_zero] at this
      simp [loadVar, run_agg ha, this]
    · cases h
  · cases h

/-! ### Memory that was there -/

def rdVals (W : World) (a : Addr) : Nat → List IntKind → List Value
  | _, [] => []
  | i, k :: r => .int k (rdI W (a.add i)) :: rdVals W a (i + 1) r

theorem rdVals_ok (W : World) (a : Addr) : ∀ (ks : List IntKind) (i : Nat), All2 (DC ad) (rdCells W a i ks) (rdVals W a i ks)
  | [], _ => trivial
  | _ :: r, i => ⟨rfl, rdVals_ok W a r (i + 1)⟩
theorem rdVals_len (W : World) (a : Addr) : ∀ (ks : List IntKind) (i : Nat), (rdVals W a i ks).length = ks.length
  | [], _ => rfl
  | _ :: r, i => by simp [rdVals, rdVals_len W a r (i + 1)]

theorem isI_cell {k : IntKind} {a : Addr} (hW : Below W.heap.size W w) (h : IsI W k a) : w.cell? a = some (.int k (rdI W a)) := by
  obtain ⟨n, hn⟩ := h.is
  rw [hW.cell (World.block_lt_of_cell? W a hn), hn]
  simp [rdI, hn]

theorem rdSide_cells (hW : Below W.heap.size W w) (a : Addr) : ∀ (ks : List IntKind) (i : Nat), rdSide W a i ks → ∀ j v, (rdVals W a i ks)[j]? = some v → w.cell? (a.add (i + j)) = some v
  | [], i, _, j, v, h => by simp [rdVals] at h
  | k :: r, i, hs, 0, v, h => by
    simp only [rdVals, List.getElem?_cons_zero, Option.some.injEq] at h
    subst h
    have : IsI W k (a.add i) := by
      cases r with
      | nil => exact hs
      | cons _ _ => exact hs.1
    exact isI_cell hW this
  | k :: r, i, hs, j + 1, v, h => by
    simp only [rdVals, List.getElem?_cons_succ] at h
    have : rdSide W a (i + 1) r := by
      cases r with
      | nil => trivial
      | cons _ _ => exact hs.2
    have := rdSide_cells hW a r (i + 1) this j v h
    rwa [show i + 1 + j = i + (j + 1) from by omega] at this

theorem effS_ok {ρ : Operand → S} {o : Oper} {ef : Ef} {key : Nat} {e : Operand → Value} (h : effS P W ρ bl key o = some ef) (hd : ∀ x, DS ad (ρ x) (e x)) (hm : Mem w0 ad bl w) (hW : Below W.heap.size W w) (hs : sideH ef.p) :
    ∃ n v w' ad', (execOp e o).run P w = .ok n w' ∧ (n = .value v ∨ (n = .skip ∧ v = undef)) ∧ Ext ad ad' ∧ DS ad' ef.s v ∧ Mem w0 ad' (updB bl ef.u) w' := by
  have other : (match stepW P ρ o with
    | some s => some (⟨s, none, none⟩ : Ef)
    | none => none) = some ef → ∃ n v w' ad', (execOp e o).run P w = .ok n w' ∧ (n = .value v ∨ (n = .skip ∧ v = undef)) ∧ Ext ad ad' ∧ DS ad' ef.s v ∧ Mem w0 ad' (updB bl ef.u) w' := by
    intro h
    split at h
    · rename_i s hst
      simp only [Option.some.injEq] at h; subst h
      obtain ⟨v, hv, hds⟩ := stepW_ok hst hd
      exact ⟨.value v, v, w, ad, hv w, .inl rfl, Ext.refl _, hds, hm⟩
    · cases h
  obtain ⟨dst, op, type, pos, after, guard⟩ := o
  cases op <;> simp only [effS] at h <;> try exact other h
  case alloc t =>
    split at h <;> try (cases h; done)
    rename_i i hi
    split at h <;> try (cases h; done)
    rename_i z hz
    split at h <;> try (cases h; done)
    rename_i hk
    split at h <;> try (cases h; done)
    rename_i hal
    simp only [Option.some.injEq] at h; subst h
    obtain ⟨ad', h1, h2, h3⟩ := hm.alloc (key := key) (t := t) hk (cellsT_ok hal (ofT_ok z))
    refine ⟨.value (.pointer (some ⟨w.heap.size, 0, none⟩)), _, _, ad', ?_, .inl rfl, h1, ⟨_, h2, rfl⟩, h3⟩
    simp [execOp, Instr.alloc, zeroValue, typeInfo, hi, hz, newVar, newRow]
  case box t x =>
    have hx := hd x
    split at h <;> try (cases h; done)
    rename_i y hy
    rw [hy] at hx
    split at h <;> try (cases h; done)
    rename_i hk
    split at h <;> try (cases h; done)
    rename_i hal
    simp only [Option.some.injEq] at h; subst h
    obtain ⟨ad', h1, h2, h3⟩ := hm.alloc (key := key) (t := t) hk (cellsT_ok hal (show DT ad y (e x) from hx))
    refine ⟨.value (.pointer (some ⟨w.heap.size, 0, none⟩)), _, _, ad', ?_, .inl rfl, h1, ⟨_, h2, rfl⟩, h3⟩
    simp [execOp, Instr.box, newVar, newRow]
  case indexAddr t x ix =>
    have hx := hd x
    have hi := hd ix
    split at h <;> try exact other h
    rename_i a n c hy
    rw [hy] at hx
    have hx := DS_v hx
    split at h <;> try (cases h; done)
    rename_i kk i hn
    rw [hn] at hi
    have hi := DS_v hi
    split at h <;> try (cases h; done)
    rename_i el hu
    split at h <;> try (cases h; done)
    rename_i m hm'
    simp only [Option.some.injEq] at h; subst h
    obtain ⟨h1, h2, h3⟩ := hs
    cases a with
    | none => cases h1
    | some a =>
      refine ⟨.value (.pointer (some (a.add (i.toNat * m)))), _, w, ad, ?_, .inl rfl, Ext.refl _, rfl, hm⟩
      simp [execOp, Instr.indexAt, run_underlying hu, asIntOf, hi, hx, run_size hm', h2, h3]
  case load t x =>
    have hx := hd x
    split at h <;> try (cases h; done)
    case h_2 =>
      rename_i a hy
      rw [hy] at hx
      have hx := DS_v hx
      split at h <;> try (cases h; done)
      rename_i ks hks
      split at h <;> try (cases h; done)
      rename_i n hn
      split at h <;> try (cases h; done)
      rename_i hnk
      have hnk := Nat.eq_of_beq_eq_true hnk
      split at h <;> try (cases h; done)
      · rename_i ha
        simp only [Option.some.injEq] at h; subst h
        have hl := run_loadCells_list (P := P) w a (rdVals W a 0 ks) (fun j v hv => by
          have := rdSide_cells hW a ks 0 hs j v hv
          rwa [Nat.zero_add] at this)
        rw [rdVals_len, ← hnk] at hl
        refine ⟨.value (.agg (rdVals W a 0 ks).toArray), _, w, ad, ?_, .inl rfl, Ext.refl _, ⟨_, rfl, rdVals_ok W a ks 0⟩, hm⟩
        simp [execOp, Instr.loadAt, Instr.sureAddr, hx, loadVar, run_agg ha, run_size hn, hl]
      · rename_i ha
        split at h <;> try (cases h; done)
        rename_i k _
        simp only [Option.some.injEq] at h; subst h
        have hs : IsI W k a := hs
        refine ⟨.value (.int k (rdI W a)), _, w, ad, ?_, .inl rfl, Ext.refl _, rfl, hm⟩
        simp [execOp, Instr.loadAt, Instr.sureAddr, hx, loadVar, run_agg ha, isI_cell hW hs]
    rename_i k off hy
    rw [hy] at hx
    obtain ⟨b, hb, hv⟩ := DS_own hx
    split at h <;> try (cases h; done)
    rename_i B hB
    split at h <;> try (cases h; done)
    rename_i y hyl
    simp only [Option.some.injEq] at h; subst h
    obtain ⟨b', cs, h1, h2, h3, h4⟩ := hm.blk k B hB
    rw [hb] at h1; cases h1
    obtain ⟨v, hrun, hdv⟩ := loadS_ok hyl h3 h4
    refine ⟨.value v, v, w, ad, ?_, .inl rfl, Ext.refl _, hdv, hm⟩
    simp [execOp, Instr.loadAt, Instr.sureAddr, hv, hrun]
  case store t x y =>
    have hx := hd x
    have hyd := hd y
    split at h <;> try (cases h; done)
    rename_i k off hy
    rw [hy] at hx
    obtain ⟨b, hb, hv⟩ := DS_own hx
    split at h <;> try (cases h; done)
    rename_i z hz
    rw [hz] at hyd
    have hyd : DT ad z (e y) := hyd
    split at h <;> try (cases h; done)
    rename_i B hB
    split at h <;> try (cases h; done)
    rename_i l hl
    simp only [Option.some.injEq] at h; subst h
    obtain ⟨b', cs, h1, h2, h3, h4⟩ := hm.blk k B hB
    rw [hb] at h1; cases h1
    unfold storeS at hl
    split at hl <;> try (cases hl; done)
    rename_i n hn
    split at hl <;> try (cases hl; done)
    rename_i hc
    simp only [Bool.and_eq_true] at hc
    obtain ⟨hc1, hc2, hc3⟩ := hc
    have hc1 := Nat.eq_of_beq_eq_true hc1
    have hc2 := Nat.le_of_ble_eq_true hc2
    simp only [Option.some.injEq] at hl; subst hl
    have hcells := cellsT_ok hc3 hyd
    have hsz : (e y).cells.size = n := by rw [← hc1, hcells.len]; simp
    have hst := run_storeCells_at (P := P) b off B.t (e y).cells.toList 0 cs.toArray w h3 (by have := h4.len; simp; omega) (allC_one hc3 hcells)
    refine ⟨.skip, undef, w.setRow b (cs.take off ++ ((e y).cells.toList ++ cs.drop (off + (e y).cells.toList.length))).toArray, ad, ?_, .inr ⟨rfl, rfl⟩, Ext.refl _, undefS_ok, ?_⟩
    · simp only [execOp, Instr.storeAt, Instr.sureAddr, hv, Sem.run_bind, Sem.run_pure, Result.andThen_ok, storeVar, run_size hn, hsz, ne_eq, not_true, if_false, hst, Nat.add_zero, List.append_assoc]
    · refine hm.store hB hb ?_
      have e1 : (cellsT z).length = (e y).cells.toList.length := hcells.len
      simp only [splice]
      rw [e1]
      exact (h4.take off).app (hcells.app (h4.drop _))
end
end SX
end Go.Proofs.Ytegdbpbafdpkfaa
