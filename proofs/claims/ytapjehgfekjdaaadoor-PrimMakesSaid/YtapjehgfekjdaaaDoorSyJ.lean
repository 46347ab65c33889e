/- The symbolic executor's single operations are sound: all of them. No condition. -/
import Derived.Test.YtapjehgfekjdaaaDoorSyI
namespace Go.Proofs.YtapjehgfekjdaaaDoor
open Go.RowKit
namespace SY
section
variable {P : Program} {p : Nat → Nat → Prop} {w0 w : World} {g : G} {sl : Tr S} {bl : Tr (Option Blk)} {key n : Nat} {ef : Ef}

theorem bstr_get (xs : List Int) (j : Nat) (hj : j < xs.length) : (bstr xs)[j]'(by rw [bstr_size]; exact hj) = UInt8.ofNat (xs[j]).toNat := by
  unfold bstr
  show (xs.map fun x => UInt8.ofNat x.toNat).toArray[j]'(by simpa using hj) = _
  simp

theorem slS_ok {s : S} {ks : List CK} {xs : List Int} {v : Value} (h : slS s = some (ks, xs)) (d : DS g w s v) : ∃ tok, SlD g w ks xs tok v := by
  unfold slS at h
  split at h <;> try (cases h; done)
  simp only [Option.some.injEq, Prod.mk.injEq] at h
  obtain ⟨rfl, rfl⟩ := h
  exact ⟨_, d⟩

theorem storeCells_ok {t : TypeId} {n b off : Nat} {tt : TypeId} {cs : List Value} {v : Value} (hs : szT P t = some n) (hn : v.cells.size = n) (hb : w.heap[b]? = some (.cells cs.toArray tt (0, 0))) (hle : off + n ≤ cs.length) (h1 : ∀ u ∈ v.cells.toList, u.oneCell' = true) :
    (storeVar t ⟨b, off, none⟩ v).run P w = .ok () (w.setRow b (splice cs off v.cells.toList).toArray) := by
  have hst := run_storeCells_at P b off tt v.cells.toList 0 cs.toArray w hb (by simp; omega) h1
  simp only [storeVar, Sem.run_bind, run_size hs, Result.andThen_ok, hn, ne_eq, not_true, if_false, hst, Nat.add_zero, splice, List.append_assoc]

theorem ksFrom_ok {ks kk : List CK} {j n : Nat} {o : Option (Nat × Nat)} (h : ksFrom ks j n = some kk) (hd : divB o ks.length = true) : kk.length = n ∧ ∀ (t : Nat) (k : CK), kk[t]? = some k → kAt ks (offE o j + t) = k := by
  unfold ksFrom at h
  split at h <;> try (cases h; done)
  rename_i hle
  have hle := Nat.le_of_ble_eq_true hle
  simp only [Option.some.injEq] at h; subst h
  refine ⟨by simp; omega, fun t k hk => ?_⟩
  rw [List.getElem?_take] at hk
  split at hk <;> try (cases hk; done)
  rw [List.getElem?_drop] at hk
  unfold divB at hd
  split at hd <;> try (cases hd; done)
  rename_i i m
  have hm := Nat.eq_of_beq_eq_true hd
  rw [offE_eq]
  simp only
  rw [Nat.add_assoc, kAt_add (by rw [Nat.mul_mod, hm]; simp)]
  exact kAt_lt hk

theorem opOK_alloc {l : List SC} {cs : Array Value} {t : TypeId} {s : Sem Next} (hm : Mem p w0 g bl w) (hk : lkB bl key = none) (hc : All2 (DC g w) l cs.toList)
    (hr : s.run P w = .ok (.value (.pointer (some ⟨w.heap.size, 0, none⟩))) (w.alloc (.cells cs t))) : OpOK P p w0 g bl w ⟨sc (.own key 0), some (key, .cells l t), true⟩ s := by
  obtain ⟨g', h1, h2, h3⟩ := hm.alloc (key := key) (t := t) hk hc
  exact ⟨_, _, _, g', hr, .inl rfl, h1, ⟨_, h2, rfl⟩, h3⟩

theorem fltS_ok {s : S} {n : Nat} {v : Value} (h : fltS s = some n) (d : DS g w s v) : v = .float .f64 n := by
  unfold fltS at h
  split at h <;> try (cases h; done)
  simp only [Option.some.injEq] at h; subst h
  exact d
theorem effC_ok {o : Oper} {e : Operand → Value} (h : effC P sl bl key (cop P n o) = some ef) (hp : ef.p = true) (hd : ∀ x y, cpo n x = some y → DS g w (opv sl y) (e x)) (hm : Mem p w0 g bl w) :
    OpOK P p w0 g bl w ef (execOp e o) := by
  have gen : ∀ {o : Oper}, effC P sl bl key (cgen n o) = some ef → OpOK P p w0 g bl w ef (execOp e o) := by
    intro o h
    unfold cgen at h
    split at h
    · rename_i l hl
      simp only [effC, one] at h
      split at h <;> try (cases h; done)
      rename_i s hs
      cases h
      obtain ⟨v, h1, rfl⟩ := stepV_ok (g := g) (w0 := w) hs (fun x hx => by
        obtain ⟨y, hy⟩ := cpl_mem hl x (by simpa using hx)
        rw [← cpo_opv hy]
        exact hd x y hy)
      exact opOK_pure hm (h1 w) (ofV_ok v) rfl
    · cases h
  obtain ⟨dst, op, type, pos, after, guard⟩ := o
  cases op <;> simp only [cop] at h <;> try (cases h; done)
  case move x =>
    obtain ⟨y, hy, h⟩ := effC_c1 h
    simp only [effC, one, Option.some.injEq] at h; subst h
    exact opOK_pure (v := e x) hm rfl (hd x y hy) rfl
  case assign x =>
    obtain ⟨y, hy, h⟩ := effC_c1 h
    simp only [effC, one, Option.some.injEq] at h; subst h
    exact opOK_pure (v := e x) hm rfl (hd x y hy) rfl
  case nilCheck x =>
    obtain ⟨y, hy, h⟩ := effC_c1 h
    have hx := hd x y hy
    simp only [effC, one] at h
    split at h <;> try (cases h; done)
    · rename_i k off hv
      simp only [Option.some.injEq] at h; subst h
      rw [hv] at hx
      have hx' := hx
      obtain ⟨b, hb, hv⟩ := hx'
      exact opOK_pure (v := e x) hm (by simp [execOp, hv]) hx rfl
    · rename_i k o j hv
      simp only [Option.some.injEq] at h; subst h
      rw [hv] at hx
      have hx' := hx
      obtain ⟨b, hb, hv⟩ := hx'
      exact opOK_pure (v := e x) hm (by simp [execOp, hv]) hx rfl
    · rename_i l hv
      simp only [Option.some.injEq] at h; subst h
      rw [hv] at hx
      have hx' := hx
      obtain ⟨A, vs, hv, _⟩ := hx'
      exact opOK_pure (v := e x) hm (by simp [execOp, hv]) hx rfl
    · rename_i f l hv
      simp only [Option.some.injEq] at h; subst h
      rw [hv] at hx
      have hx' := hx
      obtain ⟨vs, hv, _⟩ := hx'
      exact opOK_pure (v := e x) hm (by simp [execOp, hv]) hx rfl
    · rename_i f a b hv
      simp only [Option.some.injEq] at h; subst h
      rw [hv] at hx
      have hv : e x = .func (.func f) a b := hx
      exact opOK_pure (v := e x) hm (by simp [execOp, hv]) hx rfl
  case extract x i =>
    obtain ⟨y, hy, h⟩ := effC_c1 h
    have hx := hd x y hy
    simp only [effC, one] at h
    split at h <;> try (cases h; done)
    rename_i l hl
    rw [hl] at hx
    obtain ⟨vs, hv, ha⟩ := hx
    split at h <;> try (cases h; done)
    rename_i z hz
    rw [nth_eq] at hz
    simp only [Option.some.injEq] at h; subst h
    obtain ⟨v, hvi, hdv⟩ := ha.get hz
    exact opOK_pure (v := v) hm (by simp [execOp, Instr.extract, hv, hvi]) hdv rfl
  case fieldAddr t x f =>
    split at h <;> try (cases h; done)
    rename_i fs hfs
    split at h <;> try (cases h; done)
    rename_i fl hfl
    split at h <;> try (cases h; done)
    rename_i m hsz
    obtain ⟨y, hy, h⟩ := effC_c1 h
    have hx := hd x y hy
    simp only [effC, one] at h
    split at h <;> try (cases h; done)
    · rename_i k off hv
      simp only [Option.some.injEq] at h; subst h
      rw [hv] at hx
      obtain ⟨b, hb, hv⟩ := hx
      exact opOK_pure (v := .pointer (some ⟨b, off + fl.offset, none⟩)) hm (by simp [execOp, Instr.fieldAt, run_underlying hfs, hfl, Instr.sureAddr, hv, fieldPlace, run_size hsz, add_own]) ⟨b, hb, rfl⟩ rfl
    · rename_i l hv
      rw [hv] at hx
      obtain ⟨A, vs, hv, hf, hl, hr⟩ := hx
      split at h <;> try (cases h; done)
      rename_i hlt
      have hlt := Nat.le_of_ble_eq_true hlt
      simp only [Option.some.injEq] at h; subst h
      refine opOK_pure (v := .pointer (some (A.add fl.offset))) hm (by simp [execOp, Instr.fieldAt, run_underlying hfs, hfl, Instr.sureAddr, hv, fieldPlace, run_size hsz]) ⟨_, vs.drop fl.offset, rfl, hf.sub (by simp; omega), hl.drop _, fun j u hu => ?_⟩ rfl
      rw [add_add' hf.spot]
      exact hr _ _ (by rwa [List.getElem?_drop] at hu)
    · rename_i k o j hv
      simp only [Option.some.injEq] at h; subst h
      rw [hv] at hx
      obtain ⟨b, hb, hv⟩ := hx
      refine opOK_pure (v := .pointer (some ⟨b, offE o j + fl.offset, none⟩)) hm (by simp [execOp, Instr.fieldAt, run_underlying hfs, hfl, Instr.sureAddr, hv, fieldPlace, run_size hsz, add_own]) ⟨b, hb, ?_⟩ rfl
      rw [offE_eq, offE_eq]
      cases o with
      | none => rfl
      | some q => obtain ⟨i, m⟩ := q; simp only [Nat.add_assoc]
  case indexAddr t x ix =>
    split at h <;> try (cases h; done)
    · rename_i len el hu
      split at h <;> try (cases h; done)
      rename_i m hsz
      obtain ⟨y, z, hy, hz, h⟩ := effC_c2 h
      have hx := hd x y hy
      have hi := hd ix z hz
      simp only [effC] at h
      split at h <;> try (cases h; done)
      rename_i k0 i hi0
      have hi := intS_ok hi0 hi
      split at h <;> try (cases h; done)
      · rename_i k off hv
        simp only [Option.some.injEq] at h; subst h
        simp only [Bool.and_eq_true, decide_eq_true_eq] at hp
        rw [hv] at hx
        obtain ⟨b, hb, hv⟩ := hx
        exact opOK_pure (v := .pointer (some ⟨b, off + i.toNat * m, none⟩)) hm (by simp [execOp, Instr.indexAt, run_underlying hu, asIntOf, hi, Instr.sureAddr, hv, run_size hsz, add_own, hp]) ⟨b, hb, rfl⟩ rfl
      · rename_i k j hv
        simp only [Option.some.injEq] at h; subst h
        simp only [Bool.and_eq_true, decide_eq_true_eq] at hp
        rw [hv] at hx
        obtain ⟨b, hb, hv⟩ := hx
        refine opOK_pure (v := .pointer (some ⟨b, j + i.toNat * m, none⟩)) hm (by simp [execOp, Instr.indexAt, run_underlying hu, asIntOf, hi, Instr.sureAddr, hv, run_size hsz, add_own, hp, offE]) ⟨b, hb, ?_⟩ rfl
        rw [offE_eq]; simp only; rw [Nat.add_comm]
      · rename_i k o j hv
        simp only [Option.some.injEq] at h; subst h
        simp only [Bool.and_eq_true, decide_eq_true_eq] at hp
        rw [hv] at hx
        obtain ⟨b, hb, hv⟩ := hx
        refine opOK_pure (v := .pointer (some ⟨b, offE (some o) j + i.toNat * m, none⟩)) hm (by simp [execOp, Instr.indexAt, run_underlying hu, asIntOf, hi, Instr.sureAddr, hv, run_size hsz, add_own, hp]) ⟨b, hb, ?_⟩ rfl
        obtain ⟨q, q'⟩ := o
        rw [offE_eq, offE_eq]; simp only [Nat.add_assoc]
    · rename_i el hu
      split at h <;> try (cases h; done)
      rename_i m hsz
      obtain ⟨y, z, hy, hz, h⟩ := effC_c2 h
      have hx := hd x y hy
      have hi := hd ix z hz
      simp only [effC] at h
      split at h <;> try (cases h; done)
      rename_i k0 i hi0
      have hi := intS_ok hi0 hi
      split at h <;> try (cases h; done)
      rename_i ks xs hks
      split at h <;> try (cases h; done)
      rename_i hm0
      have hm0 := Nat.eq_of_beq_eq_true hm0
      simp only [Option.some.injEq] at h; subst h
      simp only [Bool.and_eq_true, decide_eq_true_eq] at hp
      obtain ⟨tok, a, nn, c, hv, hI⟩ := slS_ok hks hx
      rw [lenE_of hI.pos hI.len] at hp
      obtain ⟨A, rfl⟩ : ∃ A, a = some A := by
        cases a with
        | none => have := (hI.nil rfl).1; omega
        | some A => exact ⟨A, rfl⟩
      obtain ⟨hf, hr⟩ := hI.at_ A rfl
      have hin : i.toNat * m + m ≤ xs.length := by
        rw [hI.len, ← hm0, ← Nat.succ_mul]
        exact Nat.mul_le_mul_right _ (by omega)
      have hf := hf (by have := hI.pos; omega)
      refine opOK_pure (v := .pointer (some (A.add (i.toNat * m)))) hm (by simp [execOp, Instr.indexAt, run_underlying hu, asIntOf, hi, hv, run_size hsz, hp]) ⟨_, ((encV ks xs).drop (i.toNat * m)).take m, rfl, hf.sub (by rw [rdCells_len, hm0]; exact hin), ?_, fun j u hu => ?_⟩ rfl
      · have := rdCells_ok (g := g) (w := w) (ks := ks) (xs := xs) ks (i.toNat * m) (fun t k hk => by rw [kAt_add (by rw [← hm0]; simp)]; exact kAt_lt hk) (by rw [hm0]; exact hin)
        rw [hm0] at this
        rw [mulE_eq]
        exact this
      · rw [add_add' hf.spot]
        rw [List.getElem?_take] at hu
        split at hu <;> try (cases hu; done)
        exact hr _ _ (by rwa [List.getElem?_drop] at hu)
  case field t x f =>
    split at h <;> try (cases h; done)
    rename_i fs hfs
    split at h <;> try (cases h; done)
    rename_i fl hfl
    split at h <;> try (cases h; done)
    rename_i ag m hag hsz
    obtain ⟨y, hy, h⟩ := effC_c1 h
    have hx := hd x y hy
    simp only [effC, one] at h
    split at h <;> try (cases h; done)
    rename_i l hl
    rw [hl] at hx
    obtain ⟨vs, hv, ha⟩ := hx
    split at h <;> try (cases h; done)
    rename_i z hz
    simp only [Option.some.injEq] at h; subst h
    rcases partS_ok hz ha with ⟨rfl, _, h2⟩ | ⟨rfl, v, h1, h2⟩
    · exact opOK_pure hm (by simp [execOp, Instr.field, run_underlying hfs, hfl, asAgg, hv, run_part_agg hag hsz]) h2 rfl
    · exact opOK_pure (v := v) hm (by simp [execOp, Instr.field, run_underlying hfs, hfl, asAgg, hv, run_part_one hag h1]) h2 rfl
  case index t x ix =>
    split at h <;> try (cases h; done)
    · rename_i len el hu
      split at h <;> try (cases h; done)
      rename_i ag m hag hsz
      obtain ⟨y, z, hy, hz, h⟩ := effC_c2 h
      have hx := hd x y hy
      have hi := hd ix z hz
      simp only [effC, one] at h
      split at h <;> try (cases h; done)
      rename_i k0 i hi0
      have hi := intS_ok hi0 hi
      split at h <;> try (cases h; done)
      rename_i l hl
      rw [hl] at hx
      obtain ⟨vs, hv, ha⟩ := hx
      split at h <;> try (cases h; done)
      rename_i hc
      simp only [Bool.and_eq_true, decide_eq_true_eq] at hc
      split at h <;> try (cases h; done)
      rename_i q hq
      simp only [Option.some.injEq] at h; subst h
      rcases partS_ok hq ha with ⟨rfl, _, h2⟩ | ⟨rfl, v, h1, h2⟩
      · exact opOK_pure hm (by simp [execOp, Instr.index, run_underlying hu, asIntOf, hi, hv, run_size hsz, hc, run_part_agg hag hsz]) h2 rfl
      · exact opOK_pure (v := v) hm (by simp [execOp, Instr.index, run_underlying hu, asIntOf, hi, hv, run_size hsz, hc, run_part_one hag h1]) h2 rfl
    · rename_i hu
      obtain ⟨y, z, hy, hz, h⟩ := effC_c2 h
      have hx := hd x y hy
      have hi := hd ix z hz
      simp only [effC] at h
      split at h <;> try (cases h; done)
      rename_i k0 i hi0
      have hi := intS_ok hi0 hi
      split at h <;> try (cases h; done)
      rename_i xs hxs
      simp only [Option.some.injEq] at h; subst h
      simp only [Bool.and_eq_true, decide_eq_true_eq] at hp
      rw [hxs] at hx
      have hv : e x = .string (bstr xs) := hx
      have hlt : i.toNat < xs.length := by omega
      have hb : (bstr xs)[i.toNat]? = some (UInt8.ofNat (gI xs i.toNat).toNat) := by
        rw [ByteArray.getElem?_lt' _ _ (by rw [bstr_size]; exact hlt), bstr_get xs _ hlt]
        simp [gI, hlt]
      exact opOK_pure (v := .int .u8 (m8 (gI xs i.toNat))) hm (by simp [execOp, Instr.index, run_underlying hu, asIntOf, hi, hv, hp, hb, m8]) rfl rfl
  case binOp op t x y yt =>
    split at h
    · obtain ⟨a, b, ha, hb, h⟩ := effC_c2 h
      have hx := hd x a ha
      have hy := hd y b hb
      simp only [effC] at h
      split at h <;> try (cases h; done)
      · rename_i k q k' q' h1 h2
        rw [h1] at hx; rw [h2] at hy
        split at h <;> try (cases h; done)
        rename_i hk
        split at h <;> try (cases h; done)
        rename_i s pp hs
        simp only [Option.some.injEq] at h; subst h
        obtain ⟨v, hv, hds⟩ := binI_ok (P := P) (g := g) (w0 := w) t x y hs hp hk
        have e1 : e x = .int k q := hx
        have e2 : e y = .int k' q' := hy
        have hv := hv w
        simp only [Sem.run_bind] at hv
        exact opOK_pure (v := v) hm (by simp only [execOp, e1, e2, Sem.run_bind, hv, Result.andThen_ok, Sem.run_pure]) hds rfl
      · rename_i q q' h1 h2
        rw [h1] at hx; rw [h2] at hy
        split at h <;> try (cases h; done)
        rename_i s pp hs
        simp only [Option.some.injEq] at h; subst h
        obtain ⟨v, hv, hds⟩ := binT_ok (P := P) (g := g) (w0 := w) t x y hs hp
        have e1 : e x = .string (bstr q) := hx
        have e2 : e y = .string (bstr q') := hy
        have hv := hv w
        simp only [Sem.run_bind] at hv
        exact opOK_pure (v := v) hm (by simp only [execOp, e1, e2, Sem.run_bind, hv, Result.andThen_ok, Sem.run_pure]) hds rfl
    · obtain ⟨a, b, ha, hb, h⟩ := effC_c2 h
      have hx := hd x a ha
      have hy := hd y b hb
      simp only [effC] at h
      split at h <;> try (cases h; done)
      · rename_i k q k' q' h1 h2
        rw [h1] at hx; rw [h2] at hy
        split at h <;> try (cases h; done)
        rename_i hk
        split at h <;> try (cases h; done)
        rename_i s pp hs
        simp only [Option.some.injEq] at h; subst h
        obtain ⟨v, hv, hds⟩ := binI_ok (P := P) (g := g) (w0 := w) t x y hs hp hk
        have e1 : e x = .int k q := hx
        have e2 : e y = .int k' q' := hy
        have hv := hv w
        simp only [Sem.run_bind] at hv
        exact opOK_pure (v := v) hm (by simp only [execOp, e1, e2, Sem.run_bind, hv, Result.andThen_ok, Sem.run_pure]) hds rfl
      · rename_i q q' h1 h2
        rw [h1] at hx; rw [h2] at hy
        split at h <;> try (cases h; done)
        rename_i s pp hs
        simp only [Option.some.injEq] at h; subst h
        obtain ⟨v, hv, hds⟩ := binT_ok (P := P) (g := g) (w0 := w) t x y hs hp
        have e1 : e x = .string (bstr q) := hx
        have e2 : e y = .string (bstr q') := hy
        have hv := hv w
        simp only [Sem.run_bind] at hv
        exact opOK_pure (v := v) hm (by simp only [execOp, e1, e2, Sem.run_bind, hv, Result.andThen_ok, Sem.run_pure]) hds rfl
    · rename_i hu
      split at h <;> try (cases h; done)
      all_goals
        obtain ⟨a, b, ha, hb, h⟩ := effC_c2 h
        have hx := hd x a ha
        have hy := hd y b hb
        simp only [effC, one] at h
        split at h <;> try (cases h; done)
        rename_i q q' h1 h2
        simp only [Option.some.injEq] at h; subst h
        have e1 := boolS_ok h1 hx
        have e2 := boolS_ok h2 hy
      · exact opOK_pure (v := .bool (q == q')) hm (by simp [execOp, e1, e2, eqGuard, binOp, Op.equal, Op.maxDepth, run_equalIn_bool _ 9999 t q q' hu]) rfl rfl
      · exact opOK_pure (v := .bool (!(q == q'))) hm (by simp [execOp, e1, e2, eqGuard, binOp, Op.equal, Op.maxDepth, run_equalIn_bool _ 9999 t q q' hu]) rfl rfl
    · split at h
      · obtain ⟨a, b, ha, hb, h⟩ := effC_c2 h
        simp only [effC] at h
        cases h
      · split at h <;> try (cases h; done)
        rename_i hfc
        obtain ⟨a, b, ha, hb, h⟩ := effC_c2 h
        have hx := hd x a ha
        have hy := hd y b hb
        simp only [effC, one] at h
        split at h <;> try (cases h; done)
        rename_i q q' h1 h2
        simp only [Option.some.injEq] at h; subst h
        have e1 := fltS_ok h1 hx
        have e2 := fltS_ok h2 hy
        exact opOK_pure (v := .bool (KeepFo op q q')) hm (by cases op <;> simp [isFc] at hfc <;> simp [execOp, e1, e2, eqGuard, binOp, Op.floatCmp, KeepFo, FloatKind.format]) rfl rfl
    · split at h <;> try (cases h; done)
      rename_i hag
      split at h <;> try (cases h; done)
      rename_i ks hks hg
      split at h <;> try (cases h; done)
      all_goals
        obtain ⟨a, b, ha, hb, h⟩ := effC_c2 h
        have hx := hd x a ha
        have hy := hd y b hb
        simp only [effC, one] at h
        split at h <;> try (cases h; done)
        rename_i l m hl hm'
        rw [hl] at hx
        rw [hm'] at hy
        obtain ⟨vs, hv, hla⟩ := hx
        obtain ⟨us, hu, hlb⟩ := hy
        split at h <;> try (cases h; done)
        rename_i r hr
        simp only [Option.some.injEq] at h; subst h
        have hq := fun w1 => eq_flat (g := g) (w0 := w) 20 t ks hks 10000 (by omega) l m vs us r _ _ hla hlb hr (.inl ⟨hag, rfl⟩) (.inl ⟨hag, rfl⟩) w1
      · exact opOK_pure (v := .bool r) hm (by simp [execOp, hv, hu, run_eqGuard_agg _ _ _ _ _ _ _ hg, run_eql_struct, hq]) rfl rfl
      · exact opOK_pure (v := .bool (!r)) hm (by simp [execOp, hv, hu, run_eqGuard_agg _ _ _ _ _ _ _ hg, run_neq_struct, hq]) rfl rfl
  case unOp op t x =>
    split at h <;> try (cases h; done)
    · obtain ⟨y, hy, h⟩ := effC_c1 h
      simp only [effC, one] at h
      split at h <;> try (cases h; done)
      rename_i s hs
      simp only [Option.some.injEq] at h; subst h
      obtain ⟨u, hu, hds⟩ := unI_ok (P := P) hs (hd x y hy)
      exact opOK_pure (v := u) hm (by simp [execOp, hu]) hds rfl
    · obtain ⟨y, hy, h⟩ := effC_c1 h
      simp only [effC, one] at h
      split at h <;> try (cases h; done)
      rename_i s hs
      simp only [Option.some.injEq] at h; subst h
      obtain ⟨u, hu, hds⟩ := unI_ok (P := P) hs (hd x y hy)
      exact opOK_pure (v := u) hm (by simp [execOp, hu]) hds rfl
    · exact gen h
  case convert s d x =>
    split at h <;> try (cases h; done)
    · rename_i hs hd'
      obtain ⟨y, hy, h⟩ := effC_c1 h
      simp only [effC, one] at h
      split at h <;> try (cases h; done)
      rename_i k0 i hi
      simp only [Option.some.injEq] at h; subst h
      have hv := intS_ok hi (hd x y hy)
      exact opOK_pure (v := .int _ _) hm (by simp [execOp, hv, convert, run_underlying hs, run_underlying hd', Conv.intToInt]) rfl rfl
    · rename_i el hs hd'
      split at h <;> try (cases h; done)
      rename_i hel
      obtain ⟨y, hy, h⟩ := effC_c1 h
      have hx := hd x y hy
      simp only [effC, one] at h
      split at h <;> try (cases h; done)
      · rename_i ks xs tok hv
        rw [hv] at hx
        split at h <;> try (cases h; done)
        rename_i hks
        have hks := ksEq_eq hks
        subst hks
        simp only [Option.some.injEq] at h; subst h
        obtain ⟨a, nn, c, hv, hI⟩ := hx
        refine opOK_pure (v := .string (bstr xs)) hm ?_ rfl rfl
        simp only [execOp, hv, Sem.run_bind, run_convert_bytes_string w s d el a nn c hs hel hd']
        cases a with
        | none =>
          obtain ⟨rfl, rfl⟩ := hI.nil rfl
          have hxs : xs = [] := by have := hI.len; simp at this; exact this
          subst hxs
          simp [Conv.bytesToString]
          rfl
        | some A =>
          have hr := hI.rd_some
          have hl := run_loadCells_list (P := P) w A (encV [.int .u8] xs) hr
          have he : encV [.int .u8] xs = xs.map (Value.int .u8) := by
            apply List.ext_getElem?
            intro i
            rw [encV_get, List.getElem?_map]
            congr 1
            funext z
            simp [kAt, Nat.mod_one, rdV]
          rw [he] at hl
          have hlen : (xs.map (Value.int .u8)).length = nn := by have := hI.len; simp at this ⊢; exact this
          rw [hlen] at hl
          rw [run_bytesToString w A nn c xs hl]
          have := foldl_push xs []
          simp only [List.nil_append] at this
          simp only [Result.andThen_ok, Sem.run_pure]
          congr 2
          exact congrArg Value.string this
      · rename_i v hv
        rw [hv] at hx
        split at h <;> try (cases h; done)
        rename_i hnil
        simp only [Option.some.injEq] at h; subst h
        have hv : e x = .slice none 0 0 := by have hx : e x = v := hx; rw [hx]; exact isNil_eq hnil
        refine opOK_pure (v := .string (bstr [])) hm ?_ rfl rfl
        simp only [execOp, hv, Sem.run_bind, run_convert_bytes_string w s d el none 0 0 hs hel hd']
        simp [Conv.bytesToString]
        rfl
    · rename_i hs hd'
      obtain ⟨y, hy, h⟩ := effC_c1 h
      simp only [effC, one] at h
      split at h <;> try (cases h; done)
      rename_i k0 i hi
      simp only [Option.some.injEq] at h; subst h
      have hv := intS_ok hi (hd x y hy)
      exact opOK_pure (v := .float .f64 (KeepI2F i)) hm (by
        simp only [execOp, hv, Sem.run_bind]
        rw [run_convert_int_float w s d k0 .f64 i (by rw [hs]; rfl) hd']
        rfl) rfl rfl
    · rename_i hs hd'
      obtain ⟨y, hy, h⟩ := effC_c1 h
      simp only [effC] at h
      split at h <;> try (cases h; done)
      rename_i b hb
      simp only [Option.some.injEq] at h; subst h
      have hv := fltS_ok hb (hd x y hy)
      have hp : (floatToIntVal .f64 b _).isSome = true := hp
      obtain ⟨r, hr⟩ := Option.isSome_iff_exists.1 hp
      exact opOK_pure (v := .int _ (KeepF2I _ b)) hm (by
        simp only [execOp, hv, Sem.run_bind]
        rw [run_convert_float_int w s d .f64 _ b r (by rw [hs]; rfl) hd' hr]
        simp [KeepF2I, hr]) rfl rfl
    · exact gen h
  case build t ps =>
    split at h <;> try (cases h; done)
    rename_i z hz
    obtain ⟨i, zv, hi, hzv, rfl, hall⟩ := zeroC_ok hz
    have hzc := cellsT_zero (g := g) (w := w) zv hall
    split at h <;> try (cases h; done)
    · rename_i fs hfs
      split at h <;> try (cases h; done)
      rename_i pl hpl
      split at h <;> try (cases h; done)
      rename_i qs hqs
      simp only [effC, one] at h
      split at h <;> try (cases h; done)
      rename_i r hr
      simp only [Option.some.injEq] at h; subst h
      obtain ⟨us, hu, hdr⟩ := parts_ok (fun x y hy => hd x y hy) hqs hr hzc
      have hb : P.built t (ps.map fun (i, x) => (i, e x)).toList = some us.toArray := by
        simp only [Program.built, hi, hfs, hzv, placesF_ok hpl]
        rw [← hu]
        simp only [Array.toList_map, Array.toArray_toList]
        congr 1
        funext j
        rw [nth_eq]; simp
      exact opOK_pure (v := .agg us.toArray) hm (by simp only [execOp, Sem.run_bind, run_build w t _ _ hb, Result.andThen_ok, Sem.run_pure]) ⟨us, rfl, hdr⟩ rfl
    · rename_i len el hu0
      split at h <;> try (cases h; done)
      rename_i m hsz
      split at h <;> try (cases h; done)
      rename_i qs hqs
      simp only [effC, one] at h
      split at h <;> try (cases h; done)
      rename_i r hr
      simp only [Option.some.injEq] at h; subst h
      obtain ⟨us, hu, hdr⟩ := parts_ok (fun x y hy => hd x y hy) hqs hr hzc
      obtain ⟨ie, hie, rfl⟩ := szT_eq hsz
      have hb : P.built t (ps.map fun (i, x) => (i, e x)).toList = some us.toArray := by
        simp only [Program.built, hi, hu0, hzv, hie]
        rw [← hu]
        simp only [Array.toList_map, Array.toArray_toList]
      exact opOK_pure (v := .agg us.toArray) hm (by simp only [execOp, Sem.run_bind, run_build w t _ _ hb, Result.andThen_ok, Sem.run_pure]) ⟨us, rfl, hdr⟩ rfl
  case alloc t =>
    split at h <;> try (cases h; done)
    rename_i z hz
    obtain ⟨i, zv, hi, hzv, rfl, hall⟩ := zeroC_ok hz
    simp only [effC] at h
    split at h <;> try (cases h; done)
    rename_i hk
    simp only [Option.some.injEq] at h; subst h
    exact opOK_alloc hm hk (cellsT_zero zv hall) (by simp [execOp, Instr.alloc, zeroValue, typeInfo, hi, hzv, newVar, newRow])
  case box t x =>
    obtain ⟨y, hy, h⟩ := effC_c1 h
    simp only [effC] at h
    split at h <;> try (cases h; done)
    rename_i l hl
    split at h <;> try (cases h; done)
    rename_i hk
    split at h <;> try (cases h; done)
    rename_i hall
    simp only [Option.some.injEq] at h; subst h
    exact opOK_alloc hm hk (cellsO_ok hl hall (hd x y hy)) (by simp [execOp, Instr.box, newVar, newRow])
  case load t x =>
    split at h <;> try (cases h; done)
    rename_i ag m hag hsz
    obtain ⟨y, hy, h⟩ := effC_c1 h
    have hx := hd x y hy
    simp only [effC, one] at h
    split at h <;> try (cases h; done)
    · rename_i k off hv
      rw [hv] at hx
      obtain ⟨b, hb, hv⟩ := hx
      split at h <;> try (cases h; done)
      rename_i l tt hB
      split at h <;> try (cases h; done)
      rename_i q hq
      simp only [Option.some.injEq] at h; subst h
      obtain ⟨b', cs, h1, h2, h3, h4⟩ := hm.blk k _ hB
      rw [hb] at h1; cases h1
      obtain ⟨v, hrun, hdv⟩ := load_ok (A := ⟨b, 0, none⟩) hag hsz hq h4 rfl (fun j u hu => by rw [add_own, cell_of_row _ _ _ _ _ _ h3]; simpa using hu)
      rw [add_own, Nat.zero_add] at hrun
      exact opOK_pure (v := v) hm (by simp [execOp, Instr.loadAt, Instr.sureAddr, hv, hrun]) hdv rfl
    · rename_i l hv
      rw [hv] at hx
      obtain ⟨A, vs, hv, hf, hl, hr⟩ := hx
      split at h <;> try (cases h; done)
      rename_i q hq
      simp only [Option.some.injEq] at h; subst h
      obtain ⟨v, hrun, hdv⟩ := load_ok (A := A) hag hsz hq hl hf.spot hr
      rw [add_zero' hf.spot] at hrun
      exact opOK_pure (v := v) hm (by simp [execOp, Instr.loadAt, Instr.sureAddr, hv, hrun]) hdv rfl
    · rename_i k o j hv
      rw [hv] at hx
      obtain ⟨b, hb, hv⟩ := hx
      split at h <;> try (cases h; done)
      rename_i ks xs tt hB
      split at h <;> try (cases h; done)
      rename_i kk hkk hdv
      split at h <;> try (cases h; done)
      rename_i q hq
      simp only [Option.some.injEq] at h; subst h
      have hle := Nat.le_of_ble_eq_true hp
      obtain ⟨b', h1, h2, h3, h4, h5⟩ := hm.blk k _ hB
      rw [hb] at h1; cases h1
      obtain ⟨k1, k2⟩ := ksFrom_ok hkk hdv
      have hl := rdCells_ok (g := g) (w := w) (ks := ks) (xs := xs) kk (offE o j) k2 (by rw [k1]; exact hle)
      obtain ⟨v, hrun, hdv⟩ := load_ok (A := ⟨b, offE o j, none⟩) hag hsz hq hl rfl (fun i u hu => by
        rw [add_own, cell_of_row _ _ _ _ _ _ h3]
        rw [List.getElem?_take] at hu
        split at hu <;> try (cases hu; done)
        rw [List.getElem?_drop] at hu
        simpa using hu)
      rw [add_own, Nat.add_zero] at hrun
      exact opOK_pure (v := v) hm (by simp [execOp, Instr.loadAt, Instr.sureAddr, hv, hrun]) hdv rfl
  case store t x y =>
    split at h <;> try (cases h; done)
    rename_i m hsz
    obtain ⟨a, b, ha, hb, h⟩ := effC_c2 h
    have hx := hd x a ha
    simp only [effC] at h
    split at h <;> try (cases h; done)
    rename_i c hc
    split at h <;> try (cases h; done)
    rename_i hcond
    simp only [Bool.and_eq_true] at hcond
    have hcm := Nat.eq_of_beq_eq_true hcond.1
    have hcells := cellsO_ok hc hcond.2 (hd y b hb)
    have hone := allC_one hcond.2 hcells
    have hsize : (e y).cells.size = m := by rw [← hcm, hcells.len]; simp
    split at h <;> try (cases h; done)
    · rename_i k off hv
      rw [hv] at hx
      obtain ⟨q, hq, hv⟩ := hx
      split at h <;> try (cases h; done)
      rename_i l tt hB
      split at h <;> try (cases h; done)
      rename_i hle
      have hle := Nat.le_of_ble_eq_true hle
      simp only [Option.some.injEq] at h; subst h
      obtain ⟨q', cs, h1, h2, h3, h4⟩ := hm.blk k _ hB
      rw [hq] at h1; cases h1
      have hrun := storeCells_ok (P := P) hsz hsize h3 (by rw [← h4.len]; exact hle) hone
      obtain ⟨x1, x2⟩ := hm.setRow (cs := splice cs off (e y).cells.toList) hB hq h3 (.inl ⟨splice l off c, rfl, splice_all2 h4 hcells off⟩)
      exact ⟨_, _, _, g, by simp [execOp, Instr.storeAt, Instr.sureAddr, hv, hrun], .inr ⟨rfl, rfl⟩, x1, undefS_ok, x2⟩
    · rename_i k o j hv
      rw [hv] at hx
      obtain ⟨q, hq, hv⟩ := hx
      split at h <;> try (cases h; done)
      rename_i ks xs tt hB
      split at h <;> try (cases h; done)
      rename_i kk hkk hdv
      split at h <;> try (cases h; done)
      rename_i is his
      simp only [Option.some.injEq] at h; subst h
      have hle := Nat.le_of_ble_eq_true hp
      obtain ⟨q', h1, h2, h3, h4, h5⟩ := hm.blk k _ hB
      rw [hq] at h1; cases h1
      obtain ⟨k1, k2⟩ := ksFrom_ok hkk hdv
      obtain ⟨t1, t2, t3⟩ := toIs_ok his hcells
      have henc := encV_splice (xs := xs) k2 t1 t2 t3 (by rw [k1]; exact hle)
      have hrun := storeCells_ok (P := P) (off := offE o j) hsz hsize h3 (by rw [encV_len]; exact hle) hone
      obtain ⟨x1, x2⟩ := hm.setRow (cs := splice (encV ks xs) (offE o j) (e y).cells.toList) hB hq h3 (.inr ⟨ks, splice xs (offE o j) is, rfl, henc.symm, h4, by rw [splice_len _ _ _ (by rw [t1, k1]; exact hle)]; exact h5⟩)
      exact ⟨_, _, _, g, by simp [execOp, Instr.storeAt, Instr.sureAddr, hv, hrun], .inr ⟨rfl, rfl⟩, x1, undefS_ok, x2⟩
  case pick c x y =>
    split at h <;> try (cases h; done)
    obtain ⟨a, b, ha, hb, h⟩ := effC_c2 h
    cases h
  case makeFunc fn first caps =>
    cases fn <;> simp only at h <;> try (cases h; done)
    rename_i f
    split at h <;> try (cases h; done)
    rename_i hfirst
    split at h <;> try (cases h; done)
    rename_i l hl
    have hf : first = #[] := by
      apply Array.ext'; rw [hfirst]
    subst hf
    simp only [effC, one] at h
    split at h
    · simp only [Option.some.injEq] at h; subst h
      have hc : caps.toList = [] := by
        cases hcl : caps.toList with
        | nil => rfl
        | cons x r =>
          rw [hcl] at hl
          simp only [cpl] at hl
          split at hl <;> try (cases hl; done)
          split at hl <;> cases hl
      have hc : caps = #[] := by apply Array.ext'; rw [hc]
      subst hc
      exact opOK_pure (v := .func (.func f) #[] #[]) hm (by simp [execOp, Instr.makeFunc]) rfl rfl
    · split at h <;> try (cases h; done)
      rename_i r hr
      simp only [Option.some.injEq] at h; subst h
      have key : ∀ {cs : List Operand} {l : List Opd} {r : List SC}, cpl n cs = some l → capsO (opv sl) l = some r → All2 (DC g w) r (cs.map e) := by
        intro cs
        induction cs with
        | nil =>
          intro l r hl hr
          simp only [cpl, Option.some.injEq] at hl; subst hl
          simp only [capsO, Option.some.injEq] at hr; subst hr
          trivial
        | cons x cs ih =>
          intro l r hl hr
          simp only [cpl] at hl
          split at hl <;> try (cases hl; done)
          rename_i y hy
          split at hl <;> try (cases hl; done)
          rename_i l' hl'
          simp only [Option.some.injEq] at hl; subst hl
          have hr : (match opv sl y with
            | .t (.c c) => match capsO (opv sl) l' with
              | some r => some (c :: r)
              | none => none
            | _ => none) = some r := hr
          split at hr <;> try (cases hr; done)
          rename_i c hc
          split at hr <;> try (cases hr; done)
          rename_i r' hr'
          simp only [Option.some.injEq] at hr; subst hr
          have := hd x y hy
          rw [hc] at this
          exact ⟨this, ih hl' hr'⟩
      have := key hl hr
      exact opOK_pure (v := .func (.func f) #[] (caps.map e)) hm (by simp [execOp, Instr.makeFunc]) ⟨caps.toList.map e, by congr 1; apply Array.ext'; simp, this⟩ rfl
  case buildSlice t len ps =>
    split at h <;> try (cases h; done)
    rename_i el hu
    split at h
    case h_2 =>
      split at h <;> try (cases h; done)
      rename_i hnil
      split at h <;> try (cases h; done)
      rename_i qs hqs
      simp only [effC, one] at h
      split at h <;> try (cases h; done)
      rename_i hcond
      split at h <;> try (cases h; done)
      rename_i r hr
      simp only [Option.some.injEq] at h; subst h
      simp only [Bool.and_eq_true, Nat.blt_eq] at hcond
      have hle := Nat.le_of_ble_eq_true hcond.2
      have hpos := hcond.1
      unfold nilE at hnil
      split at hnil <;> try (cases hnil; done)
      rename_i ie hie
      split at hnil <;> try (cases hnil; done)
      rename_i zv hzv
      simp only [Bool.and_eq_true] at hnil
      have hz := isNil_eq hnil.1
      have hsz1 := Nat.eq_of_beq_eq_true hnil.2
      subst hz
      have hzc : All2 (DC g w) (List.replicate len (SC.v (.slice none 0 0))) (List.replicate len (Value.slice none 0 0)) := by
        clear hqs hr hcond hle hpos
        induction len with
        | zero => trivial
        | succ m ih => exact ⟨rfl, ih⟩
      obtain ⟨us, hfu, hdr⟩ := parts_ok (fun x y hy => hd x y hy) hqs hr hzc
      have hul : us.length = r.length := hdr.len.symm
      have hrl : r.length = len := by
        have : ∀ (qs : List (Nat × Nat × Opd)) (l r : List SC), parts (opv sl) qs l = some r → r.length = l.length := by
          intro qs
          induction qs with
          | nil => intro l r h; simp only [parts, Option.some.injEq] at h; rw [h]
          | cons q qs ih =>
            intro l r h
            rw [parts_cons] at h
            split at h <;> try (cases h; done)
            split at h <;> try (cases h; done)
            rename_i hc
            split at h <;> try (cases h; done)
            simp only [Bool.and_eq_true] at hc
            have h1 := Nat.eq_of_beq_eq_true hc.1
            have h2 := Nat.le_of_ble_eq_true hc.2
            rw [ih _ _ h, splice_len _ _ _ (by omega)]
        rw [this qs _ r hr, List.length_replicate]
      have hrun : (Instr.buildSlice t len (ps.map fun (i, x) => (i, e x))).run P w = .ok (.slice (some ⟨w.heap.size, 0, none⟩) len len) (w.alloc (.cells us.toArray el)) := by
        have hf : Instr.fill (fun i => some (i, 1)) (List.replicate len (Value.slice none 0 0)).toArray (ps.map fun (i, x) => (i, e x)).toList = some us.toArray := by simpa using hfu
        have hn0 : len ≠ 0 := by omega
        have hle' : ¬ (2 ^ 24 < len) := by omega
        have hrep : (Array.range len).map (fun x => ([Value.slice none 0 0] : List Value)[x % 1]?.getD default) = (List.replicate len (Value.slice none 0 0)).toArray := by
          apply Array.ext'
          apply List.ext_getElem?
          intro i
          rw [List.toList_toArray, List.getElem?_replicate]
          by_cases hi : i < len
          · rw [if_pos hi]
            simp [Array.toList_map, List.getElem?_map, List.getElem?_range hi, Nat.mod_one]
          · rw [if_neg hi]
            simp; omega
        have hfu' : Instr.fill (fun i => some (i, 1)) (List.replicate len (Value.slice none 0 0)).toArray (List.map (fun x => (x.fst, e x.snd)) ps.toList) = some us.toArray := hfu
        simp [Instr.buildSlice, run_underlying hu, sizeOf, typeInfo, hie, hsz1, hn0, hle', zeroValue, hzv, Value.cells, newRow]
        rw [hrep, hfu']
        simp
      have hb : Below w.heap.size w (w.alloc (.cells us.toArray el)) := (Below.refl _ _).alloc (Nat.le_refl _) _
      have hnew : (w.alloc (.cells us.toArray el)).heap[w.heap.size]? = some (.cells us.toArray el (0, 0)) := heap_alloc_new w _
      have hwsz : (w.alloc (.cells us.toArray el)).heap.size = w.heap.size + 1 := by show (w.heap.push _).size = _; simp
      have hfar := hm.far_new (w' := w.alloc (.cells us.toArray el)) (n := r.length) (by omega)
      refine ⟨.value (.slice (some ⟨w.heap.size, 0, none⟩) len len), .slice (some ⟨w.heap.size, 0, none⟩) len len, w.alloc (.cells us.toArray el), g, by simp [execOp, hrun], .inl rfl, ext_below g hb, ⟨⟨w.heap.size, 0, none⟩, us, by rw [hrl], hfar, hdr.mono (ext_below g hb).c, fun j u hu' => ?_⟩, hm.grow hb⟩
      rw [add_own, cell_of_row _ _ _ _ _ _ hnew, Nat.zero_add]
      simpa using hu'
    rename_i ks hks
    obtain ⟨_, hsz, hpos⟩ := ksT_eq hks
    split at h <;> try (cases h; done)
    rename_i hcond
    simp only [Bool.and_eq_true] at hcond
    have hle := Nat.le_of_ble_eq_true hcond.2
    split at h <;> try (cases h; done)
    rename_i qs hqs
    simp only [effC] at h
    split at h <;> try (cases h; done)
    rename_i xs hxs
    split at h <;> try (cases h; done)
    rename_i hk
    simp only [Option.some.injEq] at h; subst h
    obtain ⟨hfill, hlen⟩ := partsI_ok (fun x y hy => hd x y hy) hqs hxs
    rw [List.length_replicate] at hlen
    -- the zero cells
    have hz0 := hcond.1
    unfold zeroI at hz0
    obtain ⟨ie, hie, hisz⟩ := szT_eq hsz
    rw [hie] at hz0
    simp only at hz0
    split at hz0 <;> try (cases hz0; done)
    rename_i zv hzv
    split at hz0 <;> try (cases hz0; done)
    rename_i zs hzs
    have hzall := toIs_allC hzs
    obtain ⟨z1, z2, z3⟩ := toIs_ok (g := g) (w := w) hzs (cellsT_zero zv hzall)
    have hzero : ∀ (i : Nat) (x : Int), zs[i]? = some x → x = 0 := by
      intro i x hx
      rw [List.all_eq_true] at hz0
      simpa using hz0 x (List.mem_of_getElem? hx)
    have hzsz : zv.cells.size = ks.length := by rw [← z2]; simp
    have hcell : ∀ i, i < ks.length → zv.cells[i]! = rdV (kAt ks i) 0 := by
      intro i hi
      have e1 : ks[i]? = some ks[i] := List.getElem?_eq_getElem hi
      have e2 : zs[i]? = some (zs[i]'(by omega)) := List.getElem?_eq_getElem _
      have e3 := z3 i _ _ e1 e2
      rw [hzero i _ e2] at e3
      rw [kAt_lt e1]
      rw [Array.getElem?_toList] at e3
      rw [getElem!_def, e3]
    have harr : ((Array.range (len * ks.length)).map ((if len * ks.length = 0 then #[] else zv.cells)[· % (if len * ks.length = 0 then #[] else zv.cells).size]!)) = (encV ks (List.replicate (len * ks.length) 0)).toArray := by
      apply Array.ext'
      apply List.ext_getElem?
      intro i
      rw [List.toList_toArray, encV_get, List.getElem?_replicate]
      by_cases hi : i < len * ks.length
      · rw [if_pos hi, if_neg (by omega)]
        simp only [Array.toList_map, Array.toList_range, List.getElem?_map, List.getElem?_range hi, Option.map_some, Option.some.injEq]
        rw [hzsz, hcell _ (Nat.mod_lt _ hpos)]
        congr 1
        unfold kAt
        rw [Nat.mod_mod]
      · rw [if_neg hi]
        simp
        omega
    have hrun : (Instr.buildSlice t len (ps.map fun (i, x) => (i, e x))).run P w = .ok (.slice (some ⟨w.heap.size, 0, none⟩) len len) (w.alloc (.cells (encV ks xs).toArray el)) := by
      have hf : Instr.fill (fun i => some (i * ks.length, ks.length)) ((Array.range (len * ks.length)).map ((if len * ks.length = 0 then #[] else zv.cells)[· % (if len * ks.length = 0 then #[] else zv.cells).size]!)) (ps.map fun (i, x) => (i, e x)).toList = some (encV ks xs).toArray := by
        rw [harr]; simpa using hfill
      by_cases h0 : len * ks.length = 0
      · simp [h0] at hf
        simp [Instr.buildSlice, run_underlying hu, run_size hsz, h0, hf, newRow]
      · simp [h0] at hf
        have hle' : ¬ (2 ^ 24 < len * ks.length) := by omega
        simp [Instr.buildSlice, run_underlying hu, run_size hsz, h0, hle', zeroValue, typeInfo, hie, hzv, hf, newRow]
    have hb : Below w.heap.size w (w.alloc (.cells (encV ks xs).toArray el)) := (Below.refl _ _).alloc (Nat.le_refl _) _
    have hnew : (w.alloc (.cells (encV ks xs).toArray el)).heap[w.heap.size]? = some (.cells (encV ks xs).toArray el (0, 0)) := heap_alloc_new w _
    have hwsz : (w.alloc (.cells (encV ks xs).toArray el)).heap.size = w.heap.size + 1 := by show (w.heap.push _).size = _; simp
    obtain ⟨g', g1, g2, g3, g4, g5⟩ := (hm.grow hb).tok el (key + key) hk
    refine ⟨_, _, _, g', by simp [execOp, hrun], .inl rfl, (ext_below g hb).trans g1, ⟨some ⟨w.heap.size, 0, none⟩, len, len, rfl, Nat.le_refl _, ?_, hpos, hlen, (fun h => by cases h), ?_, el, key + key, g2, Nat.le_refl _, fun _ => .inl ⟨g3, rfl⟩⟩, g5⟩
    · have : len ≤ len * ks.length := Nat.le_mul_of_pos_right _ hpos
      unfold maxLen; omega
    · intro A hA
      simp only [Option.some.injEq] at hA
      subst hA
      have hfar := hm.far_new (w' := w.alloc (.cells (encV ks xs).toArray el)) (n := xs.length) (by omega)
      refine ⟨fun _ => ⟨rfl, hfar.lt, fun f hf => hfar.lim f ((g4 _ _).1 hf)⟩, fun j u hu => ?_⟩
      rw [add_own, cell_of_row _ _ _ _ _ _ hnew, Nat.zero_add]
      simpa using hu
  case slice t x lo hi mx =>
    split at h <;> try (cases h; done)
    rename_i el hu
    split at h <;> try (cases h; done)
    rename_i ks hks
    obtain ⟨_, hsz, hpos⟩ := ksT_eq hks
    obtain ⟨y, hy, h⟩ := effC_c1 h
    have hx := hd x y hy
    obtain ⟨lo', h, hl⟩ := optI_ok (fun x y hy => hd x y hy) h
    obtain ⟨hi', h, hh⟩ := optI_ok (fun x y hy => hd x y hy) h
    obtain ⟨mx', h, hmx⟩ := optI_ok (fun x y hy => hd x y hy) h
    simp only [effC] at h
    split at h <;> try (cases h; done)
    rename_i xs hxs
    obtain ⟨tok, a, nn, c, hv, hI⟩ : ∃ tok a nn c, e x = .slice a nn c ∧ SlI g w ks xs tok a nn c := by
      split at hxs <;> try (cases hxs; done)
      · rename_i ks' xs' tok hv
        rw [hv] at hx
        split at hxs <;> try (cases hxs; done)
        rename_i hkk
        have hkk := ksEq_eq hkk
        subst hkk
        simp only [Option.some.injEq] at hxs; subst hxs
        obtain ⟨a, nn, c, hv, hI⟩ := hx
        exact ⟨tok, a, nn, c, hv, hI⟩
      · rename_i v hv
        rw [hv] at hx
        split at hxs <;> try (cases hxs; done)
        rename_i hnil
        simp only [Option.some.injEq] at hxs; subst hxs
        have hx : e x = v := hx
        exact ⟨none, none, 0, 0, by rw [hx]; exact isNil_eq hnil, nil_sl hpos⟩
    split at h <;> try (cases h; done)
    rename_i l1 h1 m1 el1 eh1 em1
    have hl := hl _ el1
    have hh := hh _ eh1
    have hmx := hmx _ em1
    split at h
    · simp only [Option.some.injEq] at h; subst h
      obtain ⟨a', n', c', hrun, hI', _⟩ := slc_ok (mx := none) hu hsz hI hl hh (hmx.imp (fun h => ⟨rfl, h.2⟩) (fun ⟨_, _, h, _⟩ => by cases h)) hp
      exact opOK_pure (v := .slice a' n' c') hm (by simp [execOp, hv, hrun]) ⟨a', n', c', rfl, hI'⟩ rfl
    · rename_i m2
      split at h <;> try (cases h; done)
      rename_i hk
      simp only [Option.some.injEq] at h; subst h
      obtain ⟨a', n', c', hrun, hI', hfull⟩ := slc_ok (mx := some m2) hu hsz hI hl hh (hmx.imp (fun h => by cases h.1) (fun h => h)) hp
      obtain ⟨g', g1, g2, g3, g4, g5⟩ := hm.tok el (key + key) hk
      have hS : SlD g w ks (cutI ks.length xs l1 h1) none (.slice a' n' c') := ⟨a', n', c', rfl, hI'⟩
      obtain ⟨a2, n2, c2, hv2, hI2⟩ := g1.c (.sl ks (cutI ks.length xs l1 h1) none) _ hS
      cases hv2
      exact ⟨_, _, w, g', by simp [execOp, hv, hrun], .inl rfl, g1, ⟨a', n', c', rfl, hI2.cap, hI2.most, hI2.pos, hI2.len, hI2.nil, hI2.at_, el, key + key, g2, Nat.le_refl _, fun _ => .inl ⟨g3, hfull (by simp)⟩⟩, g5⟩
  case call c =>
    obtain ⟨callee, args, argTypes⟩ := c
    simp only at h
    cases callee with
    | invoke r m => cases h
    | value f =>
      simp only at h
      split at h <;> try (cases h; done)
      split at h <;> try (cases h; done)
      split at h <;> cases h
    | builtin b =>
      cases b <;> simp only at h <;> try (cases h; done)
      case len =>
        split at h <;> try (cases h; done)
        rename_i x t hargs htypes
        have ha : args = #[x] := by apply Array.ext'; simpa using hargs
        have hat : argTypes = #[t] := by apply Array.ext'; simpa using htypes
        subst ha; subst hat
        split at h <;> try (cases h; done)
        · rename_i el hu
          obtain ⟨y, hy, h⟩ := effC_c1 h
          have hx := hd x y hy
          simp only [effC, one] at h
          split at h <;> try (cases h; done)
          · rename_i ks xs tok hv
            rw [hv] at hx
            simp only [Option.some.injEq] at h; subst h
            obtain ⟨a, nn, c, hv, hI⟩ := hx
            rw [lenE_of hI.pos hI.len]
            exact opOK_pure (v := .int .i64 nn) hm (by simp [execOp, resolve, invoke, builtin, Builtin.len_, run_underlying hu, hv, goInt]) rfl rfl
          · rename_i v hv
            rw [hv] at hx
            split at h <;> try (cases h; done)
            rename_i hnil
            simp only [Option.some.injEq] at h; subst h
            have hx : e x = v := hx
            have hv : e x = .slice none 0 0 := by rw [hx]; exact isNil_eq hnil
            exact opOK_pure (v := .int .i64 0) hm (by simp [execOp, resolve, invoke, builtin, Builtin.len_, run_underlying hu, hv, goInt]) rfl rfl
        · rename_i hu
          obtain ⟨y, hy, h⟩ := effC_c1 h
          have hx := hd x y hy
          simp only [effC, one] at h
          split at h <;> try (cases h; done)
          rename_i xs hv
          rw [hv] at hx
          simp only [Option.some.injEq] at h; subst h
          have hv : e x = .string (bstr xs) := hx
          exact opOK_pure (v := .int .i64 xs.length) hm (by simp [execOp, resolve, invoke, builtin, Builtin.len_, run_underlying hu, hv, goInt, bstr_size]) rfl rfl
      case max =>
        split at h <;> try (cases h; done)
        rename_i x y hargs
        have ha : args = #[x, y] := by apply Array.ext'; simpa using hargs
        subst ha
        obtain ⟨a, b, ha, hb, h⟩ := effC_c2 h
        have hx := hd x a ha
        have hy := hd y b hb
        simp only [effC, one] at h
        split at h <;> try (cases h; done)
        rename_i k q k' q' h1 h2
        simp only [Option.some.injEq] at h; subst h
        have e1 := intS_ok h1 hx
        have e2 := intS_ok h2 hy
        exact opOK_pure (v := .int k (imax q q')) hm (by simp [execOp, resolve, invoke, builtin, Builtin.max_, Builtin.max2, e1, e2, imax]) rfl rfl
      case min =>
        split at h <;> try (cases h; done)
        rename_i x y hargs
        have ha : args = #[x, y] := by apply Array.ext'; simpa using hargs
        subst ha
        obtain ⟨a, b, ha, hb, h⟩ := effC_c2 h
        have hx := hd x a ha
        have hy := hd y b hb
        simp only [effC, one] at h
        split at h <;> try (cases h; done)
        rename_i k q k' q' h1 h2
        simp only [Option.some.injEq] at h; subst h
        have e1 := intS_ok h1 hx
        have e2 := intS_ok h2 hy
        exact opOK_pure (v := .int k (imin q q')) hm (by simp [execOp, resolve, invoke, builtin, Builtin.min_, Builtin.min2, e1, e2, imin]) rfl rfl
      case append =>
        split at h <;> try (cases h; done)
        rename_i x y t t' hargs htypes
        have ha : args = #[x, y] := by apply Array.ext'; simpa using hargs
        have hat : argTypes = #[t, t'] := by apply Array.ext'; simpa using htypes
        subst ha; subst hat
        split at h <;> try (cases h; done)
        rename_i el hu
        split at h <;> try (cases h; done)
        rename_i ks hks
        split at h <;> try (cases h; done)
        rename_i hcond
        simp only [Bool.and_eq_true] at hcond
        have htt := Nat.eq_of_beq_eq_true hcond.1
        subst htt
        obtain ⟨ti, z, hel⟩ := el_ok hks hcond.2
        obtain ⟨_, hsz, hpos⟩ := ksT_eq hks
        obtain ⟨a, b, ha, hb, h⟩ := effC_c2 h
        have hx := hd x a ha
        have hy := hd y b hb
        simp only [effC] at h
        split at h <;> try (cases h; done)
        rename_i ys hys
        obtain ⟨toky, ay, m, cy, hvy, hIy⟩ : ∃ tok a nn c, e y = .slice a nn c ∧ SlI g w ks ys tok a nn c := by
          split at hys <;> try (cases hys; done)
          · rename_i ks' xs' tok hv
            rw [hv] at hy
            split at hys <;> try (cases hys; done)
            rename_i hkk
            have hkk := ksEq_eq hkk
            subst hkk
            simp only [Option.some.injEq] at hys; subst hys
            obtain ⟨a, nn, c, hv, hI⟩ := hy
            exact ⟨tok, a, nn, c, hv, hI⟩
          · rename_i v hv
            rw [hv] at hy
            split at hys <;> try (cases hys; done)
            rename_i hnil
            simp only [Option.some.injEq] at hys; subst hys
            have hy : e y = v := hy
            exact ⟨none, none, 0, 0, by rw [hy]; exact isNil_eq hnil, nil_sl hpos⟩
        have run : ∀ {v w' va}, e x = va → (Builtin.append_ #[t, t] type #[va, .slice ay m cy]).run P w = .ok v w' → (execOp e ⟨dst, .call ⟨.builtin .append, #[x, y], #[t, t]⟩, type, pos, after, guard⟩).run P w = .ok (.value v) w' := by
          intro v w' va hva hr
          simp [execOp, resolve, invoke, builtin, hva, hvy, hr]
        split at h <;> try (cases h; done)
        · rename_i ks' xs k i hv
          rw [hv] at hx
          split at h <;> try (cases h; done)
          rename_i hkk
          have hkk := ksEq_eq hkk
          subst hkk
          split at h <;> try (cases h; done)
          rename_i e' i' hB
          split at h <;> try (cases h; done)
          rename_i hc2
          simp only [Bool.and_eq_true] at hc2
          have h1 := Nat.eq_of_beq_eq_true hc2.1
          have h2 := Nat.eq_of_beq_eq_true hc2.2.1
          have h3 := Nat.le_of_ble_eq_true hc2.2.2
          subst h1; subst h2
          simp only [Option.some.injEq] at h; subst h
          have hbig := Nat.le_of_ble_eq_true hp
          obtain ⟨ax, nn, c, hvx, hIx⟩ := hx
          obtain ⟨v', w', g', r1, r2, r3, r4⟩ := hm.append (ty := type) hu hel hB h3 hIx hIy hbig
          exact ⟨_, _, w', g', run hvx r1, .inl rfl, r2, r3, r4⟩
        · rename_i v hv
          rw [hv] at hx
          split at h <;> try (cases h; done)
          rename_i hnil
          split at h <;> try (cases h; done)
          rename_i hk
          simp only [Option.some.injEq] at h; subst h
          have hbig := Nat.le_of_ble_eq_true hp
          have hx : e x = v := hx
          have hvx : e x = .slice none 0 0 := by rw [hx]; exact isNil_eq hnil
          obtain ⟨g1, x1, x2, x3, x4, x5⟩ := hm.tok el (key + key) hk
          have hIx : SlI g1 w ks [] (some (key, key + key)) none 0 0 := ⟨Nat.le_refl _, Nat.zero_le _, hpos, by simp, fun _ => ⟨rfl, rfl⟩, fun A h => (by cases h), el, key + key, x2, Nat.le_refl _, fun _ => .inl ⟨x3, rfl⟩⟩
          have hSy : SlD g w ks ys none (.slice ay m cy) := ⟨ay, m, cy, rfl, hIy.cap, hIy.most, hIy.pos, hIy.len, hIy.nil, hIy.at_, trivial⟩
          obtain ⟨ay2, m2, cy2, hv2, hIy2⟩ := x1.c (.sl ks ys none) _ hSy
          cases hv2
          obtain ⟨v', w', g', r1, r2, r3, r4⟩ := x5.append (ty := type) (i' := key + key + 1) hu hel (by rw [lkB_set, if_pos rfl]) (by omega) hIx hIy2 (by simpa using hbig)
          refine ⟨_, _, w', g', run hvx r1, .inl rfl, x1.trans r2, r3, ?_⟩
          have := r4
          simp only [updB]
          refine ⟨this.base, this.pl, this.plo, fun k B hB => this.blk k B ?_, fun k b hb => ?_, fun k e i hb => ?_, fun k q hb => ?_, this.inj, this.tinj, this.sep, this.told⟩
          · rw [lkB_set] at hB ⊢; rw [lkB_set]; split at hB <;> simp_all
          · have := this.dom k b hb; rw [lkB_set] at this ⊢; rw [lkB_set] at this; split at this <;> simp_all
          · have := this.tdom k e i hb; rw [lkB_set] at this ⊢; rw [lkB_set] at this; split at this <;> simp_all
          · have := this.kdom k q hb; rw [lkB_set] at this ⊢; rw [lkB_set] at this; split at this <;> simp_all
end
end SY
end Go.Proofs.YtapjehgfekjdaaaDoor
