/- The symbolic executor's single operations are sound. No condition. -/
import Derived.Test.YtapjehgfekjdaaaDoorSyG
import Derived.Laws.Strings
import Derived.Laws.Concat
import Derived.Laws.BytesString
import Derived.Laws.Slices
namespace Go.Proofs.YtapjehgfekjdaaaDoor
open Go.RowKit
namespace SY
section
variable {P : Program} {p : Nat → Nat → Prop} {w0 w : World} {g : G} {sl : Tr S} {bl : Tr (Option Blk)} {key n : Nat} {ef : Ef}

theorem cpo_opv {x : Operand} {y : Opd} (h : cpo n x = some y) (sl : Tr S) : opv sl y = opd sl x := by
  cases x with
  | tmp t =>
    simp only [cpo] at h
    split at h
    · simp only [Option.some.injEq] at h; subst h; rfl
    · cases h
  | _ => simp only [cpo, Option.some.injEq] at h; subst h; rfl
theorem effC_c1 {x : Operand} {f : Opd → CO} (h : effC P sl bl key (c1 n x f) = some ef) : ∃ y, cpo n x = some y ∧ effC P sl bl key (f y) = some ef := by
  unfold c1 at h
  split at h
  · rename_i y hy; exact ⟨y, hy, h⟩
  · cases h
theorem effC_c2 {x y : Operand} {f : Opd → Opd → CO} (h : effC P sl bl key (c2 n x y f) = some ef) : ∃ a b, cpo n x = some a ∧ cpo n y = some b ∧ effC P sl bl key (f a b) = some ef := by
  unfold c2 at h
  split at h
  · rename_i a ha
    split at h
    · rename_i b hb; exact ⟨a, b, ha, hb, h⟩
    · cases h
  · cases h
theorem cpl_mem : ∀ {l : List Operand} {m : List Opd}, cpl n l = some m → ∀ x ∈ l, ∃ y, cpo n x = some y
  | [], _, _, x, hx => by cases hx
  | a :: l, m, h, x, hx => by
    simp only [cpl] at h
    split at h <;> try (cases h; done)
    rename_i y hy
    split at h <;> try (cases h; done)
    rename_i r hr
    rcases List.mem_cons.1 hx with rfl | hx
    · exact ⟨y, hy⟩
    · exact cpl_mem hr x hx

/-- What an operation comes to. -/
def OpOK (P : Program) (p : Nat → Nat → Prop) (w0 : World) (g : G) (bl : Tr (Option Blk)) (w : World) (ef : Ef) (s : Sem Next) : Prop :=
  ∃ nx v w' g', s.run P w = .ok nx w' ∧ (nx = .value v ∨ (nx = .skip ∧ v = undef)) ∧ Ext g w g' w' ∧ DS g' w' ef.s v ∧ Mem p w0 g' (updB bl ef.u) w'

theorem opOK_pure {s : Sem Next} {v : Value} (hm : Mem p w0 g bl w) (hr : s.run P w = .ok (.value v) w) (hs : DS g w ef.s v) (hu : ef.u = none) : OpOK P p w0 g bl w ef s :=
  ⟨_, v, w, g, hr, .inl rfl, Ext.refl _ _, hs, by rw [hu]; exact hm⟩

theorem kEq_eq {a b : IntKind} (h : kEq a b = true) : a = b := of_decide_eq_true h
theorem ckEq_eq {a b : CK} (h : ckEq a b = true) : a = b := by
  cases a <;> cases b <;> simp only [ckEq] at h <;> try (cases h; done)
  · rw [kEq_eq h]
  · rfl
theorem ksEq_eq : ∀ {l m : List CK}, ksEq l m = true → l = m
  | [], [], _ => rfl
  | [], _ :: _, h => by cases h
  | _ :: _, [], h => by cases h
  | a :: l, b :: m, h => by
    have h : (ckEq a b && ksEq l m) = true := h
    simp only [Bool.and_eq_true] at h
    rw [ckEq_eq h.1, ksEq_eq h.2]
theorem isNil_eq {v : Value} (h : isNil v = true) : v = .slice none 0 0 := by
  unfold isNil at h
  split at h
  · simp only [Bool.and_eq_true] at h
    rw [Nat.eq_of_beq_eq_true h.1, Nat.eq_of_beq_eq_true h.2]
  · cases h

theorem binI_ok {op : BinOp} {k k' : IntKind} {a b : Int} {s : S} {q : Bool} (t : TypeId) (x y : Operand) (h : binI op k a b = some (s, q)) (hq : q = true) (hk : (isShift op || kEq k k') = true) :
    ∃ v, (∀ w, (do eqGuard op t x y (.int k a) (.int k' b); binOp op t (.int k a) (.int k' b) : Sem Value).run P w = .ok v w) ∧ DS g w0 s v := by
  have hg : ∀ w, (eqGuard op t x y (.int k a) (.int k' b)).run P w = .ok () w := by intro w; cases op <;> simp [eqGuard]
  cases op <;> simp only [binI, Option.some.injEq, Prod.mk.injEq] at h <;> obtain ⟨rfl, rfl⟩ := h <;> simp only [isShift, Bool.false_or, Bool.true_or] at hk <;> try (have hk := kEq_eq hk; subst hk)
  case add => exact ⟨.int k _, fun w => by simp only [Sem.run_bind, hg, Result.andThen_ok]; simp [binOp, Op.intArith], rfl⟩
  case sub => exact ⟨.int k _, fun w => by simp only [Sem.run_bind, hg, Result.andThen_ok]; simp [binOp, Op.intArith], rfl⟩
  case mul => exact ⟨.int k _, fun w => by simp only [Sem.run_bind, hg, Result.andThen_ok]; simp [binOp, Op.intArith], rfl⟩
  case quo =>
    have hb : ¬ b = 0 := by simpa using hq
    exact ⟨.int k _, fun w => by simp only [Sem.run_bind, hg, Result.andThen_ok]; simp [binOp, Op.intDiv, hb], rfl⟩
  case rem =>
    have hb : ¬ b = 0 := by simpa using hq
    exact ⟨.int k _, fun w => by simp only [Sem.run_bind, hg, Result.andThen_ok]; simp [binOp, Op.intDiv, hb], rfl⟩
  case and => exact ⟨.int k _, fun w => by simp only [Sem.run_bind, hg, Result.andThen_ok]; simp [binOp, Op.intBits, bAnd], rfl⟩
  case or => exact ⟨.int k _, fun w => by simp only [Sem.run_bind, hg, Result.andThen_ok]; simp [binOp, Op.intBits, bOr], rfl⟩
  case xor => exact ⟨.int k _, fun w => by simp only [Sem.run_bind, hg, Result.andThen_ok]; simp [binOp, Op.intBits, bXor], rfl⟩
  case andNot => exact ⟨.int k _, fun w => by simp only [Sem.run_bind, hg, Result.andThen_ok]; simp [binOp, Op.intBits, bAnn], rfl⟩
  case shl =>
    have hb : ¬ b < 0 := by simpa using hq
    exact ⟨.int k _, fun w => by simp only [Sem.run_bind, hg, Result.andThen_ok]; simp [binOp, Op.shift, hb, sShl], rfl⟩
  case shr =>
    have hb : ¬ b < 0 := by simpa using hq
    exact ⟨.int k _, fun w => by simp only [Sem.run_bind, hg, Result.andThen_ok]; simp [binOp, Op.shift, hb, sShr], rfl⟩
  case eql => exact ⟨.bool (decide (a = b)), fun w => by simp only [Sem.run_bind, hg, Result.andThen_ok]; simp [binOp, Op.intCmp]; rfl, rfl⟩
  case neq => exact ⟨.bool (!decide (a = b)), fun w => by simp only [Sem.run_bind, hg, Result.andThen_ok]; simp [binOp, Op.intCmp]; rfl, rfl⟩
  all_goals exact ⟨.bool _, fun w => by simp only [Sem.run_bind, hg, Result.andThen_ok]; simp [binOp, Op.intCmp], rfl⟩

theorem bstr_size (xs : List Int) : (bstr xs).size = xs.length := by simp [bstr, ByteArray.size]
theorem bstr_toList (xs : List Int) : (bstr xs).toList = xs.map fun x => UInt8.ofNat x.toNat := by
  unfold bstr; rw [ByteArray.toList_mk]
theorem bstr_app (xs ys : List Int) : bstr xs ++ bstr ys = bstr (xs ++ ys) := by
  unfold bstr; rw [ByteArray.mk_append_mk, List.map_append]
theorem strEq_eq : ∀ (xs ys : List Int), strEq xs ys = ((xs.map fun x => UInt8.ofNat x.toNat) == (ys.map fun x => UInt8.ofNat x.toNat))
  | [], [] => rfl
  | [], _ :: _ => rfl
  | _ :: _, [] => rfl
  | a :: l, b :: m => by
    have ih := strEq_eq l m
    have e : strEq (a :: l) (b :: m) = (Nat.beq (m8 a) (m8 b) && strEq l m) := rfl
    rw [e, ih]
    simp only [List.map_cons, List.cons_beq_cons]
    congr 1
    rw [Bool.eq_iff_iff, Nat.beq_eq, beq_iff_eq]
    constructor
    · intro h
      apply UInt8.toNat_inj.1
      simpa [m8] using h
    · intro h
      have := congrArg UInt8.toNat h
      simpa [m8] using this

theorem binT_ok {op : BinOp} {xs ys : List Int} {s : S} {q : Bool} (t : TypeId) (x y : Operand) (h : binT op xs ys = some (s, q)) (hq : q = true) :
    ∃ v, (∀ w, (do eqGuard op t x y (.string (bstr xs)) (.string (bstr ys)); binOp op t (.string (bstr xs)) (.string (bstr ys)) : Sem Value).run P w = .ok v w) ∧ DS g w0 s v := by
  have hg : ∀ w, (eqGuard op t x y (.string (bstr xs)) (.string (bstr ys))).run P w = .ok () w := by intro w; cases op <;> simp [eqGuard]
  cases op <;> simp only [binT] at h <;> try (cases h; done)
  all_goals
    simp only [Option.some.injEq, Prod.mk.injEq] at h
    obtain ⟨rfl, rfl⟩ := h
  case add =>
    have hb := Nat.le_of_ble_eq_true hq
    refine ⟨.string (bstr (xs ++ ys)), fun w => ?_, rfl⟩
    simp only [Sem.run_bind, hg, Result.andThen_ok, binOp_string_add]
    rw [run_string_add_sum _ _ _ (by rw [bstr_size, bstr_size]; unfold big at hb; omega), bstr_app]
  case eql =>
    refine ⟨.bool (strEq xs ys), fun w => ?_, rfl⟩
    simp only [Sem.run_bind, hg, Result.andThen_ok, binOp_string_eql, bstr_toList, strEq_eq, Sem.run_pure]
  case neq =>
    refine ⟨.bool (!strEq xs ys), fun w => ?_, rfl⟩
    simp only [Sem.run_bind, hg, Result.andThen_ok, binOp_string_neq, bstr_toList, strEq_eq, Sem.run_pure]

theorem unI_ok {op : UnOp} {s r : S} {v : Value} (h : unI op s = some r) (hs : DS g w s v) : ∃ u, (∀ w, (Op.unary op v).run P w = .ok u w) ∧ DS g w r u := by
  unfold unI at h
  split at h <;> try (cases h; done)
  · rename_i b
    have hs : v = .bool b := hs
    subst hs
    simp only [Option.some.injEq] at h; subst h
    exact ⟨.bool (!b), fun w => by simp [Op.unary], rfl⟩
  · rename_i k n
    have hs : v = .int k n := hs
    subst hs
    simp only [Option.some.injEq] at h; subst h
    exact ⟨.int k _, fun w => by simp [Op.unary, Op.intArith], rfl⟩
  · rename_i k n
    have hs : v = .int k n := hs
    subst hs
    simp only [Option.some.injEq] at h; subst h
    refine ⟨.int k _, fun w => ?_, rfl⟩
    simp only [Op.unary, Op.intBits, bXor, Sem.run_pure]
    cases k.signed <;> rfl

theorem elem_of {t e : TypeId} (h : P.underlying t = some (.slice e)) : P.underlying t = some (.slice (P.elem t)) ∧ P.elem t = e := by
  have : P.elem t = e := by simp [Program.elem, h]
  rw [this]; exact ⟨h, rfl⟩

theorem foldl_push (ns : List Int) : ∀ (s : List UInt8), ns.foldl (fun r n => r.push (UInt8.ofNat n.toNat)) (ByteArray.mk s.toArray) = ByteArray.mk (s ++ ns.map fun x => UInt8.ofNat x.toNat).toArray := by
  induction ns with
  | nil => intro s; simp
  | cons n ns ih =>
    intro s
    have : (ByteArray.mk s.toArray).push (UInt8.ofNat n.toNat) = ByteArray.mk (s ++ [UInt8.ofNat n.toNat]).toArray := by
      show ByteArray.mk (s.toArray.push _) = _
      congr 1
      apply Array.ext'; simp
    rw [List.foldl_cons, this, ih]
    simp

theorem ksT_eq {e : TypeId} {ks : List CK} (h : ksT P e = some ks) : flatT P 20 e = some ks ∧ szT P e = some ks.length ∧ 0 < ks.length := by
  unfold ksT at h
  split at h <;> try (cases h; done)
  rename_i ks' hks
  split at h <;> try (cases h; done)
  rename_i m hm
  split at h <;> try (cases h; done)
  rename_i hc
  simp only [Bool.and_eq_true] at hc
  simp only [Option.some.injEq] at h; subst h
  have e1 := Nat.eq_of_beq_eq_true hc.1
  have e2 := Nat.le_of_ble_eq_true hc.2
  subst e1
  exact ⟨hks, hm, e2⟩
theorem el_ok {e : TypeId} {ks : List CK} (h : ksT P e = some ks) (hs : smallE P e = true) : ∃ ti z, ElOK P ks e ti z := by
  obtain ⟨_, h2, _⟩ := ksT_eq h
  obtain ⟨i, hi, hsz⟩ := szT_eq h2
  unfold smallE at hs
  rw [hi] at hs
  simp only [Bool.and_eq_true] at hs
  obtain ⟨hb, hz⟩ := hs
  split at hz
  · rename_i z hzz
    exact ⟨i, z, hi, hzz, hsz, Nat.eq_of_beq_eq_true hz, Nat.le_of_ble_eq_true hb⟩
  · cases hz

theorem okC_one {c : SC} {v : Value} (h : okC c = true) (d : DC g w c v) : v.oneCell' = true ∧ v.cells = #[v] := by
  cases c with
  | v x =>
    have : v = x := d
    subst this
    cases v <;> simp_all [okC, Value.oneCell', Value.cells]
  | own i off => obtain ⟨b, _, rfl⟩ := d; exact ⟨rfl, rfl⟩
  | sl ks xs tok => obtain ⟨a, n, c, rfl, _⟩ := d; exact ⟨rfl, rfl⟩
  | st xs => have d : v = .string (bstr xs) := d; subst d; exact ⟨rfl, rfl⟩
  | any => simp [okC] at h
theorem allC_cons (c : SC) (l : List SC) : allC (c :: l) = (match okC c with
  | true => allC l
  | false => false) := rfl
theorem allC_one : ∀ {l : List SC} {vs : List Value}, allC l = true → All2 (DC g w) l vs → ∀ v ∈ vs, v.oneCell' = true
  | [], [], _, _, v, hv => by cases hv
  | c :: l, x :: vs, h, d, v, hv => by
    rw [allC_cons] at h
    split at h
    · rename_i hc
      rcases List.mem_cons.1 hv with rfl | hv
      · exact (okC_one hc d.1).1
      · exact allC_one h d.2 v hv
    · cases h
theorem cellsO_ok {s : S} {l : List SC} {v : Value} (h : cellsO s = some l) (ha : allC l = true) (d : DS g w s v) : All2 (DC g w) l v.cells.toList := by
  unfold cellsO at h
  split at h <;> try (cases h; done)
  · rename_i c
    simp only [Option.some.injEq] at h; subst h
    have d : DC g w c v := d
    rw [allC_cons] at ha
    split at ha <;> try (cases ha; done)
    rename_i hc
    rw [(okC_one hc d).2]
    exact ⟨d, trivial⟩
  · simp only [Option.some.injEq] at h; subst h
    obtain ⟨vs, rfl, hl⟩ := d
    simpa [Value.cells] using hl
theorem zeroC_ok {t : TypeId} {z : List SC} (h : zeroC P t = some z) : ∃ i zv, P.info? t = some i ∧ i.zero = some zv ∧ z = cellsT (ofT zv) ∧ allC z = true := by
  unfold zeroC at h
  split at h <;> try (cases h; done)
  rename_i i hi
  split at h <;> try (cases h; done)
  rename_i zv hz
  split at h <;> try (cases h; done)
  rename_i ha
  simp only [Option.some.injEq] at h; subst h
  exact ⟨i, zv, hi, hz, rfl, ha⟩
theorem cellsT_zero (zv : Value) (ha : allC (cellsT (ofT zv)) = true) : All2 (DC g w) (cellsT (ofT zv)) zv.cells.toList := by
  refine cellsO_ok (s := .t (ofT zv)) ?_ ha (ofT_ok zv)
  cases ofT zv <;> rfl
end
end SY
end Go.Proofs.YtapjehgfekjdaaaDoor
