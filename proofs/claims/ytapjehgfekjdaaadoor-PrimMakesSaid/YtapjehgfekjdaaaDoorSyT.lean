/- What an argument that can be read looks like, cell by cell; slices by what they hold. No condition. -/
import Derived.Test.YtapjehgfekjdaaaDoorSyS
import Derived.OpenShut
import Derived.ChangeArms
import Derived.DataReads
namespace Go.Proofs.YtapjehgfekjdaaaDoor
open Go.RowKit
namespace SY

inductive AK where
  | int (k : IntKind)
  | bool
  | slice (e : TypeId)

def shapeFs (P : Program) (g : TypeId → Option (List AK)) : List Field → Nat → Option (List AK)
  | [], _ => some []
  | f :: r, off => match !(Nat.beq f.offset off) with
    | true => none
    | false => match g f.type with
      | some ks => match Nat.beq (P.cellsOf f.type) ks.length with
        | true => match shapeFs P g r (off + ks.length) with
          | some rest => some (ks ++ rest)
          | none => none
        | false => none
      | none => none
def repsK (ks : List AK) : Nat → List AK
  | 0 => []
  | n + 1 => ks ++ repsK ks n
def shapeT (P : Program) : Nat → TypeId → Option (List AK)
  | 0, _ => none
  | d + 1, t =>
    match P.underlying t with
    | some .bool => some [.bool]
    | some (.int k) => some [.int k]
    | some (.slice e) => some [.slice e]
    | some (.struct fs) => match shapeFs P (shapeT P d) fs.toList 0 with
      | some ks => match Nat.beq (P.cellsOf t) ks.length with
        | true => some ks
        | false => none
      | none => none
    | some (.array n e) => match shapeT P d e with
      | some ks => match Nat.beq (P.cellsOf e) ks.length && Nat.beq (P.cellsOf t) (repsK ks n).length with
        | true => some (repsK ks n)
        | false => none
      | none => none
    | _ => none

section
variable {H : Type} {enc : TypeId × Value → H} {P : Program} {w : World} {base : Nat} {spare : Nat → Bool} {held : Bool}

def LeafOK (enc : TypeId × Value → H) (P : Program) (w : World) (base : Nat) (spare : Nat → Bool) (held : Bool) : AK → Value → Prop
  | .int k, v => ∃ n, v = .int k n ∧ (Lit.int k n).wf = true
  | .bool, v => ∃ b, v = .bool b
  | .slice e, v => ∃ a len cap, v = .slice a len cap ∧ len ≤ cap ∧ cap ≤ maxLen ∧ (a = none → len = 0 ∧ cap = 0) ∧
      ∀ i, i < len → ∃ (A : Addr) (cs : List Value) (fuel : Nat) (x : DataW H × List MemPlace), a = some A ∧ w.cells? base (A.add (i * P.cellsOf e)) (P.cellsOf e) = some cs ∧ DataW.trod enc P w base spare held fuel e cs = some x

theorem drop_split {α β : Type} {R : α → β → Prop} {ks ks' : List α} {l : List β} (h1 : All2 R ks (l.take ks.length)) (h2 : All2 R ks' (l.drop ks.length)) : All2 R (ks ++ ks') l := by
  have := h1.app h2
  rwa [List.take_append_drop] at this

theorem shape_ok : ∀ (d : Nat) (t : TypeId) (ks : List AK), shapeT P d t = some ks → ∀ (fuel : Nat) (cs : List Value) (x : DataW H × List MemPlace), DataW.trod enc P w base spare held fuel t cs = some x → All2 (LeafOK enc P w base spare held) ks cs := by
  intro d
  induction d with
  | zero => intro t ks h; simp [shapeT] at h
  | succ d ih =>
    intro t ks h fuel cs x hx
    unfold shapeT at h
    cases fuel with
    | zero => simp [DataW.trod] at hx
    | succ n =>
    cases hu : P.underlying t with
    | none => simp [hu] at h
    | some dd =>
      cases dd <;> simp only [hu] at h <;> try (cases h; done)
      case bool =>
        simp only [Option.some.injEq] at h; subst h
        unfold DataW.trod at hx
        simp only [hu] at hx
        split at hx <;> simp_all
        exact ⟨⟨_, rfl⟩, trivial⟩
      case int k =>
        simp only [Option.some.injEq] at h; subst h
        unfold DataW.trod at hx
        simp only [hu] at hx
        split at hx <;> simp_all
        obtain ⟨⟨h1, h2⟩, _⟩ := hx
        subst h1
        exact ⟨⟨_, rfl, h2⟩, trivial⟩
      case slice e =>
        simp only [Option.some.injEq] at h; subst h
        unfold DataW.trod at hx
        simp only [hu] at hx
        split at hx <;> try (simp_all; done)
        · rename_i h1
          refine ⟨⟨none, 0, 0, rfl, Nat.le_refl _, Nat.zero_le _, fun _ => ⟨rfl, rfl⟩, fun i hi => by omega⟩, trivial⟩
        · rename_i e' A len cap h1
          simp only [Option.some.injEq, TypeDesc.slice.injEq] at h1
          subst h1
          split at hx <;> try (cases hx; done)
          rename_i hc
          rw [Option.bind_eq_some_iff] at hx
          obtain ⟨elems, he, _⟩ := hx
          refine ⟨⟨some A, len, cap, rfl, hc.2.1, hc.2.2, fun h => (by cases h), fun i hi => ?_⟩, trivial⟩
          have hl := mapM_some_length he
          have := mapM_some_get he i i (by simp [hi])
          rw [List.getElem?_eq_getElem (by rw [hl]; simpa using hi), Option.bind_eq_some_iff] at this
          obtain ⟨cs', h1, h2⟩ := this
          exact ⟨A, cs', n, _, rfl, h1, h2⟩
      case struct fs =>
        split at h <;> try (cases h; done)
        rename_i ks' hks'
        split at h <;> try (cases h; done)
        rename_i hcells
        have hcells := Nat.eq_of_beq_eq_true hcells
        simp only [Option.some.injEq] at h
        subst h
        obtain ⟨xs, m, hm, _, hlen, hxl, hf⟩ := DataW.trod_struct hu hx
        have key : ∀ (fl : List Field) (off j : Nat) (ks : List AK), shapeFs P (shapeT P d) fl off = some ks → (∀ i f, fl[i]? = some f → fs[j + i]? = some f) → All2 (LeafOK enc P w base spare held) ks ((cs.drop off).take ks.length) := by
          intro fl
          induction fl with
          | nil =>
            intro off j ks hk _
            simp only [shapeFs, Option.some.injEq] at hk; subst hk
            simp only [List.length_nil, List.take_zero]
            exact trivial
          | cons f fl ihf =>
            intro off j ks hk hfl
            simp only [shapeFs] at hk
            split at hk <;> try (cases hk; done)
            rename_i ho
            simp only [Bool.not_eq_false'] at ho
            have ho := Nat.eq_of_beq_eq_true ho
            split at hk <;> try (cases hk; done)
            rename_i k1 hk1
            split at hk <;> try (cases hk; done)
            rename_i hc
            have hc := Nat.eq_of_beq_eq_true hc
            split at hk <;> try (cases hk; done)
            rename_i rest hrest
            simp only [Option.some.injEq] at hk; subst hk
            have hfj := hfl 0 f rfl
            simp only [Nat.add_zero] at hfj
            have hj : j < fs.size := (Array.getElem?_eq_some_iff.1 hfj).1
            have h1 := hf j f hfj
            rw [List.getElem?_eq_getElem (by omega)] at h1
            have a1 := ih f.type k1 hk1 m _ _ h1
            rw [ho, hc] at a1
            have a2 := ihf (off + k1.length) (j + 1) rest hrest fun i g hg => by
              have := hfl (i + 1) g (by simpa using hg)
              rwa [show j + (i + 1) = j + 1 + i from by omega] at this
            rw [List.length_append]
            refine drop_split ?_ ?_
            · rw [List.take_take, Nat.min_eq_left (by omega)]
              exact a1
            · rw [List.drop_take, List.drop_drop, Nat.add_sub_cancel_left]
              exact a2
        have h0 := key fs.toList 0 0 ks' hks' (fun i f hi => by simpa using hi)
        simp only [List.drop_zero] at h0
        rwa [List.take_of_length_le (by omega)] at h0
      case array len e =>
        split at h <;> try (cases h; done)
        rename_i k1 hk1
        split at h <;> try (cases h; done)
        rename_i hc
        simp only [Bool.and_eq_true] at hc
        have hc1 := Nat.eq_of_beq_eq_true hc.1
        have hc2 := Nat.eq_of_beq_eq_true hc.2
        simp only [Option.some.injEq] at h; subst h
        unfold DataW.trod at hx
        simp only [hu] at hx
        split at hx <;> try (cases hx; done)
        rename_i hlen
        rw [Option.map_eq_some_iff] at hx
        obtain ⟨xs, hm, _⟩ := hx
        have hl := mapM_some_length hm
        have key : ∀ (c j : Nat), j + c = len → All2 (LeafOK enc P w base spare held) (repsK k1 c) ((cs.drop (j * k1.length)).take (repsK k1 c).length) := by
          intro c
          induction c with
          | zero => intro j _; simp only [repsK, List.length_nil, List.take_zero]; exact trivial
          | succ c ihc =>
            intro j hj
            have hjl : j < len := by omega
            have hg := mapM_some_get hm j j (by rw [List.getElem?_range hjl])
            rw [List.getElem?_eq_getElem (by rw [hl]; simp; omega)] at hg
            have a1 := ih e k1 hk1 n _ _ hg
            rw [hc1] at a1
            have a2 := ihc (j + 1) (by omega)
            simp only [repsK, List.length_append]
            refine drop_split ?_ ?_
            · rw [List.take_take, Nat.min_eq_left (by omega)]
              exact a1
            · rw [List.drop_take, List.drop_drop, Nat.add_sub_cancel_left]
              rw [Nat.succ_mul] at a2
              exact a2
        have h0 := key len 0 (Nat.zero_add _)
        simp only [Nat.zero_mul, List.drop_zero] at h0
        rwa [List.take_of_length_le (by omega)] at h0
end

/-! ### Slices by what they hold -/

def ofCK : CK → AK
  | .int k => .int k
  | .bool => .bool
def inK : CK → Int → Prop
  | .int k, x => (Lit.int k x).wf = true
  | .bool, x => x = 0 ∨ x = 1
def InR (ks : List CK) (xs : List Int) : Prop := ∀ j x, xs[j]? = some x → inK (kAt ks j) x

def g0 : G := ⟨fun _ => none, fun _ => none, fun _ => none, fun _ _ => False⟩
theorem g0_lim {b f : Nat} (h : Lim g0 b f) : False := by
  rcases h with ⟨_, k, hk⟩ | ⟨k, hk⟩ | hp
  · cases hk
  · cases hk
  · exact hp
theorem g0_bound (w : World) : Bound g0 w := fun _ _ h => (g0_lim h).elim

section
variable {H : Type} {enc : TypeId × Value → H} {P : Program} {W : World}

theorem leaf_cell {ck : CK} {v : Value} (h : LeafOK enc P W 0 (fun _ => true) true (ofCK ck) v) : ∃ x, v = rdV ck x ∧ inK ck x := by
  cases ck with
  | int k => obtain ⟨n, h1, h2⟩ := h; exact ⟨n, h1, h2⟩
  | bool =>
    obtain ⟨b, rfl⟩ := h
    cases b
    · exact ⟨0, rfl, .inl rfl⟩
    · exact ⟨1, rfl, .inr rfl⟩

theorem cells_of {ks : List CK} {vs : List Value} (h : All2 (LeafOK enc P W 0 (fun _ => true) true) (ks.map ofCK) vs) : ∃ ys : List Int, ys.length = ks.length ∧ vs.length = ks.length ∧ ∀ (j : Nat) k, ks[j]? = some k → ∃ y, ys[j]? = some y ∧ vs[j]? = some (rdV k y) ∧ inK k y := by
  induction ks generalizing vs with
  | nil =>
    have h : All2 (LeafOK enc P W 0 (fun _ => true) true) [] vs := h
    rw [h.nil_left]; exact ⟨[], rfl, rfl, fun j k hk => by simp at hk⟩
  | cons k ks ih =>
    have h : All2 (LeafOK enc P W 0 (fun _ => true) true) (ofCK k :: ks.map ofCK) vs := h
    obtain ⟨v, vs, rfl, h1, h2⟩ := h.cons_left
    obtain ⟨x, rfl, hx⟩ := leaf_cell h1
    obtain ⟨ys, e1, e2, e3⟩ := ih h2
    refine ⟨x :: ys, by simp [e1], by simp [e2], fun j k' hk => ?_⟩
    cases j with
    | zero => simp at hk; subst hk; exact ⟨x, rfl, rfl, hx⟩
    | succ j => simpa using e3 j k' (by simpa using hk)

theorem leaf_slice {e : TypeId} {ks : List CK} {v : Value} (hk : 0 < ks.length) (hs : shapeT P 20 e = some (ks.map ofCK)) (hc : P.cellsOf e = ks.length) (h : LeafOK enc P W 0 (fun _ => true) true (.slice e) v) :
    ∃ xs, SlD g0 W ks xs none v ∧ InR ks xs := by
  obtain ⟨a, len, cap, rfl, h1, h2, h3, h4⟩ := h
  have rows : ∀ i, i < len → ∃ (A : Addr) (ys : List Int), a = some A ∧ ys.length = ks.length ∧ ∀ j k, ks[j]? = some k → ∃ y, ys[j]? = some y ∧ W.cell? ((A.add (i * ks.length)).add j) = some (rdV k y) ∧ inK k y := by
    intro i hi
    obtain ⟨A, cs, fuel, x, ha, hcs, ht⟩ := h4 i hi
    rw [hc] at hcs
    have hsh := shape_ok 20 e _ hs fuel cs x ht
    obtain ⟨_, hl, hat⟩ := World.cells?_some hcs
    obtain ⟨ys, e1, e2, e3⟩ := cells_of hsh
    refine ⟨A, ys, ha, e1, fun j k hjk => ?_⟩
    obtain ⟨y, q1, q2, q3⟩ := e3 j k hjk
    have hj : j < ks.length := by
      rcases Nat.lt_or_ge j ks.length with h | h
      · exact h
      · rw [List.getElem?_eq_none h] at hjk; cases hjk
    exact ⟨y, q1, by rw [hat j hj]; exact q2, q3⟩
  -- all of them, one behind the other
  have all : ∀ n, n ≤ len → ∃ xs : List Int, xs.length = n * ks.length ∧ ∀ (j : Nat) x, xs[j]? = some x → inK (kAt ks j) x ∧ ∃ A, a = some A ∧ W.cell? ((A.add (j / ks.length * ks.length)).add (j % ks.length)) = some (rdV (kAt ks j) x) := by
    intro n
    induction n with
    | zero => intro _; exact ⟨[], by simp, fun j x hx => by simp at hx⟩
    | succ n ih =>
      intro hn
      obtain ⟨xs, e1, e2⟩ := ih (by omega)
      obtain ⟨A, ys, ha, f1, f2⟩ := rows n (by omega)
      refine ⟨xs ++ ys, by rw [List.length_append, e1, f1, Nat.succ_mul], fun j x hx => ?_⟩
      rw [List.getElem?_append] at hx
      split at hx
      · exact e2 j x hx
      · rename_i hj
        have hlt : j - xs.length < ks.length := by
          rcases Nat.lt_or_ge (j - xs.length) ks.length with h | h
          · exact h
          · rw [List.getElem?_eq_none (by omega)] at hx; cases hx
        obtain ⟨y, q1, q2, q3⟩ := f2 (j - xs.length) _ (List.getElem?_eq_getElem hlt)
        rw [q1] at hx
        simp only [Option.some.injEq] at hx
        subst hx
        have hj1 : j = n * ks.length + (j - xs.length) := by omega
        have hd : j / ks.length = n := by
          have e : j = ks.length * n + (j - xs.length) := by rw [Nat.mul_comm]; exact hj1
          generalize j - xs.length = dd at e hlt
          subst e
          rw [Nat.mul_add_div hk, Nat.div_eq_of_lt hlt]; simp
        have hmd : j % ks.length = j - xs.length := by
          have e : j = ks.length * n + (j - xs.length) := by rw [Nat.mul_comm]; exact hj1
          generalize j - xs.length = dd at e hlt
          subst e
          rw [Nat.mul_add_mod, Nat.mod_eq_of_lt hlt]
        have hkat : kAt ks j = ks[j - xs.length] := by
          unfold kAt
          rw [hmd, List.getElem?_eq_getElem hlt]
        rw [hkat, hd, hmd]
        exact ⟨q3, A, ha, q2⟩
  obtain ⟨xs, e1, e2⟩ := all len (Nat.le_refl _)
  refine ⟨xs, ⟨a, len, cap, rfl, h1, h2, hk, e1, h3, fun A hA => ?_, trivial⟩, fun j x hx => (e2 j x hx).1⟩
  have hcell : ∀ j x, xs[j]? = some x → W.cell? ((A.add (j / ks.length * ks.length)).add (j % ks.length)) = some (rdV (kAt ks j) x) := by
    intro j x hx
    obtain ⟨_, B, hB, h⟩ := e2 j x hx
    rw [hA] at hB; cases hB; exact h
  have hspot : 0 < xs.length → A.spot = none ∧ A.block < W.heap.size := by
    intro h0
    have := hcell 0 _ (List.getElem?_eq_getElem h0)
    have hb := World.block_lt_of_cell? W _ this
    rw [add_block, add_block] at hb
    refine ⟨?_, hb⟩
    simp only [World.cell?] at this
    split at this <;> try (cases this; done)
    split at this <;> try (cases this; done)
    rename_i hsp
    have : ((A.add (0 / ks.length * ks.length)).add (0 % ks.length)).spot = none := by simpa using hsp
    obtain ⟨b, o, s⟩ := A
    cases s with
    | none => rfl
    | some q =>
      exfalso
      revert this
      simp only [Nat.zero_div, Nat.zero_mul, Nat.zero_mod]
      unfold Addr.add
      (repeat' split) <;> simp_all
  refine ⟨fun h0 => ⟨(hspot h0).1, (hspot h0).2, fun f hf => (g0_lim hf).elim⟩, fun j u hu => ?_⟩
  rw [encV_get] at hu
  cases hx : xs[j]? with
  | none => rw [hx] at hu; cases hu
  | some x =>
    rw [hx] at hu
    simp only [Option.map_some, Option.some.injEq] at hu
    subst hu
    have h0 : 0 < xs.length := by
      rcases Nat.eq_zero_or_pos xs.length with h | h
      · rw [List.getElem?_eq_none (by omega)] at hx; cases hx
      · exact h
    have := hcell j x hx
    rw [add_add' (hspot h0).1, Nat.mul_comm, Nat.div_add_mod] at this
    exact this

theorem trod_leafs {t : TypeId} {ks : List AK} {v : Value} {d : DataW H} {p : List MemPlace} (hs : shapeT P 20 t = some ks) (h : DataW.Trod enc P W 0 (fun _ => true) true t v d p) : All2 (LeafOK enc P W 0 (fun _ => true) true) ks v.cells.toList := by
  obtain ⟨fuel, hf⟩ := h
  exact shape_ok 20 t _ hs fuel _ _ hf
theorem okWide_array {t e : TypeId} {n base : Nat} {r : Reach} {v : Value} (ht : P.underlying t = some (.array n e)) (h : Value.okWide P W r base t v) : ∃ cs, v = .agg cs ∧ cs.size = P.cellsOf t := by
  unfold Value.okWide at h
  rw [ht] at h
  obtain ⟨cs, h1, h2, _⟩ := h
  exact ⟨cs, h1, h2⟩
end

end SY
end Go.Proofs.YtapjehgfekjdaaaDoor
