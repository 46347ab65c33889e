/- What an argument that can be read looks like, cell by cell. No condition. -/
import Derived.Test.YtegdbpbafdpkfaaSxJ
import Derived.OpenShut
import Derived.ChangeArms
import Derived.DataReads
namespace Go.Proofs.Ytegdbpbafdpkfaa
open Go.RowKit
namespace SX

inductive CK where
  | int (k : IntKind)
  | bool
  | slice (e : TypeId)

def shapeFs (P : Program) (g : TypeId → Option (List CK)) : List Field → Nat → Option (List CK)
  | [], _ => some []
  | f :: r, off => match !(Nat.beq f.offset off) with
    | true => none
    | false => match g f.type with
      | some ks => match Nat.beq (P.cellsOf f.type) ks.length with
        | true => match shapeFs P g r (off + ks.length) with
          | some rest => some (ks ++ rest)
          | none => none
        | false => none
      | none => none
def repsK (ks : List CK) : Nat → List CK
  | 0 => []
  | n + 1 => ks ++ repsK ks n
def shapeT (P : Program) : Nat → TypeId → Option (List CK)
  | 0, _ => none
  | d + 1, t =>
    match P.underlying t with
    | some .bool => some [.bool]
    | some (.int k) => some [.int k]
    | some (.slice e) => some [.slice e]
    | some (.struct fs) => match shapeFs P (shapeT P d) fs.toList 0 with
      | some ks => match Nat.beq (P.cellsOf t) ks.length with
        | true => some ks
        | false => none
      | none => none
    | some (.array n e) => match shapeT P d e with
      | some ks => match Nat.beq (P.cellsOf e) ks.length && Nat.beq (P.cellsOf t) (repsK ks n).length with
        | true => some (repsK ks n)
        | false => none
      | none => none
    | _ => none

section
variable {H : Type} {enc : TypeId × Value → H} {P : Program} {w : World} {base : Nat} {spare : Nat → Bool} {held : Bool}

def LeafOK (enc : TypeId × Value → H) (P : Program) (w : World) (base : Nat) (spare : Nat → Bool) (held : Bool) : CK → Value → Prop
  | .int k, v => ∃ n, v = .int k n ∧ (Lit.int k n).wf = true
  | .bool, v => ∃ b, v = .bool b
  | .slice e, v => ∃ a len cap, v = .slice a len cap ∧ len ≤ cap ∧ cap ≤ maxLen ∧
      ∀ i, i < len → ∃ (A : Addr) (cs : List Value) (fuel : Nat) (x : DataW H × List MemPlace), a = some A ∧ w.cells? base (A.add (i * P.cellsOf e)) (P.cellsOf e) = some cs ∧ DataW.trod enc P w base spare held fuel e cs = some x

theorem All2.cons_left {α β : Type} {R : α → β → Prop} {a : α} {l : List α} {m : List β} (h : All2 R (a :: l) m) : ∃ b r, m = b :: r ∧ R a b ∧ All2 R l r := by
  cases m with
  | nil => exact h.elim
  | cons b r => exact ⟨b, r, rfl, h.1, h.2⟩
theorem All2.nil_left {α β : Type} {R : α → β → Prop} {m : List β} (h : All2 R [] m) : m = [] := by
  cases m with
  | nil => rfl
  | cons _ _ => exact h.elim

theorem drop_split {α β : Type} {R : α → β → Prop} {ks ks' : List α} {l : List β} (h1 : All2 R ks (l.take ks.length)) (h2 : All2 R ks' (l.drop ks.length)) : All2 R (ks ++ ks') l := by
  have := h1.app h2
  rwa [List.take_append_drop] at this

theorem shape_ok : ∀ (d : Nat) (t : TypeId) (ks : List CK), shapeT P d t = some ks → ∀ (fuel : Nat) (cs : List Value) (x : DataW H × List MemPlace), DataW.trod enc P w base spare held fuel t cs = some x → All2 (LeafOK enc P w base spare held) ks cs := by
  intro d
  induction d with
  | zero => intro t ks h; simp [shapeT] at h
  | succ d ih =>
    intro t ks h fuel cs x hx
    unfold shapeT at h
    cases fuel with
    | zero => simp [DataW.trod] at hx
    | succ n =>
    cases hu : P.underlying t with
    | none => simp [hu] at h
    | some dd =>
      cases dd <;> simp only [hu] at h <;> try (cases h; done)
      case bool =>
        simp only [Option.some.injEq] at h; subst h
        unfold DataW.trod at hx
        simp only [hu] at hx
        split at hx <;> simp_all
        exact ⟨⟨_, rfl⟩, trivial⟩
      case int k =>
        simp only [Option.some.injEq] at h; subst h
        unfold DataW.trod at hx
        simp only [hu] at hx
        split at hx <;> simp_all
        obtain ⟨⟨h1, h2⟩, _⟩ := hx
        subst h1
        exact ⟨⟨_, rfl, h2⟩, trivial⟩
      case slice e =>
        simp only [Option.some.injEq] at h; subst h
        unfold DataW.trod at hx
        simp only [hu] at hx
        split at hx <;> try (simp_all; done)
        · rename_i h1
          refine ⟨⟨none, 0, 0, rfl, Nat.le_refl _, Nat.zero_le _, fun i hi => by omega⟩, trivial⟩
        · rename_i e' A len cap h1
          simp only [Option.some.injEq, TypeDesc.slice.injEq] at h1
          subst h1
          split at hx <;> try (cases hx; done)
          rename_i hc
          rw [Option.bind_eq_some_iff] at hx
          obtain ⟨elems, he, _⟩ := hx
          refine ⟨⟨some A, len, cap, rfl, hc.2.1, hc.2.2, fun i hi => ?_⟩, trivial⟩
          have hl := mapM_some_length he
          have := mapM_some_get he i i (by simp [hi])
          rw [List.getElem?_eq_getElem (by rw [hl]; simpa using hi), Option.bind_eq_some_iff] at this
          obtain ⟨cs', h1, h2⟩ := this
          exact ⟨A, cs', n, _, rfl, h1, h2⟩
      case struct fs =>
        split at h <;> try (cases h; done)
        rename_i ks' hks'
        split at h <;> try (cases h; done)
        rename_i hcells
        have hcells := Nat.eq_of_beq_eq_true hcells
        simp only [Option.some.injEq] at h
        subst h
        obtain ⟨xs, m, hm, _, hlen, hxl, hf⟩ := DataW.trod_struct hu hx
        have key : ∀ (fl : List Field) (off j : Nat) (ks : List CK), shapeFs P (shapeT P d) fl off = some ks → (∀ i f, fl[i]? = some f → fs[j + i]? = some f) → All2 (LeafOK enc P w base spare held) ks ((cs.drop off).take ks.length) := by
          intro fl
          induction fl with
          | nil =>
            intro off j ks hk _
            simp only [shapeFs, Option.some.injEq] at hk; subst hk
            simp only [List.length_nil, List.take_zero]
            exact trivial
          | cons f fl ihf =>
            intro off j ks hk hfl
            simp only [shapeFs] at hk
            split at hk <;> try (cases hk; done)
            rename_i ho
            simp only [Bool.not_eq_false'] at ho
            have ho := Nat.eq_of_beq_eq_true ho
            split at hk <;> try (cases hk; done)
            rename_i k1 hk1
            split at hk <;> try (cases hk; done)
            rename_i hc
            have hc := Nat.eq_of_beq_eq_true hc
            split at hk <;> try (cases hk; done)
            rename_i rest hrest
            simp only [Option.some.injEq] at hk; subst hk
            have hfj := hfl 0 f rfl
            simp only [Nat.add_zero] at hfj
            have hj : j < fs.size := (Array.getElem?_eq_some_iff.1 hfj).1
            have h1 := hf j f hfj
            rw [List.getElem?_eq_getElem (by omega)] at h1
            have a1 := ih f.type k1 hk1 m _ _ h1
            rw [ho, hc] at a1
            have a2 := ihf (off + k1.length) (j + 1) rest hrest fun i g hg => by
              have := hfl (i + 1) g (by simpa using hg)
              rwa [show j + (i + 1) = j + 1 + i from by omega] at this
            rw [List.length_append]
            refine drop_split ?_ ?_
            · rw [List.take_take, Nat.min_eq_left (by omega)]
              exact a1
            · rw [List.drop_take, List.drop_drop, Nat.add_sub_cancel_left]
              exact a2
        have h0 := key fs.toList 0 0 ks' hks' (fun i f hi => by simpa using hi)
        simp only [List.drop_zero] at h0
        rwa [List.take_of_length_le (by omega)] at h0
      case array len e =>
        split at h <;> try (cases h; done)
        rename_i k1 hk1
        split at h <;> try (cases h; done)
        rename_i hc
        simp only [Bool.and_eq_true] at hc
        have hc1 := Nat.eq_of_beq_eq_true hc.1
        have hc2 := Nat.eq_of_beq_eq_true hc.2
        simp only [Option.some.injEq] at h; subst h
        unfold DataW.trod at hx
        simp only [hu] at hx
        split at hx <;> try (cases hx; done)
        rename_i hlen
        rw [Option.map_eq_some_iff] at hx
        obtain ⟨xs, hm, _⟩ := hx
        have hl := mapM_some_length hm
        have key : ∀ (c j : Nat), j + c = len → All2 (LeafOK enc P w base spare held) (repsK k1 c) ((cs.drop (j * k1.length)).take (repsK k1 c).length) := by
          intro c
          induction c with
          | zero => intro j _; simp only [repsK, List.length_nil, List.take_zero]; exact trivial
          | succ c ihc =>
            intro j hj
            have hjl : j < len := by omega
            have hg := mapM_some_get hm j j (by rw [List.getElem?_range hjl])
            rw [List.getElem?_eq_getElem (by rw [hl]; simp; omega)] at hg
            have a1 := ih e k1 hk1 n _ _ hg
            rw [hc1] at a1
            have a2 := ihc (j + 1) (by omega)
            simp only [repsK, List.length_append]
            refine drop_split ?_ ?_
            · rw [List.take_take, Nat.min_eq_left (by omega)]
              exact a1
            · rw [List.drop_take, List.drop_drop, Nat.add_sub_cancel_left]
              rw [Nat.succ_mul] at a2
              exact a2
        have h0 := key len 0 (Nat.zero_add _)
        simp only [Nat.zero_mul, List.drop_zero] at h0
        rwa [List.take_of_length_le (by omega)] at h0
end

/-! ### What follows for rows of pairs, objects and frames -/
section
variable {H : Type} {enc : TypeId × Value → H} {P : Program} {W : World}

theorem isI_of {k : IntKind} {a : Addr} {n : Int} (h : W.cell? a = some (.int k n)) : IsI W k a := ⟨n, h⟩

theorem rd2_of {k : IntKind} {e : TypeId} {a : Option Addr} {len : Nat} (hs : shapeT P 20 e = some [.int k, .int .i64]) (hC : P.cellsOf e = 2) (hn : len ≤ 1000000)
    (h : ∀ i, i < len → ∃ (A : Addr) (cs : List Value) (fuel : Nat) (x : DataW H × List MemPlace), a = some A ∧ W.cells? 0 (A.add (i * P.cellsOf e)) (P.cellsOf e) = some cs ∧ DataW.trod enc P W 0 (fun _ => true) true fuel e cs = some x) : Rd2 W k a len := by
  have at_ : ∀ i, i < len → ∃ A, a = some A ∧ IsI W k (A.add (i * 2)) ∧ IsI W .i64 ((A.add (i * 2)).add 1) := by
    intro i hi
    obtain ⟨A, cs, fuel, x, ha, hc, ht⟩ := h i hi
    rw [hC] at hc
    have hsh := shape_ok 20 e _ hs fuel cs x ht
    obtain ⟨_, hl, hat⟩ := World.cells?_some hc
    obtain ⟨c0, cs, rfl, ⟨n0, rfl, _⟩, q0⟩ := hsh.cons_left
    obtain ⟨c1, cs, rfl, ⟨n1, rfl, _⟩, q1⟩ := q0.cons_left
    exact ⟨A, ha, isI_of (hat 0 (by omega)), isI_of (hat 1 (by omega))⟩
  have spot : 0 < len → (atO a).spot = none := by
    intro h0
    obtain ⟨A, ha, h1, _⟩ := at_ 0 h0
    subst ha
    obtain ⟨n, hn⟩ := h1.is
    simp only [Nat.zero_mul] at hn
    have hn : W.cell? A = some (.int k n) := hn
    simp only [World.cell?] at hn
    split at hn
    · split at hn
      · cases hn
      · rename_i hsp
        show A.spot = none
        simpa using hsp
    · cases hn
  refine ⟨hn, spot, fun i hi => ?_⟩
  obtain ⟨A, ha, h1, h2⟩ := at_ i hi
  have hsp := spot (by omega)
  subst ha
  refine ⟨rfl, h1, ?_⟩
  rw [← add_add _ _ _ hsp]
  exact h2

theorem obj_shape {t ew ec : TypeId} {v : Value} {d : DataW H} {p : List MemPlace} (hag : ∃ cs, v = .agg cs)
    (hs : shapeT P 20 t = some [.int .i64, .int .i64, .int .i64, .int .i64, .int .i64, .int .i64, .int .i64, .int .u32, .int .u32, .slice ew, .slice ec])
    (hw : shapeT P 20 ew = some [.int .u32, .int .i64]) (hcw : P.cellsOf ew = 2) (hc : shapeT P 20 ec = some [.int .i64, .int .i64]) (hcc : P.cellsOf ec = 2)
    (h : DataW.Trod enc P W 0 (fun _ => true) true t v d p) : ∃ x w, v = objV x w ∧ WB w ∧ (x.nn ≤ 20 → x.ll ≤ 20 → XOK W x) := by
  obtain ⟨cs, rfl⟩ := hag
  obtain ⟨fuel, hf⟩ := h
  have hsh := shape_ok 20 t _ hs fuel _ _ hf
  obtain ⟨l⟩ := cs
  simp only [Value.cells] at hsh
  obtain ⟨_, l, rfl, ⟨k, rfl, _⟩, q0⟩ := hsh.cons_left
  obtain ⟨_, l, rfl, ⟨w0, rfl, e0⟩, q1⟩ := q0.cons_left
  obtain ⟨_, l, rfl, ⟨w1, rfl, e1⟩, q2⟩ := q1.cons_left
  obtain ⟨_, l, rfl, ⟨w2, rfl, e2⟩, q3⟩ := q2.cons_left
  obtain ⟨_, l, rfl, ⟨w3, rfl, e3⟩, q4⟩ := q3.cons_left
  obtain ⟨_, l, rfl, ⟨w4, rfl, e4⟩, q5⟩ := q4.cons_left
  obtain ⟨_, l, rfl, ⟨w5, rfl, e5⟩, q6⟩ := q5.cons_left
  obtain ⟨_, l, rfl, ⟨n0, rfl, _⟩, q7⟩ := q6.cons_left
  obtain ⟨_, l, rfl, ⟨n1, rfl, _⟩, q8⟩ := q7.cons_left
  obtain ⟨_, l, rfl, ⟨na, nn, nc, rfl, _, _, hna⟩, q9⟩ := q8.cons_left
  obtain ⟨_, l, rfl, ⟨la, ll, lc, rfl, _, _, hla⟩, q10⟩ := q9.cons_left
  obtain rfl := q10.nil_left
  exact ⟨⟨k, n0, n1, na, nn, nc, la, ll, lc⟩, ⟨w0, w1, w2, w3, w4, w5⟩, rfl, ⟨bounds_i64 e0, bounds_i64 e1, bounds_i64 e2, bounds_i64 e3, bounds_i64 e4, bounds_i64 e5⟩, fun h1 h2 => ⟨rd2_of hw hcw (by dsimp only at h1 ⊢; omega) hna, rd2_of hc hcc (by dsimp only at h2 ⊢; omega) hla⟩⟩

theorem frame_shape {t : TypeId} {v : Value} {d : DataW H} {p : List MemPlace} (hag : ∃ cs, v = .agg cs)
    (hs : shapeT P 20 t = some [.int .i64, .int .i64, .int .i64, .int .i64, .int .i64, .int .i64, .bool, .bool, .int .i64, .bool])
    (h : DataW.Trod enc P W 0 (fun _ => true) true t v d p) : ∃ f, v = frV f ∧ FB f := by
  obtain ⟨cs, rfl⟩ := hag
  obtain ⟨fuel, hf⟩ := h
  have hsh := shape_ok 20 t _ hs fuel _ _ hf
  obtain ⟨l⟩ := cs
  simp only [Value.cells] at hsh
  obtain ⟨_, l, rfl, ⟨a, rfl, ea⟩, q0⟩ := hsh.cons_left
  obtain ⟨_, l, rfl, ⟨b, rfl, eb⟩, q1⟩ := q0.cons_left
  obtain ⟨_, l, rfl, ⟨c, rfl, ec⟩, q2⟩ := q1.cons_left
  obtain ⟨_, l, rfl, ⟨d, rfl, ed⟩, q3⟩ := q2.cons_left
  obtain ⟨_, l, rfl, ⟨e, rfl, ee⟩, q4⟩ := q3.cons_left
  obtain ⟨_, l, rfl, ⟨f, rfl, ef⟩, q5⟩ := q4.cons_left
  obtain ⟨_, l, rfl, ⟨g, rfl⟩, q6⟩ := q5.cons_left
  obtain ⟨_, l, rfl, ⟨h, rfl⟩, q7⟩ := q6.cons_left
  obtain ⟨_, l, rfl, ⟨i, rfl, ei⟩, q8⟩ := q7.cons_left
  obtain ⟨_, l, rfl, ⟨j, rfl⟩, q9⟩ := q8.cons_left
  obtain rfl := q9.nil_left
  exact ⟨⟨a, b, c, d, e, f, g, h, i, j⟩, rfl, bounds_i64 ea, bounds_i64 eb, bounds_i64 ec, bounds_i64 ed, bounds_i64 ee, bounds_i64 ef, bounds_i64 ei⟩

theorem two_shape {t : TypeId} {v : Value} {d : DataW H} {p : List MemPlace} (hag : ∃ cs, v = .agg cs)
    (hs : shapeT P 20 t = some [.int .i64, .int .i64])
    (h : DataW.Trod enc P W 0 (fun _ => true) true t v d p) : ∃ a b, v = .agg #[.int .i64 a, .int .i64 b] ∧ R64 a ∧ R64 b := by
  obtain ⟨cs, rfl⟩ := hag
  obtain ⟨fuel, hf⟩ := h
  have hsh := shape_ok 20 t _ hs fuel _ _ hf
  obtain ⟨l⟩ := cs
  simp only [Value.cells] at hsh
  obtain ⟨_, l, rfl, ⟨a, rfl, ea⟩, q0⟩ := hsh.cons_left
  obtain ⟨_, l, rfl, ⟨b, rfl, eb⟩, q1⟩ := q0.cons_left
  obtain rfl := q1.nil_left
  exact ⟨a, b, rfl, bounds_i64 ea, bounds_i64 eb⟩

theorem okWide_array {t e : TypeId} {n : Nat} {r : Reach} {base : Nat} {v : Value} (ht : P.underlying t = some (.array n e)) (h : Value.okWide P W r base t v) : ∃ cs, v = .agg cs := by
  simp only [Value.okWide, ht] at h
  obtain ⟨cs, h1, _⟩ := h
  exact ⟨cs, h1⟩
end
end SX
end Go.Proofs.Ytegdbpbafdpkfaa
