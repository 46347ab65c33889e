/- The symbolic executor's equality of structs and arrays; flat cells. No condition. -/
import Derived.Test.YtapjehgfekjdaaaDoorSyD
import Derived.ChangeKeysEq
namespace Go.Proofs.YtapjehgfekjdaaaDoor
open Go.RowKit
namespace SY
section
variable {P : Program} {g : G} {w0 : World}

theorem szT_eq {t : TypeId} {n : Nat} (h : szT P t = some n) : ∃ i, P.info? t = some i ∧ i.size = n := by
  unfold szT at h
  split at h
  · rename_i i hi; simp only [Option.some.injEq] at h; exact ⟨i, hi, h⟩
  · cases h
theorem run_size {t : TypeId} {n : Nat} (h : szT P t = some n) (w : World) : (sizeOf t).run P w = .ok n w := by
  obtain ⟨i, hi, rfl⟩ := szT_eq h
  simp [sizeOf, typeInfo, hi]
theorem run_agg {t : TypeId} {b : Bool} (h : aggT P t = some b) (w : World) : (isAgg t).run P w = .ok b w := by
  unfold aggT at h
  cases hu : P.underlying t with
  | none => simp [hu] at h
  | some d =>
    simp only [hu] at h
    cases d <;> simp only [Option.some.injEq] at h <;> subst h <;> simp [isAgg, run_underlying hu]

theorem toArray_get (l : List Value) (i : Nat) : l.toArray[i]? = l[i]? := by simp

theorem run_part_agg {t : TypeId} {n off : Nat} {vs : List Value} (ha : aggT P t = some true) (hn : szT P t = some n) (w : World) :
    (part t vs.toArray off).run P w = .ok (.agg ((vs.drop off).take n).toArray) w := by
  simp only [part, Sem.run_bind, run_agg ha, Result.andThen_ok, if_true, run_size hn, Sem.run_pure]
  congr 2
  apply Array.ext'
  simp [List.extract_eq_take_drop]
theorem run_part_one {t : TypeId} {off : Nat} {vs : List Value} {v : Value} (ha : aggT P t = some false) (hv : vs[off]? = some v) (w : World) :
    (part t vs.toArray off).run P w = .ok v w := by
  simp only [part, Sem.run_bind, run_agg ha, Result.andThen_ok, Bool.false_eq_true, if_false, toArray_get, hv, Sem.run_pure]

/-! Equality -/
theorem eqC_nil (l m : List SC) : eqC [] l m = (match l, m with
  | [], [] => some true
  | _, _ => none) := rfl
theorem eqC_cons (k : CK) (ks : List CK) (l m : List SC) : eqC (k :: ks) l m = (match k, l, m with
  | .int _, .v (.int k a) :: l, .v (.int k' b) :: m => match kEq k k' with
    | true => match eqC ks l m with
      | some r => some (decide (a = b) && r)
      | none => none
    | false => none
  | .bool, .v (.bool a) :: l, .v (.bool b) :: m => match eqC ks l m with
    | some r => some ((a == b) && r)
    | none => none
  | _, _, _ => none) := rfl
theorem eqC_nil_eq {l m : List SC} {b : Bool} (h : eqC [] l m = some b) : l = [] ∧ m = [] ∧ b = true := by
  rw [eqC_nil] at h
  split at h
  · simp only [Option.some.injEq] at h; exact ⟨rfl, rfl, h.symm⟩
  · cases h
/-- One cell of two rows held equal. -/
theorem eqC_cons_eq {k : CK} {ks : List CK} {l m : List SC} {b : Bool} (h : eqC (k :: ks) l m = some b) :
    (∃ q q' a a' l' m' r, k = .int q ∧ l = .v (.int q' a) :: l' ∧ m = .v (.int q' a') :: m' ∧ eqC ks l' m' = some r ∧ b = (decide (a = a') && r)) ∨
    (∃ a a' l' m' r, k = .bool ∧ l = .v (.bool a) :: l' ∧ m = .v (.bool a') :: m' ∧ eqC ks l' m' = some r ∧ b = ((a == a') && r)) := by
  rw [eqC_cons] at h
  split at h
  · rename_i q k1 a l' k2 a' m'
    split at h
    · rename_i hk
      have hk : k1 = k2 := of_decide_eq_true hk
      subst hk
      split at h
      · rename_i r hr
        simp only [Option.some.injEq] at h
        exact .inl ⟨_, _, _, _, _, _, _, rfl, rfl, rfl, hr, h.symm⟩
      · cases h
    · cases h
  · split at h
    · rename_i r hr
      simp only [Option.some.injEq] at h
      exact .inr ⟨_, _, _, _, _, rfl, rfl, rfl, hr, h.symm⟩
    · cases h
  · cases h
theorem eqC_len : ∀ {ks : List CK} {l m : List SC} {b : Bool}, eqC ks l m = some b → l.length = ks.length ∧ m.length = ks.length := by
  intro ks
  induction ks with
  | nil => intro l m b h; obtain ⟨rfl, rfl, _⟩ := eqC_nil_eq h; exact ⟨rfl, rfl⟩
  | cons k ks ih =>
    intro l m b h
    rcases eqC_cons_eq h with ⟨q, q', a, a', l', m', r, rfl, rfl, rfl, hr, rfl⟩ | ⟨a, a', l', m', r, rfl, rfl, rfl, hr, rfl⟩
    all_goals
      have := ih hr
      simp [this.1, this.2]
theorem eqC_mk_int {q q' : IntKind} {ks : List CK} {a a' : Int} {l m : List SC} {r : Bool} (h : eqC ks l m = some r) : eqC (.int q :: ks) (.v (.int q' a) :: l) (.v (.int q' a') :: m) = some (decide (a = a') && r) := by
  rw [eqC_cons]; simp [kEq, h]
theorem eqC_mk_bool {ks : List CK} {a a' : Bool} {l m : List SC} {r : Bool} (h : eqC ks l m = some r) : eqC (.bool :: ks) (.v (.bool a) :: l) (.v (.bool a') :: m) = some ((a == a') && r) := by
  rw [eqC_cons]; simp [h]

theorem eqC_app : ∀ {ks ks' : List CK} {l m : List SC} {b : Bool}, eqC (ks ++ ks') l m = some b →
    ∃ x y, eqC ks (l.take ks.length) (m.take ks.length) = some x ∧ eqC ks' (l.drop ks.length) (m.drop ks.length) = some y ∧ b = (x && y) := by
  intro ks
  induction ks with
  | nil => intro ks' l m b h; exact ⟨true, b, by simp [eqC_nil], by simpa using h, by simp⟩
  | cons k ks ih =>
    intro ks' l m b h
    rcases eqC_cons_eq h with ⟨q, q', a, a', l', m', r, rfl, rfl, rfl, hr, rfl⟩ | ⟨a, a', l', m', r, rfl, rfl, rfl, hr, rfl⟩
    · obtain ⟨x, y, hx, hy, rfl⟩ := ih hr
      exact ⟨decide (a = a') && x, y, eqC_mk_int hx, by simpa using hy, by rw [Bool.and_assoc]⟩
    · obtain ⟨x, y, hx, hy, rfl⟩ := ih hr
      exact ⟨(a == a') && x, y, eqC_mk_bool hx, by simpa using hy, by rw [Bool.and_assoc]⟩

/-- What a value of type t is, made of its cells. -/
def Made (P : Program) (t : TypeId) (vs : List Value) (v : Value) : Prop :=
  (aggT P t = some true ∧ v = .agg vs.toArray) ∨ (aggT P t = some false ∧ vs = [v])

def eqArr (d : Nat) (e : TypeId) (n : Nat) (xs ys : Array Value) : List Nat → Sem Bool
  | [] => pure true
  | i :: r => do
    let a ← part e xs (i * n)
    let b ← part e ys (i * n)
    let q ← Op.equalIn d e a b
    if (!q) = true then pure false else eqArr d e n xs ys r

theorem run_equalIn_array (w : World) (d : Nat) (t e : TypeId) (len n : Nat) (xs ys : Array Value) (ht : P.underlying t = some (.array len e)) (hn : szT P e = some n) :
    (Op.equalIn (d + 1) t (.agg xs) (.agg ys)).run P w = (eqArr d e n xs ys (List.range' 0 len)).run P w := by
  simp only [Op.equalIn, Sem.run_bind, run_underlying ht, Result.andThen_ok, run_size hn, Std.Legacy.Range.forIn_eq_forIn_range', Std.Legacy.Range.size, Nat.sub_zero, Nat.add_sub_cancel, Nat.div_one]
  generalize List.range' 0 len = is
  induction is generalizing w with
  | nil => simp [eqArr]
  | cons i is ih =>
    simp only [List.forIn_cons, eqArr, Sem.run_bind, Sem.run_ite]
    generalize (part e xs (i * n)).run P w = r1
    cases r1 with
    | ok a w1 =>
      simp only [Result.andThen_ok]
      generalize (part e ys (i * n)).run P w1 = r2
      cases r2 with
      | ok b w2 =>
        simp only [Result.andThen_ok]
        generalize (Op.equalIn d e a b).run P w2 = r3
        cases r3 with
        | ok r w3 =>
          cases r
          · simp only [Result.andThen_ok, Bool.not_false, if_true, Sem.run_pure]
          · simp only [Result.andThen_ok, Bool.not_true, Bool.false_eq_true, if_false, Sem.run_pure]
            exact ih w3
        | halt x w3 => simp [Result.andThen]
      | halt x w2 => simp [Result.andThen]
    | halt x w1 => simp [Result.andThen]

theorem Made.part {t : TypeId} {n off : Nat} {vs : List Value} (hn : szT P t = some n) (hb : ∃ b, aggT P t = some b) (h1 : aggT P t = some false → n = 1) (hl : n = 0 ∨ off + n ≤ vs.length) (w : World) :
    ∃ v, (part t vs.toArray off).run P w = .ok v w ∧ Made P t ((vs.drop off).take n) v := by
  obtain ⟨b, hb⟩ := hb
  cases b with
  | true => exact ⟨_, run_part_agg hb hn w, .inl ⟨hb, rfl⟩⟩
  | false =>
    have h1 := h1 hb
    subst h1
    have hlt : off < vs.length := by omega
    refine ⟨vs[off], run_part_one hb (List.getElem?_eq_getElem hlt) w, .inr ⟨hb, ?_⟩⟩
    rw [List.drop_eq_getElem_cons hlt]
    rfl

theorem flat_agg {d : Nat} {t : TypeId} {ks : List CK} (h : flatT P d t = some ks) : (∃ b, aggT P t = some b) ∧ (aggT P t = some false → ks.length = 1) := by
  cases d with
  | zero => simp [flatT] at h
  | succ d =>
    unfold flatT at h
    unfold aggT
    cases hu : P.underlying t with
    | none => simp [hu] at h
    | some dd => cases dd <;> simp_all <;> (subst h; rfl)

theorem eq_flat : ∀ (d : Nat) (t : TypeId) (ks : List CK), flatT P d t = some ks → ∀ (D : Nat), d ≤ D → ∀ (l m : List SC) (vs us : List Value) (b : Bool) (v u : Value),
    All2 (DC g w0) l vs → All2 (DC g w0) m us → eqC ks l m = some b → Made P t vs v → Made P t us u → ∀ w, (Op.equalIn D t v u).run P w = .ok b w := by
  intro d
  induction d with
  | zero => intro t ks h; simp [flatT] at h
  | succ d ih =>
    intro t ks h D hD l m vs us b v u hl hm he hv hu w
    obtain ⟨D, rfl⟩ : ∃ E, D = E + 1 := ⟨D - 1, by omega⟩
    have hD' : d ≤ D := by omega
    have fa := flat_agg h
    unfold flatT at h
    cases hun : P.underlying t with
    | none => simp [hun] at h
    | some dd =>
      cases dd <;> simp only [hun] at h <;> try (cases h; done)
      case bool =>
        simp only [Option.some.injEq] at h
        subst h
        rcases hv with ⟨ha, _⟩ | ⟨_, rfl⟩
        · simp [aggT, hun] at ha
        rcases hu with ⟨ha, _⟩ | ⟨_, rfl⟩
        · simp [aggT, hun] at ha
        rcases eqC_cons_eq he with ⟨q, q', a, a', l', m', r, hk, rfl, rfl, hr, rfl⟩ | ⟨a, a', l', m', r, _, rfl, rfl, hr, rfl⟩
        · cases hk
        · obtain ⟨rfl, rfl, rfl⟩ := eqC_nil_eq hr
          have e1 : v = .bool a := hl.1
          have e2 : u = .bool a' := hm.1
          subst e1; subst e2
          rw [Bool.and_true]
          exact run_equalIn_bool' w D t a a' hun
      case int kk =>
        simp only [Option.some.injEq] at h
        subst h
        rcases hv with ⟨ha, _⟩ | ⟨_, rfl⟩
        · simp [aggT, hun] at ha
        rcases hu with ⟨ha, _⟩ | ⟨_, rfl⟩
        · simp [aggT, hun] at ha
        rcases eqC_cons_eq he with ⟨q, q', a, a', l', m', r, hk, rfl, rfl, hr, rfl⟩ | ⟨a, a', l', m', r, hk, rfl, rfl, hr, rfl⟩
        · obtain ⟨rfl, rfl, rfl⟩ := eqC_nil_eq hr
          have e1 : v = .int q' a := hl.1
          have e2 : u = .int q' a' := hm.1
          subst e1; subst e2
          rw [Bool.and_true]
          exact run_equalIn_int w D t q' kk a a' hun
        · cases hk
      case struct fs =>
        split at h
        · cases h
        · rename_i hst
          have hag : aggT P t = some true := by simp [aggT, hun]
          rcases hv with ⟨_, rfl⟩ | ⟨ha, _⟩
          case inr => rw [hag] at ha; cases ha
          rcases hu with ⟨_, rfl⟩ | ⟨ha, _⟩
          case inr => rw [hag] at ha; cases ha
          have hfs : P.underlying t = some (.struct (P.fieldsOf t)) := by rw [hun]; simp [Program.fieldsOf, hun]
          have hfe : P.fieldsOf t = fs := by rw [hun] at hfs; simpa using hfs.symm
          rw [run_equalIn_struct w D t _ _ hfs hst, hfe]
          have key : ∀ (fl : List Field) (off : Nat) (ks : List CK) (b : Bool), flatFs P (flatT P d) fl off = some ks → eqC ks (l.drop off) (m.drop off) = some b →
              ∀ w, (Op.eqFields D vs.toArray us.toArray fl).run P w = .ok b w := by
            intro fl
            induction fl with
            | nil =>
              intro off ks b hf hb w
              simp only [flatFs, Option.some.injEq] at hf
              subst hf
              obtain ⟨_, _, rfl⟩ := eqC_nil_eq hb
              simp [Op.eqFields]
            | cons f fl ihf =>
              intro off ks b hf hb w
              simp only [flatFs] at hf
              split at hf
              · cases hf
              · rename_i hc
                simp only [Bool.or_eq_false_iff, decide_eq_false_iff_not, Bool.not_eq_false'] at hc
                obtain ⟨hne, hoff⟩ := hc
                have hoff := Nat.eq_of_beq_eq_true hoff
                split at hf
                · rename_i k1 hk1
                  split at hf
                  · rename_i n hn
                    split at hf
                    · rename_i hnk
                      have hnk := Nat.eq_of_beq_eq_true hnk
                      split at hf
                      · rename_i rest hrest
                        simp only [Option.some.injEq] at hf
                        subst hf
                        obtain ⟨x, y, hx, hy, rfl⟩ := eqC_app hb
                        rw [List.drop_drop, List.drop_drop, ← hnk] at hy
                        rw [← hnk] at hx
                        have hxl := eqC_len hx
                        simp only [List.length_take, List.length_drop] at hxl
                        have fa' := flat_agg hk1
                        obtain ⟨a1, ha1, hm1⟩ := Made.part (P := P) (off := f.offset) (vs := vs) hn fa'.1 (fun h => by rw [hnk]; exact fa'.2 h) (by have := hl.len; omega) w
                        obtain ⟨b1, hb1, hm2⟩ := Made.part (P := P) (off := f.offset) (vs := us) hn fa'.1 (fun h => by rw [hnk]; exact fa'.2 h) (by have := hm.len; omega) w
                        have hq := ih f.type k1 hk1 D hD' _ _ _ _ x a1 b1 ((hl.drop off).take n) ((hm.drop off).take n) hx (by rw [hoff] at hm1; exact hm1) (by rw [hoff] at hm2; exact hm2) w
                        simp only [Op.eqFields, Sem.run_bind, Sem.run_ite, ha1, hb1, hq, Result.andThen_ok]
                        rw [if_pos hne]
                        cases x
                        · simp
                        · simp only [Bool.not_true, Bool.false_eq_true, if_false, Bool.true_and]
                          exact ihf _ _ _ hrest hy w
                      · cases hf
                    · cases hf
                  · cases hf
                · cases hf
          exact key fs.toList 0 ks b h (by simpa using he) w
      case array len e =>
        split at h
        · rename_i k1 hk1
          split at h
          · rename_i n hn
            split at h
            · rename_i hnk
              have hnk := Nat.eq_of_beq_eq_true hnk
              simp only [Option.some.injEq] at h
              subst h
              have hag : aggT P t = some true := by simp [aggT, hun]
              rcases hv with ⟨_, rfl⟩ | ⟨ha, _⟩
              case inr => rw [hag] at ha; cases ha
              rcases hu with ⟨_, rfl⟩ | ⟨ha, _⟩
              case inr => rw [hag] at ha; cases ha
              rw [run_equalIn_array w D t e len n _ _ hun hn]
              have key : ∀ (c i : Nat) (b : Bool), eqC (reps k1 c) (l.drop (i * n)) (m.drop (i * n)) = some b →
                  ∀ w, (eqArr D e n vs.toArray us.toArray (List.range' i c)).run P w = .ok b w := by
                intro c
                induction c with
                | zero =>
                  intro i b hb w
                  have h0 := eqC_len hb
                  simp only [reps, List.length_nil, List.length_eq_zero_iff] at h0
                  rw [h0.1, h0.2] at hb
                  simp only [reps, eqC, Option.some.injEq] at hb
                  subst hb
                  simp [eqArr]
                | succ c ihc =>
                  intro i b hb w
                  simp only [reps] at hb
                  obtain ⟨x, y, hx, hy, rfl⟩ := eqC_app hb
                  rw [List.drop_drop, List.drop_drop, ← hnk] at hy
                  rw [← hnk] at hx
                  have hxl := eqC_len hx
                  simp only [List.length_take, List.length_drop] at hxl
                  have fa' := flat_agg hk1
                  have hle : i * n + n ≤ l.length ∧ i * n + n ≤ m.length := by
                    rcases Nat.eq_zero_or_pos n with h0 | h0
                    · rw [h0, Nat.mul_zero]; omega
                    · omega
                  obtain ⟨a1, ha1, hm1⟩ := Made.part (P := P) (off := i * n) (vs := vs) hn fa'.1 (fun h => by rw [hnk]; exact fa'.2 h) (by have := hl.len; omega) w
                  obtain ⟨b1, hb1, hm2⟩ := Made.part (P := P) (off := i * n) (vs := us) hn fa'.1 (fun h => by rw [hnk]; exact fa'.2 h) (by have := hm.len; omega) w
                  have hq := ih e k1 hk1 D hD' _ _ _ _ x a1 b1 ((hl.drop (i * n)).take n) ((hm.drop (i * n)).take n) hx hm1 hm2 w
                  simp only [List.range'_succ, eqArr, Sem.run_bind, Sem.run_ite, ha1, hb1, hq, Result.andThen_ok]
                  cases x
                  · simp
                  · simp only [Bool.not_true, Bool.false_eq_true, if_false, Bool.true_and]
                    exact ihc (i + 1) y (by rw [Nat.succ_mul]; exact hy) w
              exact key len 0 b (by simpa using he) w
            · cases h
          · cases h
        · cases h

end
end SY
end Go.Proofs.YtapjehgfekjdaaaDoor
