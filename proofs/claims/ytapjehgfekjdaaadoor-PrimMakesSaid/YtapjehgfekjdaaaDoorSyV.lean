/- What comes of a call, seen more widely: a nil slice is one of no elements; arguments as a told callee has them. No condition. -/
import Derived.Test.YtapjehgfekjdaaaDoorSyU
namespace Go.Proofs.YtapjehgfekjdaaaDoor
open Go.RowKit
namespace SY
section
variable {P : Program} {w : World} {g : G}

/-- d is one of those that c tells. -/
def subC (c d : SC) : Prop :=
  match c with
  | .any => True
  | .sl ks xs none => match d with
    | .sl ks' ys none => match ksEq ks ks' with
      | true => xs = ys
      | false => False
    | .v v => match isNil v with
      | true => match Nat.blt 0 ks.length with
        | true => xs = []
        | false => False
      | false => False
    | _ => False
  | .st xs => match d with
    | .st ys => xs = ys
    | _ => False
  | .v (.int k a) => match d with
    | .v (.int k' b) => match kEq k k' with
      | true => a = b
      | false => False
    | _ => False
  | .v (.bool a) => match d with
    | .v (.bool b) => a = b
    | _ => False
  | .v x => match d with
    | .v y => x = y
    | _ => False
  | _ => False
def subCs (l : List SC) : List SC → Prop :=
  List.rec (motive := fun _ => List SC → Prop) (fun m => match m with
    | [] => True
    | _ => False) (fun c _ ih m => match m with
    | [] => False
    | d :: m => subC c d ∧ ih m) l
def subT (c d : T) : Prop :=
  match c, d with
  | .c c, .c d => subC c d
  | .agg l, .agg m => subCs l m
  | _, _ => False
def subTs (l : List T) : List T → Prop :=
  List.rec (motive := fun _ => List T → Prop) (fun m => match m with
    | [] => True
    | _ => False) (fun c _ ih m => match m with
    | [] => False
    | d :: m => subT c d ∧ ih m) l
def subS (c d : S) : Prop :=
  match c with
  | .any => True
  | .t c => match d with
    | .t d => subT c d
    | _ => False
  | .tup l => match d with
    | .tup m => subTs l m
    | _ => False
  | _ => False

theorem subC_ok {c d : SC} {v : Value} (h : subC c d) (hd : DC g w d v) : DC g w c v := by
  cases c with
  | any => trivial
  | own k o => exact h.elim
  | st xs =>
    simp only [subC] at h
    split at h <;> try (exact h.elim)
    subst h; exact hd
  | v x =>
    have key : d = .v x → DC g w (.v x) v := fun e => by subst e; exact hd
    cases x <;> simp only [subC] at h
    case int k q =>
      split at h <;> try (exact h.elim)
      split at h <;> try (exact h.elim)
      rename_i hk
      have hk : k = _ := of_decide_eq_true hk
      subst hk; subst h
      exact key rfl
    case bool q =>
      split at h <;> try (exact h.elim)
      subst h
      exact key rfl
    all_goals
      split at h <;> try (exact h.elim)
      subst h
      exact key rfl
  | sl ks xs tok =>
    cases tok with
    | none =>
      simp only [subC] at h
      split at h <;> try (exact h.elim)
      · split at h <;> try (exact h.elim)
        rename_i hks
        have hks := ksEq_eq hks
        subst hks; subst h
        exact hd
      · split at h <;> try (exact h.elim)
        rename_i hnil
        split at h <;> try (exact h.elim)
        rename_i hpos
        subst h
        have hd : v = _ := hd
        exact ⟨none, 0, 0, by rw [hd]; exact isNil_eq hnil, nil_sl (Nat.le_of_ble_eq_true hpos)⟩
    | some q => exact h.elim
theorem subCs_ok : ∀ {l m : List SC} {vs : List Value}, subCs l m → All2 (DC g w) m vs → All2 (DC g w) l vs
  | [], m, vs, h, hd => by
    cases m with
    | nil => rw [hd.nil_left]; trivial
    | cons _ _ => exact h.elim
  | c :: l, m, vs, h, hd => by
    cases m with
    | nil => exact h.elim
    | cons d m =>
      have h : subC c d ∧ subCs l m := h
      obtain ⟨v, vs, rfl, h1, h2⟩ := hd.cons_left
      exact ⟨subC_ok h.1 h1, subCs_ok h.2 h2⟩
theorem subT_ok {c d : T} {v : Value} (h : subT c d) (hd : DT g w d v) : DT g w c v := by
  cases c <;> cases d <;> simp only [subT] at h <;> try (exact h.elim)
  · exact subC_ok h hd
  · obtain ⟨vs, e, hl⟩ := hd
    exact ⟨vs, e, subCs_ok h hl⟩
theorem subTs_ok : ∀ {l m : List T} {vs : List Value}, subTs l m → All2 (DT g w) m vs → All2 (DT g w) l vs
  | [], m, vs, h, hd => by
    cases m with
    | nil => rw [hd.nil_left]; trivial
    | cons _ _ => exact h.elim
  | c :: l, m, vs, h, hd => by
    cases m with
    | nil => exact h.elim
    | cons d m =>
      have h : subT c d ∧ subTs l m := h
      obtain ⟨v, vs, rfl, h1, h2⟩ := hd.cons_left
      exact ⟨subT_ok h.1 h1, subTs_ok h.2 h2⟩
theorem subS_ok {c d : S} {v : Value} (h : subS c d) (hd : DS g w d v) : DS g w c v := by
  cases c with
  | any => trivial
  | t c =>
    simp only [subS] at h
    split at h <;> try (exact h.elim)
    exact subT_ok h hd
  | tup l =>
    simp only [subS] at h
    split at h <;> try (exact h.elim)
    obtain ⟨vs, e, hl⟩ := hd
    exact ⟨vs, e, subTs_ok h hl⟩
  | _ => exact h.elim

/-- A told callee, by what its call comes to. -/
theorem gokW {hk : Hooks} {tab : List (Nat × CF)} (hm : ProgOK P) (ht : TabOK P tab) (hh : HookOK P hk) {f : Nat} {h : Hk}
    (hc : ∀ vs s r, h vs = some (s, r) → s → ∃ lh m us, All2 subS us vs ∧ callT P hk tab lh m f us (fun u => subS r u)) : GOK P f h := by
  intro vs s r hr hs
  obtain ⟨lh, m, us, hu, hcall⟩ := hc vs s r hr hs
  obtain ⟨h1, h2⟩ := callT_ok hm ht hh hcall
  refine .inl ⟨h1, fun g w vals hb ha => ?_⟩
  have ha' : All2 (DS g w) us vals := by
    clear hcall h2 hr
    induction us generalizing vs vals with
    | nil =>
      cases vs with
      | nil => exact ha
      | cons _ _ => exact hu.elim
    | cons u us ih =>
      cases vs with
      | nil => exact hu.elim
      | cons v vs =>
        obtain ⟨x, xs, rfl, q1, q2⟩ := ha.cons_left
        have hu : subS u v ∧ All2 subS us vs := hu
        exact ⟨subS_ok hu.1 q1, ih vs hu.2 xs q2⟩
  exact (h2 g w vals hb ha').mono fun e w' ⟨u, v, q1, q2, q3, q4⟩ => ⟨v, q1, subS_ok q2 q3, q4⟩

/-! What a cell is, as one wants it -/
def asI : SC → Option Int
  | .v (.int _ n) => some n
  | _ => none
def asB : SC → Option Bool
  | .v (.bool b) => some b
  | _ => none
def asL : SC → Option (List Int)
  | .sl _ xs none => some xs
  | .v (.slice none 0 0) => some []
  | _ => none
end
end SY
end Go.Proofs.YtapjehgfekjdaaaDoor
