/- The cells' functions told. No condition. -/
import Derived.Test.YtlapjaodhdifoaaHC3
namespace Go.Proofs.Ytlapjaodhdifoaa
open Go.RowKit Go.Maps
set_option linter.unusedVariables false
open SY
abbrev iS (x : Int) : S := .t (.c (.v (.int .i64 x)))
abbrev uS (x : Int) : S := .t (.c (.v (.int .u64 x)))
abbrev bS (b : Bool) : S := .t (.c (.v (.bool b)))
abbrev slU (l : List Int) : S := .t (.c (.sl [.int .u64] l none))
noncomputable def cI (a : S) : Int := match a with
  | .t (.c c) => (match asI c with
    | some n => n
    | none => 0)
  | _ => 0
noncomputable def cL (a : S) : List Int := match a with
  | .t (.c c) => (match asL c with
    | some n => n
    | none => [])
  | _ => []
def KeepIn (xs : List Int) (i : Int) : Bool := decide (0 ≤ i) && decide (i < xs.length)
def KeepAt (xs : List Int) (i : Int) : Int := if KeepIn xs i = true then gI xs i.toNat else 0
def KeepSt (xs : List Int) (i y : Int) : List Int := if KeepIn xs i = true then xs.set i.toNat y else []
def KeepSw (xs : List Int) (i old y : Int) : List Int := KeepSt xs i (if KeepAt xs i = old then y else KeepAt xs i)
def KeepWs (xs : List Int) (i old : Int) : Bool := KeepIn xs i && decide (KeepAt xs i = old)
def KeepMo (xs : List Int) (i y : Int) : List Int := KeepSt xs i (IntKind.u64.wrap (KeepAt xs i + y))
def KeepMx (xs : List Int) (i y : Int) : Int := if KeepIn xs i = true then IntKind.u64.wrap (KeepAt xs i + y) else 0
def KeepLe (xs : List Int) : Prop := xs.length ≤ 1000
noncomputable def hLd (at_ : List Int → Int → Int) (in_ : List Int → Int → Bool) : Hk := fun vs => match vs with
  | [a, b] => some (subS (slU (cL a)) a ∧ subS (iS (cI b)) b ∧ KeepLe (cL a), .tup [.c (.v (.int .u64 (at_ (cL a) (cI b)))), .c (.v (.bool (in_ (cL a) (cI b))))])
  | _ => none
noncomputable def hSt (st : List Int → Int → Int → List Int) (in_ : List Int → Int → Bool) : Hk := fun vs => match vs with
  | [a, b, c] => some (subS (slU (cL a)) a ∧ subS (iS (cI b)) b ∧ subS (uS (cI c)) c ∧ KeepLe (cL a), .tup [.c (.sl [.int .u64] (st (cL a) (cI b) (cI c)) none), .c (.v (.bool (in_ (cL a) (cI b))))])
  | _ => none
noncomputable def hSw (sw : List Int → Int → Int → Int → List Int) (ws : List Int → Int → Int → Bool) (in_ : List Int → Int → Bool) : Hk := fun vs => match vs with
  | [a, b, c, d] => some (subS (slU (cL a)) a ∧ subS (iS (cI b)) b ∧ subS (uS (cI c)) c ∧ subS (uS (cI d)) d ∧ KeepLe (cL a), .tup [.c (.sl [.int .u64] (sw (cL a) (cI b) (cI c) (cI d)) none), .c (.v (.bool (ws (cL a) (cI b) (cI c)))), .c (.v (.bool (in_ (cL a) (cI b))))])
  | _ => none
noncomputable def hMo (mo : List Int → Int → Int → List Int) (mx : List Int → Int → Int → Int) (in_ : List Int → Int → Bool) : Hk := fun vs => match vs with
  | [a, b, c] => some (subS (slU (cL a)) a ∧ subS (iS (cI b)) b ∧ subS (uS (cI c)) c ∧ KeepLe (cL a), .tup [.c (.sl [.int .u64] (mo (cL a) (cI b) (cI c)) none), .c (.v (.int .u64 (mx (cL a) (cI b) (cI c)))), .c (.v (.bool (in_ (cL a) (cI b))))])
  | _ => none
theorem isFn_of {f : Nat} {fn : Func} (h1 : Try.prog.funcs[f]? = some fn) (h2 : fn.body.isSome = true) (h3 : (fn.name == "runtime.NumGoroutine") = false) : IsFn Try.prog f := by
  obtain ⟨c, hc⟩ := Option.isSome_iff_exists.1 h2
  exact ⟨_, c, h1, hc, h3⟩
theorem sl_out {g : G} {w w' : World} {xs : List Int} {n : Nat} {v : Value} (hb : Bound g w) (hl : xs.length = n) (hbel : Below w.heap.size w w') (h : SlOut w xs n v w') : DC g w' (.sl [.int .u64] xs none) v := by
  obtain ⟨B, cap, cur, rfl, h1, h2, h3, h4, h5⟩ := h
  refine ⟨_, _, _, rfl, h2, h3, by decide, by simp [hl], (fun h => by cases h), fun A hA => ?_, trivial⟩
  cases hA
  refine ⟨fun h0 => ⟨rfl, lt_of_heap h4, fun f hf => ?_⟩, fun j u hu => ?_⟩
  · have := hb _ _ hf
    exact absurd (show B < w.heap.size from this) (by omega)
  · rw [add_own, Nat.zero_add, cell_of_row _ _ _ _ _ _ h4]
    exact h5 j u hu
theorem nil_out {g : G} {w : World} : DC g w (.sl [.int .u64] [] none) (.slice none 0 0) := ⟨none, 0, 0, rfl, nil_sl (by decide)⟩
/-- A place that is there, in the memory. -/
theorem at_in {g : G} {w : World} {xs : List Int} {tok} {a : Option Addr} {n c : Nat} {i : Int} (hS : SlI g w [.int .u64] xs tok a n c) (h : KeepIn xs i = true) :
    ∃ (A : Addr) (k : Nat), a = some A ∧ i = k ∧ k < n ∧ xs.length = n ∧ A.spot = none ∧ A.block < w.heap.size ∧ (∀ j u, (encV [.int .u64] xs)[j]? = some u → w.cell? (A.add j) = some u) ∧ w.cell? ⟨A.block, A.off + k, none⟩ = some (.int .u64 (KeepAt xs i)) := by
  have hl : xs.length = n := by rw [hS.len]; simp
  have h0 := h
  unfold KeepIn at h
  simp only [Bool.and_eq_true, decide_eq_true_eq] at h
  cases a with
  | none => exact absurd (hS.nil rfl).1 (by omega)
  | some A =>
    have hF := (hS.at_ A rfl).1 (by omega)
    have hrd := hS.rd_some
    refine ⟨A, i.toNat, rfl, by omega, by omega, hl, hF.spot, hF.lt, hrd, ?_⟩
    have hk : i.toNat < xs.length := by omega
    have := hrd i.toNat _ (by rw [encV_get, List.getElem?_eq_getElem hk]; rfl)
    rw [add_none hF.spot] at this
    rw [this]
    have ka : kAt [CK.int .u64] i.toNat = .int .u64 := by simp [kAt, Nat.mod_one]
    unfold KeepAt
    rw [if_pos h0, ka]
    simp [rdV, gI, List.getD_eq_getElem?_getD, List.getElem?_eq_getElem hk]
theorem at_out {g : G} {w : World} {xs : List Int} {tok} {a : Option Addr} {n c : Nat} {i : Int} (hS : SlI g w [.int .u64] xs tok a n c) (h : ¬ KeepIn xs i = true) : i < 0 ∨ (n : Int) ≤ i := by
  have hl : xs.length = n := by rw [hS.len]; simp
  unfold KeepIn at h
  simp only [Bool.and_eq_true, decide_eq_true_eq] at h
  omega
theorem load_ok : GOK Try.prog 6 (hLd KeepAt KeepIn) := by
  intro vs s r hg hs
  unfold hLd at hg
  split at hg <;> try (cases hg; done)
  rename_i a b
  simp only [Option.some.injEq, Prod.mk.injEq] at hg
  obtain ⟨rfl, rfl⟩ := hg
  refine .inl ⟨isFn_of (fn := Try.f6) (by kernel_rfl) (by kernel_rfl) (by kernel_rfl), fun g w vals hb hv => ?_⟩
  obtain ⟨v1, l, rfl, d1, hv⟩ := hv.cons_left
  obtain ⟨v2, l, rfl, d2, hv⟩ := hv.cons_left
  obtain rfl := hv.nil_left
  have d1 := subS_ok hs.1 d1
  have d2 := subS_ok hs.2.1 d2
  have hN := hs.2.2
  unfold KeepLe at hN
  clear hs
  generalize cL a = xs at *
  generalize cI b = i at *
  obtain ⟨a1, n, c, rfl, hS⟩ := d1
  obtain rfl : v2 = .int .i64 i := d2
  by_cases h : KeepIn xs i = true
  · obtain ⟨A, k, rfl, rfl, hk, hl, hsp, hlt, hrd, hx⟩ := at_in hS h
    refine (load_in w xs A n c k _ hk hsp (by omega) hl hlt hrd hx).mono ?_
    rintro e w' ⟨rfl, hbel⟩
    exact ⟨_, rfl, ⟨[_, _], rfl, rfl, by rw [h]; rfl, trivial⟩, hbel⟩
  · refine (load_out w a1 n c i (at_out hS h)).mono ?_
    rintro e w' ⟨rfl, hbel⟩
    have e1 : KeepAt xs i = 0 := if_neg h
    have e2 : KeepIn xs i = false := by simpa using h
    exact ⟨_, rfl, ⟨[_, _], rfl, by rw [e1]; rfl, by rw [e2]; rfl, trivial⟩, hbel⟩
theorem store_ok : GOK Try.prog 8 (hSt KeepSt KeepIn) := by
  intro vs s r hg hs
  unfold hSt at hg
  split at hg <;> try (cases hg; done)
  rename_i a b c
  simp only [Option.some.injEq, Prod.mk.injEq] at hg
  obtain ⟨rfl, rfl⟩ := hg
  refine .inl ⟨isFn_of (fn := Try.f8) (by kernel_rfl) (by kernel_rfl) (by kernel_rfl), fun g w vals hb hv => ?_⟩
  obtain ⟨v1, l, rfl, d1, hv⟩ := hv.cons_left
  obtain ⟨v2, l, rfl, d2, hv⟩ := hv.cons_left
  obtain ⟨v3, l, rfl, d3, hv⟩ := hv.cons_left
  obtain rfl := hv.nil_left
  have d1 := subS_ok hs.1 d1
  have d2 := subS_ok hs.2.1 d2
  have d3 := subS_ok hs.2.2.1 d3
  have hN := hs.2.2.2
  unfold KeepLe at hN
  clear hs
  generalize cL a = xs at *
  generalize cI b = i at *
  generalize cI c = y at *
  obtain ⟨a1, n, cc, rfl, hS⟩ := d1
  obtain rfl : v2 = .int .i64 i := d2
  obtain rfl : v3 = .int .u64 y := d3
  by_cases h : KeepIn xs i = true
  · have e1 : KeepSt xs i y = xs.set i.toNat y := if_pos h
    obtain ⟨A, k, rfl, rfl, hk, hl, hsp, hlt, hrd, hx⟩ := at_in hS h
    refine (store_in w xs A n cc k _ y hk hsp (by omega) hl hlt hrd hx).mono ?_
    rintro e w' ⟨v, rfl, hv, hbel⟩
    exact ⟨_, rfl, ⟨[_, _], rfl, by rw [e1, Int.toNat_natCast]; exact sl_out hb (by simp [hl]) hbel hv, by rw [h]; rfl, trivial⟩, hbel⟩
  · refine (store_out w a1 n cc i y (at_out hS h)).mono ?_
    rintro e w' ⟨rfl, hbel⟩
    have e1 : KeepSt xs i y = [] := if_neg h
    have e2 : KeepIn xs i = false := by simpa using h
    exact ⟨_, rfl, ⟨[_, _], rfl, by rw [e1]; exact nil_out, by rw [e2]; rfl, trivial⟩, hbel⟩
theorem swap_ok : GOK Try.prog 10 (hSw KeepSw KeepWs KeepIn) := by
  intro vs s r hg hs
  unfold hSw at hg
  split at hg <;> try (cases hg; done)
  rename_i a b c d
  simp only [Option.some.injEq, Prod.mk.injEq] at hg
  obtain ⟨rfl, rfl⟩ := hg
  refine .inl ⟨isFn_of (fn := Try.f10) (by kernel_rfl) (by kernel_rfl) (by kernel_rfl), fun g w vals hb hv => ?_⟩
  obtain ⟨v1, l, rfl, d1, hv⟩ := hv.cons_left
  obtain ⟨v2, l, rfl, d2, hv⟩ := hv.cons_left
  obtain ⟨v3, l, rfl, d3, hv⟩ := hv.cons_left
  obtain ⟨v4, l, rfl, d4, hv⟩ := hv.cons_left
  obtain rfl := hv.nil_left
  have d1 := subS_ok hs.1 d1
  have d2 := subS_ok hs.2.1 d2
  have d3 := subS_ok hs.2.2.1 d3
  have d4 := subS_ok hs.2.2.2.1 d4
  have hN := hs.2.2.2.2
  unfold KeepLe at hN
  clear hs
  generalize cL a = xs at *
  generalize cI b = i at *
  generalize cI c = old at *
  generalize cI d = y at *
  obtain ⟨a1, n, cc, rfl, hS⟩ := d1
  obtain rfl : v2 = .int .i64 i := d2
  obtain rfl : v3 = .int .u64 old := d3
  obtain rfl : v4 = .int .u64 y := d4
  by_cases h : KeepIn xs i = true
  · by_cases e : KeepAt xs i = old
    · have e1 : KeepSw xs i old y = xs.set i.toNat y := by unfold KeepSw KeepSt; rw [if_pos e, if_pos h]
      have e2 : KeepWs xs i old = true := by unfold KeepWs; rw [h, decide_eq_true e]; rfl
      obtain ⟨A, k, rfl, rfl, hk, hl, hsp, hlt, hrd, hx⟩ := at_in hS h
      rw [e] at hx
      refine (swap_in_t w xs A n cc k old y hk hsp (by omega) hl hlt hrd hx).mono ?_
      rintro e w' ⟨v, rfl, hv, hbel⟩
      exact ⟨_, rfl, ⟨[_, _, _], rfl, by rw [e1, Int.toNat_natCast]; exact sl_out hb (by simp [hl]) hbel hv, by rw [e2]; rfl, by rw [h]; rfl, trivial⟩, hbel⟩
    · have e1 : KeepSw xs i old y = xs.set i.toNat (KeepAt xs i) := by unfold KeepSw KeepSt; rw [if_neg e, if_pos h]
      have e2 : KeepWs xs i old = false := by unfold KeepWs; rw [h, decide_eq_false e]; rfl
      obtain ⟨A, k, rfl, rfl, hk, hl, hsp, hlt, hrd, hx⟩ := at_in hS h
      refine (swap_in_f w xs A n cc k _ old y e hk hsp (by omega) hl hlt hrd hx).mono ?_
      rintro e w' ⟨v, rfl, hv, hbel⟩
      exact ⟨_, rfl, ⟨[_, _, _], rfl, by rw [e1, Int.toNat_natCast]; exact sl_out hb (by simp [hl]) hbel hv, by rw [e2]; rfl, by rw [h]; rfl, trivial⟩, hbel⟩
  · refine (swap_out w a1 n cc i old y (at_out hS h)).mono ?_
    rintro e w' ⟨rfl, hbel⟩
    have e1 : KeepSw xs i old y = [] := by unfold KeepSw KeepSt; rw [if_neg h]
    have e2 : KeepIn xs i = false := by simpa using h
    have e3 : KeepWs xs i old = false := by unfold KeepWs; rw [e2]; rfl
    exact ⟨_, rfl, ⟨[_, _, _], rfl, by rw [e1]; exact nil_out, by rw [e3]; rfl, by rw [e2]; rfl, trivial⟩, hbel⟩
theorem more_ok : GOK Try.prog 12 (hMo KeepMo KeepMx KeepIn) := by
  intro vs s r hg hs
  unfold hMo at hg
  split at hg <;> try (cases hg; done)
  rename_i a b c
  simp only [Option.some.injEq, Prod.mk.injEq] at hg
  obtain ⟨rfl, rfl⟩ := hg
  refine .inl ⟨isFn_of (fn := Try.f12) (by kernel_rfl) (by kernel_rfl) (by kernel_rfl), fun g w vals hb hv => ?_⟩
  obtain ⟨v1, l, rfl, d1, hv⟩ := hv.cons_left
  obtain ⟨v2, l, rfl, d2, hv⟩ := hv.cons_left
  obtain ⟨v3, l, rfl, d3, hv⟩ := hv.cons_left
  obtain rfl := hv.nil_left
  have d1 := subS_ok hs.1 d1
  have d2 := subS_ok hs.2.1 d2
  have d3 := subS_ok hs.2.2.1 d3
  have hN := hs.2.2.2
  unfold KeepLe at hN
  clear hs
  generalize cL a = xs at *
  generalize cI b = i at *
  generalize cI c = y at *
  obtain ⟨a1, n, cc, rfl, hS⟩ := d1
  obtain rfl : v2 = .int .i64 i := d2
  obtain rfl : v3 = .int .u64 y := d3
  by_cases h : KeepIn xs i = true
  · have e1 : KeepMo xs i y = xs.set i.toNat (IntKind.u64.wrap (KeepAt xs i + y)) := if_pos h
    have e2 : KeepMx xs i y = IntKind.u64.wrap (KeepAt xs i + y) := if_pos h
    obtain ⟨A, k, rfl, rfl, hk, hl, hsp, hlt, hrd, hx⟩ := at_in hS h
    refine (more_in w xs A n cc k _ y hk hsp (by omega) hl hlt hrd hx).mono ?_
    rintro e w' ⟨v, rfl, hv, hbel⟩
    exact ⟨_, rfl, ⟨[_, _, _], rfl, by rw [e1, Int.toNat_natCast]; exact sl_out hb (by simp [hl]) hbel hv, by rw [e2]; rfl, by rw [h]; rfl, trivial⟩, hbel⟩
  · refine (more_out w a1 n cc i y (at_out hS h)).mono ?_
    rintro e w' ⟨rfl, hbel⟩
    have e1 : KeepMo xs i y = [] := if_neg h
    have e2 : KeepIn xs i = false := by simpa using h
    have e3 : KeepMx xs i y = 0 := if_neg h
    exact ⟨_, rfl, ⟨[_, _, _], rfl, by rw [e1]; exact nil_out, by rw [e3]; rfl, by rw [e2]; rfl, trivial⟩, hbel⟩
end Go.Proofs.Ytlapjaodhdifoaa
