/- Told callees one by one; objects, frames and acts as plain structures. No condition. -/
import Derived.Test.YtegdbpbafdpkfaaSxI
namespace Go.Proofs.Ytegdbpbafdpkfaa
open Go.RowKit
namespace SX

theorem br_true (t e : Prop) : br true t e = t := rfl
theorem br_false (t e : Prop) : br false t e = e := rfl

theorem br_iff (b : Bool) (t e : Prop) : br b t e = ((b = true → t) ∧ (b = false → e)) := by cases b <;> simp [br]

abbrev Hk := List Value → Option (Prop × Value)
def GOK (P : Program) (W : World) (f : FuncId) (g : Hk) : Prop :=
  ∀ vs s v, g vs = some (s, v) → s → ∀ w, Below W.heap.size W w → Calls P f vs.toArray w fun e w' => e = .returned v ∧ Below w.heap.size w w'

def hkL : List (Nat × Hk) → Hooks
  | [], _ => none
  | (k, g) :: r, f => match Nat.beq f k with
    | true => some g
    | false => hkL r f

theorem hkL_nil (P : Program) (W : World) : HookOK P W (hkL []) := fun f g vs s v h => by cases h
theorem hkL_cons {P : Program} {W : World} {k : Nat} {g : Hk} {l : List (Nat × Hk)} (h : GOK P W k g) (hl : HookOK P W (hkL l)) : HookOK P W (hkL ((k, g) :: l)) := by
  intro f g' vs s v hf hv hs w hW
  simp only [hkL] at hf
  split at hf
  · rename_i hk
    have hk := Nat.eq_of_beq_eq_true hk
    subst hk
    simp only [Option.some.injEq] at hf
    subst hf
    exact h vs s v hv hs w hW
  · exact hl f g' vs s v hf hv hs w hW

theorem gok {P : Program} {W : World} {hk : Hooks} (hm : ProgOK P) (hh : HookOK P W hk) {f : FuncId} {g : Hk}
    (h : ∀ vs s v, g vs = some (s, v) → s → ∃ lh n, callL P W hk lh n f vs (fun u => u = v)) : GOK P W f g := by
  intro vs s v hg hs w hW
  obtain ⟨lh, n, hc⟩ := h vs s v hg hs
  exact (callL_ok hm hh hc w hW).mono fun e w' ⟨u, h1, h2, h3⟩ => ⟨by rw [h1, h2], h3⟩

def noL (_ : Nat) : Option Hint := none
def lh0 (h : Hint) (i : Nat) : Option Hint := match Nat.beq i 0 with
  | true => some h
  | false => none

/-! ### Rows of pairs of whole numbers that can be read -/

structure Rd2 (W : World) (k : IntKind) (na : Option Addr) (nn : Nat) : Prop where
  few : nn ≤ 1000000
  spot : 0 < nn → (atO na).spot = none
  at_ : ∀ i, i < nn → na.isSome = true ∧ IsI W k ((atO na).add (i * 2)) ∧ IsI W .i64 ((atO na).add (i * 2 + 1))

theorem add_add (a : Addr) (m n : Nat) (_h : a.spot = none) : (a.add m).add n = a.add (m + n) := by
  unfold Addr.add
  split <;> split <;> simp_all <;> omega

theorem wrap_succ {x n : Nat} (h : x < n) (hn : n ≤ 1000000) : IntKind.wrap .i64 ((x : Int) + 1) = ((x + 1 : Nat) : Int) := by
  simp only [IntKind.wrap_i64]; omega

/-! ### Objects, frames, acts -/

structure X where
  (k n0 n1 : Int)
  na : Option Addr
  (nn nc : Nat)
  la : Option Addr
  (ll lc : Nat)
structure W6 where
  (w0 w1 w2 w3 w4 w5 : Int)
structure F where
  (op st ph ol si le : Int)
  (aw sv : Bool)
  ne : Int
  fr : Bool
structure A where
  (dn pk hd : Bool)
  (gv ft vl : Int)

def R64 (n : Int) : Prop := -9223372036854775808 ≤ n ∧ n ≤ 9223372036854775807
structure WB (w : W6) : Prop where
  r0 : R64 w.w0
  r1 : R64 w.w1
  r2 : R64 w.w2
  r3 : R64 w.w3
  r4 : R64 w.w4
  r5 : R64 w.w5
structure FB (f : F) : Prop where
  op : R64 f.op
  st : R64 f.st
  ph : R64 f.ph
  ol : R64 f.ol
  si : R64 f.si
  le : R64 f.le
  ne : R64 f.ne

def ntV (x : X) : Value := .agg #[.int .u32 x.n0, .int .u32 x.n1, .slice x.na x.nn x.nc]
def objV (x : X) (w : W6) : Value := .agg #[.int .i64 x.k, .int .i64 w.w0, .int .i64 w.w1, .int .i64 w.w2, .int .i64 w.w3, .int .i64 w.w4, .int .i64 w.w5, .int .u32 x.n0, .int .u32 x.n1, .slice x.na x.nn x.nc, .slice x.la x.ll x.lc]
def frV (f : F) : Value := .agg #[.int .i64 f.op, .int .i64 f.st, .int .i64 f.ph, .int .i64 f.ol, .int .i64 f.si, .int .i64 f.le, .bool f.aw, .bool f.sv, .int .i64 f.ne, .bool f.fr]
def actV (a : A) : Value := .agg #[.bool a.dn, .bool a.pk, .bool a.hd, .int .i64 a.gv, .int .i64 a.ft, .int .u64 a.vl, .slice none 0 0]
def F0 : F := ⟨0, 0, 0, 0, 0, 0, false, false, 0, false⟩
def A0 : A := ⟨false, false, false, 0, 0, 0⟩
abbrev R3 := W6 × F × A
def ret3 (x : X) (r : R3) : Value := .tuple #[objV x r.1, frV r.2.1, actV r.2.2]

def decO (v : Value) : Option (X × W6) :=
  match v with
  | .agg cs => match cs.toList with
    | [.int .i64 k, .int .i64 w0, .int .i64 w1, .int .i64 w2, .int .i64 w3, .int .i64 w4, .int .i64 w5, .int .u32 n0, .int .u32 n1, .slice na nn nc, .slice la ll lc] => some (⟨k, n0, n1, na, nn, nc, la, ll, lc⟩, ⟨w0, w1, w2, w3, w4, w5⟩)
    | _ => none
  | _ => none
def decF (v : Value) : Option F :=
  match v with
  | .agg cs => match cs.toList with
    | [.int .i64 op, .int .i64 st, .int .i64 ph, .int .i64 ol, .int .i64 si, .int .i64 le, .bool aw, .bool sv, .int .i64 ne, .bool fr] => some ⟨op, st, ph, ol, si, le, aw, sv, ne, fr⟩
    | _ => none
  | _ => none

theorem decO_eq {v : Value} {x : X} {w : W6} (h : decO v = some (x, w)) : v = objV x w := by
  unfold decO at h
  split at h
  · rename_i cs
    split at h
    · rename_i hl
      simp only [Option.some.injEq, Prod.mk.injEq] at h
      obtain ⟨rfl, rfl⟩ := h
      simp only [objV]
      rw [← hl]
    · cases h
  · cases h
theorem decF_eq {v : Value} {f : F} (h : decF v = some f) : v = frV f := by
  unfold decF at h
  split at h
  · rename_i cs
    split at h
    · rename_i hl
      simp only [Option.some.injEq] at h
      subst h
      simp only [frV]
      rw [← hl]
    · cases h
  · cases h

/-- What is asked of an object that is held against itself. -/
structure XOK (W : World) (x : X) : Prop where
  n : Rd2 W .u32 x.na x.nn
  l : Rd2 W .i64 x.la x.ll

def hSame (W : World) : Hk
  | [v, u] => some (v = u ∧ ∃ x : X, u = ntV x ∧ Rd2 W .u32 x.na x.nn, .bool true)
  | _ => none
def hObj (W : World) : Hk
  | [v, u] => some (v = u ∧ ∃ x w, u = objV x w ∧ XOK W x, .bool true)
  | _ => none
def hAct : Hk
  | [v, u] => some (v = u ∧ ∃ a, u = actV a, .bool true)
  | _ => none
def hOFI (c : W6 → F → Int → R3) : Hk
  | [o, f, .int .i64 b] => match decO o with
    | some (x, w) => match decF f with
      | some f => some (True, ret3 x (c w f b))
      | none => none
    | none => none
  | _ => none
def hOF (c : W6 → F → R3) : Hk
  | [o, f] => match decO o with
    | some (x, w) => match decF f with
      | some f => some (True, ret3 x (c w f))
      | none => none
    | none => none
  | _ => none
def hOFII (c : W6 → F → Int → Int → R3) : Hk
  | [o, f, .int .i64 a, .int .i64 b] => match decO o with
    | some (x, w) => match decF f with
      | some f => some (True, ret3 x (c w f a b))
      | none => none
    | none => none
  | _ => none

theorem gok_OFI {P : Program} {W : World} {hk : Hooks} (hm : ProgOK P) (hh : HookOK P W hk) {f : FuncId} {c : W6 → F → Int → R3} {n : Nat}
    (h : ∀ x w fr b, callL P W hk noL n f [objV x w, frV fr, .int .i64 b] (fun u => u = ret3 x (c w fr b))) : GOK P W f (hOFI c) := by
  refine gok hm hh fun vs s v hg hs => ⟨noL, n, ?_⟩
  unfold hOFI at hg
  split at hg <;> try (cases hg; done)
  split at hg <;> try (cases hg; done)
  rename_i ho
  split at hg <;> try (cases hg; done)
  rename_i hf
  simp only [Option.some.injEq, Prod.mk.injEq] at hg
  rw [decO_eq ho, decF_eq hf, ← hg.2]
  exact h _ _ _ _
theorem gok_OF {P : Program} {W : World} {hk : Hooks} (hm : ProgOK P) (hh : HookOK P W hk) {f : FuncId} {c : W6 → F → R3} {n : Nat}
    (h : ∀ x w fr, callL P W hk noL n f [objV x w, frV fr] (fun u => u = ret3 x (c w fr))) : GOK P W f (hOF c) := by
  refine gok hm hh fun vs s v hg hs => ⟨noL, n, ?_⟩
  unfold hOF at hg
  split at hg <;> try (cases hg; done)
  split at hg <;> try (cases hg; done)
  rename_i ho
  split at hg <;> try (cases hg; done)
  rename_i hf
  simp only [Option.some.injEq, Prod.mk.injEq] at hg
  rw [decO_eq ho, decF_eq hf, ← hg.2]
  exact h _ _ _
theorem gok_OFII {P : Program} {W : World} {hk : Hooks} (hm : ProgOK P) (hh : HookOK P W hk) {f : FuncId} {c : W6 → F → Int → Int → R3} {n : Nat}
    (h : ∀ x w fr a b, callL P W hk noL n f [objV x w, frV fr, .int .i64 a, .int .i64 b] (fun u => u = ret3 x (c w fr a b))) : GOK P W f (hOFII c) := by
  refine gok hm hh fun vs s v hg hs => ⟨noL, n, ?_⟩
  unfold hOFII at hg
  split at hg <;> try (cases hg; done)
  split at hg <;> try (cases hg; done)
  rename_i ho
  split at hg <;> try (cases hg; done)
  rename_i hf
  simp only [Option.some.injEq, Prod.mk.injEq] at hg
  rw [decO_eq ho, decF_eq hf, ← hg.2]
  exact h _ _ _ _ _
/-- As hOF, under a condition. -/
def hOFs (s : W6 → F → Prop) (c : W6 → F → R3) : Hk
  | [o, f] => match decO o with
    | some (x, w) => match decF f with
      | some f => some (s w f, ret3 x (c w f))
      | none => none
    | none => none
  | _ => none
theorem gok_OFs {P : Program} {W : World} {hk : Hooks} (hm : ProgOK P) (hh : HookOK P W hk) {f : FuncId} {s : W6 → F → Prop} {c : W6 → F → R3} {n : Nat}
    (h : ∀ x w fr, s w fr → callL P W hk noL n f [objV x w, frV fr] (fun u => u = ret3 x (c w fr))) : GOK P W f (hOFs s c) := by
  refine gok hm hh fun vs p v hg hs => ⟨noL, n, ?_⟩
  unfold hOFs at hg
  split at hg <;> try (cases hg; done)
  split at hg <;> try (cases hg; done)
  rename_i ho
  split at hg <;> try (cases hg; done)
  rename_i hf
  simp only [Option.some.injEq, Prod.mk.injEq] at hg
  rw [decO_eq ho, decF_eq hf, ← hg.2]
  rw [← hg.1] at hs
  exact h _ _ _ hs
end SX
end Go.Proofs.Ytegdbpbafdpkfaa
