/- Printed by a program of ours (gen.py): what the symbolic executor comes to. No condition. -/
import Derived.Test.YtlckkciicchneaaCF
import Derived.Test.YtlckkciicchneaaLK3
import Derived.Test.YtlckkciicchneaaSyX
import Derived.KernelRfl
set_option linter.unusedVariables false
open Go Go.Proofs
namespace Go.Proofs.Ytlckkciicchneaa
open SY
abbrev sl4 (l : List Int) : S := .t (.c (.sl [.int .i64, .int .i64, .int .i64, .int .i64] l none))
noncomputable def cL (a : S) : List Int := match a with
  | .t (.c c) => (match asL c with
    | some n => n
    | none => [])
  | _ => []
def KeepFew (l : List Int) : Prop := l.length < 1000000
def KeepF4 (l : List Int) : Prop := l.length < 1000000 ∧ l.length % 4 = 0
noncomputable def hEqV (eq : List Int → List Int → Bool) : Hk := fun vs => match vs with
  | [a, b] => some (subS (slI (cL a)) a ∧ subS (slI (cL b)) b ∧ KeepFew (cL a), bS (eq (cL a) (cL b)))
  | _ => none
noncomputable def hEq4 (eq : List Int → List Int → Bool) : Hk := fun vs => match vs with
  | [a, b] => some (subS (sl4 (cL a)) a ∧ subS (sl4 (cL b)) b ∧ KeepF4 (cL a) ∧ KeepF4 (cL b), bS (eq (cL a) (cL b)))
  | _ => none
def KeepEq (a b : List Int) : Bool := decide (a = b)
def KeepPre (a b : List Int) (z : NX) : Prop := z.i ≤ a.length ∧ a.take z.i = b.take z.i
noncomputable def hintEq (p : Nat) (a b : List Int) : Hint where
  X := NX
  sl := fun z => [(pth p, iS z.i)]
  bl := fun _ => []
  tp := []
  nx := 0
  I := fun z => KeepPre a b z
  mu := fun z => a.length - z.i
def KeepPr4 (a b : List Int) (z : NX) : Prop := 4 * z.i ≤ a.length ∧ a.take (4 * z.i) = b.take (4 * z.i)
noncomputable def hintE4 (p : Nat) (a b : List Int) : Hint where
  X := NX
  sl := fun z => [(pth p, iS z.i)]
  bl := fun _ => []
  tp := []
  nx := 0
  I := fun z => KeepPr4 a b z
  mu := fun z => a.length - z.i
noncomputable def hkE (e4 eq : List Int → List Int → Bool) : Hooks := hkL [(31, hEq4 e4), (32, hEqV eq), (33, hEqV eq)]
noncomputable def hintSm (a b : PF) : Hint where
  X := NX
  sl := fun z => [(pth 2, .t (.c (.own 0 0))), (pth 3, .t (.c (.own 1 0))), (pth 5, iS z.i)]
  bl := fun _ => [(0, .cells (prgL a) 25), (1, .cells (prgL b) 25)]
  tp := []
  nx := 100
  I := fun z => KeepPr4 a.cd b.cd z
  mu := fun z => a.cd.length - z.i

set_option maxRecDepth 100000
set_option linter.all false
theorem ints_res (a b : List Int) (r : Bool) : (callT Try.prog (hkL []) tab (lhL [(1, hintEq 5 a b)]) 10 33 [slI a, slI b] (fun u => subS (bS r) u)) = (br (!decide ((↑a.length : Int) = (↑b.length : Int))) (r = false) ((∃ (x : NX), KeepPre a b x ∧ ((↑x.1 : Int) = (0 : Int) ∧ True) ∧ True) ∧ ∀ (x : NX), KeepPre a b x → br (decide ((↑x.1 : Int) < (↑a.length : Int))) (br (true && decide ((↑x.1 : Int) < (↑a.length : Int))) (br (true && decide ((↑x.1 : Int) < (↑b.length : Int))) (br (!decide (gI a (↑x.1 : Int).toNat = gI b (↑x.1 : Int).toNat)) (r = false) (∃ (x' : NX), KeepPre a b x' ∧ a.length - x'.1 < a.length - x.1 ∧ ((↑x'.1 : Int) = IntKind.i64.wrap ((↑x.1 : Int) + (1 : Int)) ∧ True) ∧ True)) False) False) (r = true))) := by kernel_rfl
theorem equal_res (a b : List Int) (r : Bool) : (callT Try.prog (hkL []) tab (lhL [(1, hintEq 13 a b)]) 10 32 [slI a, slI b] (fun u => subS (bS r) u)) = (br (!decide ((↑a.length : Int) = (↑b.length : Int))) (r = false) ((∃ (x : NX), KeepPre a b x ∧ ((↑x.1 : Int) = (0 : Int) ∧ True) ∧ True) ∧ ∀ (x : NX), KeepPre a b x → br (decide ((↑x.1 : Int) < (↑a.length : Int))) (br (true && decide ((↑x.1 : Int) < (↑a.length : Int))) (br (true && decide ((↑x.1 : Int) < (↑b.length : Int))) (br (!decide (gI a (↑x.1 : Int).toNat = gI b (↑x.1 : Int).toNat)) (r = false) (∃ (x' : NX), KeepPre a b x' ∧ a.length - x'.1 < a.length - x.1 ∧ ((↑x'.1 : Int) = IntKind.i64.wrap ((↑x.1 : Int) + (1 : Int)) ∧ True) ∧ True)) False) False) (r = true))) := by kernel_rfl
theorem equal4_res (a b : List Int) (r : Bool) : (callT Try.prog (hkL []) tab (lhL [(1, hintE4 13 a b)]) 10 31 [sl4 a, sl4 b] (fun u => subS (bS r) u)) = (br (!decide ((↑(a.length / 4) : Int) = (↑(b.length / 4) : Int))) (r = false) ((∃ (x : NX), KeepPr4 a b x ∧ ((↑x.1 : Int) = (0 : Int) ∧ True) ∧ True) ∧ ∀ (x : NX), KeepPr4 a b x → br (decide ((↑x.1 : Int) < (↑(a.length / 4) : Int))) (br (true && decide ((↑x.1 : Int) < (↑(a.length / 4) : Int))) (br (true && decide ((↑x.1 : Int) < (↑(b.length / 4) : Int))) (br (!(decide (gI a ((↑x.1 : Int).toNat * 4) = gI b ((↑x.1 : Int).toNat * 4)) && (decide (gI a ((↑x.1 : Int).toNat * 4 + 1) = gI b ((↑x.1 : Int).toNat * 4 + 1)) && (decide (gI a ((↑x.1 : Int).toNat * 4 + 1 + 1) = gI b ((↑x.1 : Int).toNat * 4 + 1 + 1)) && (decide (gI a ((↑x.1 : Int).toNat * 4 + 1 + 1 + 1) = gI b ((↑x.1 : Int).toNat * 4 + 1 + 1 + 1)) && true))))) (r = false) (∃ (x' : NX), KeepPr4 a b x' ∧ a.length - x'.1 < a.length - x.1 ∧ ((↑x'.1 : Int) = IntKind.i64.wrap ((↑x.1 : Int) + (1 : Int)) ∧ True) ∧ True)) False) False) (r = true))) := by kernel_rfl
theorem same_res (e4 eq : List Int → List Int → Bool) (p q : PF) (r : Bool) : (callT Try.prog (hkE e4 eq) tab noL 10 15 [prgV p, prgV q] (fun u => subS (bS r) u)) = ((p.1 = p.1 ∧ q.1 = q.1 ∧ KeepF4 p.1 ∧ KeepF4 q.1) ∧ br (e4 (cL (S.t (T.c (SC.sl [CK.int IntKind.i64, CK.int IntKind.i64, CK.int IntKind.i64, CK.int IntKind.i64] p.cd none)))) (cL (S.t (T.c (SC.sl [CK.int IntKind.i64, CK.int IntKind.i64, CK.int IntKind.i64, CK.int IntKind.i64] q.cd none))))) ((p.2 = p.2 ∧ q.2 = q.2 ∧ KeepFew p.2) ∧ br (eq (cL (S.t (T.c (SC.sl [CK.int IntKind.i64] p.ks none)))) (cL (S.t (T.c (SC.sl [CK.int IntKind.i64] q.ks none))))) ((p.3 = p.3 ∧ q.3 = q.3 ∧ KeepFew p.3) ∧ br (eq (cL (S.t (T.c (SC.sl [CK.int IntKind.i64] p.sz none)))) (cL (S.t (T.c (SC.sl [CK.int IntKind.i64] q.sz none))))) (br (decide (p.4 = q.4)) (br (decide (p.5 = q.5)) (r = decide (p.6 = q.6)) (r = false)) (r = false)) (r = false)) (r = false)) (r = false)) := by kernel_rfl
theorem rsame_res (e4 eq : List Int → List Int → Bool) (p q : PF) (r : Bool) : (callT Try.prog (hkE e4 eq) tab (lhL [(1, hintSm p q)]) 10 16 [prgV p, prgV q] (fun u => subS (bS r) u)) = (br (!decide ((↑(p.1.length / 4) : Int) = (↑(q.1.length / 4) : Int))) (r = false) (br (!decide (p.4 = q.4)) (r = false) (br (!decide (p.5 = q.5)) (r = false) (br (!decide (p.6 = q.6)) (r = false) ((∃ (x : NX), KeepPr4 p.1 q.1 x ∧ (True ∧ True ∧ (↑x.1 : Int) = (0 : Int) ∧ True) ∧ (p.1 = p.1 ∧ p.2 = p.2 ∧ p.3 = p.3 ∧ p.4 = p.4 ∧ p.5 = p.5 ∧ p.6 = p.6 ∧ True) ∧ (q.1 = q.1 ∧ q.2 = q.2 ∧ q.3 = q.3 ∧ q.4 = q.4 ∧ q.5 = q.5 ∧ q.6 = q.6 ∧ True) ∧ True) ∧ ∀ (x : NX), KeepPr4 p.1 q.1 x → br (decide ((↑x.1 : Int) < (↑(p.1.length / 4) : Int))) (br (true && decide ((↑x.1 : Int) < (↑(p.1.length / 4) : Int))) (br (true && decide ((↑x.1 : Int) < (↑(q.1.length / 4) : Int))) (br (!(decide (gI p.1 ((↑x.1 : Int).toNat * 4) = gI q.1 ((↑x.1 : Int).toNat * 4)) && (decide (gI p.1 ((↑x.1 : Int).toNat * 4 + 1) = gI q.1 ((↑x.1 : Int).toNat * 4 + 1)) && (decide (gI p.1 ((↑x.1 : Int).toNat * 4 + 1 + 1) = gI q.1 ((↑x.1 : Int).toNat * 4 + 1 + 1)) && (decide (gI p.1 ((↑x.1 : Int).toNat * 4 + 1 + 1 + 1) = gI q.1 ((↑x.1 : Int).toNat * 4 + 1 + 1 + 1)) && true))))) (r = false) (∃ (x' : NX), KeepPr4 p.1 q.1 x' ∧ p.1.length - x'.1 < p.1.length - x.1 ∧ (True ∧ True ∧ (↑x'.1 : Int) = IntKind.i64.wrap ((↑x.1 : Int) + (1 : Int)) ∧ True) ∧ (p.1 = p.1 ∧ p.2 = p.2 ∧ p.3 = p.3 ∧ p.4 = p.4 ∧ p.5 = p.5 ∧ p.6 = p.6 ∧ True) ∧ (q.1 = q.1 ∧ q.2 = q.2 ∧ q.3 = q.3 ∧ q.4 = q.4 ∧ q.5 = q.5 ∧ q.6 = q.6 ∧ True) ∧ True)) False) False) ((p.2 = p.2 ∧ q.2 = q.2 ∧ KeepFew p.2) ∧ br (eq (cL (S.t (T.c (SC.sl [CK.int IntKind.i64] p.ks none)))) (cL (S.t (T.c (SC.sl [CK.int IntKind.i64] q.ks none))))) ((p.3 = p.3 ∧ q.3 = q.3 ∧ KeepFew p.3) ∧ r = eq (cL (S.t (T.c (SC.sl [CK.int IntKind.i64] p.sz none)))) (cL (S.t (T.c (SC.sl [CK.int IntKind.i64] q.sz none))))) (r = false))))))) := by kernel_rfl
end Go.Proofs.Ytlckkciicchneaa
