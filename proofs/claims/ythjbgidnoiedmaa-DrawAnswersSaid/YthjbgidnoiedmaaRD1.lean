/- Printed by a program of ours (gen.py): what the symbolic executor comes to. No condition. -/
import Derived.Test.YthjbgidnoiedmaaCF
import Derived.Test.YthjbgidnoiedmaaSyV
import Derived.Test.YthjbgidnoiedmaaSyW
import Derived.KernelRfl
set_option linter.unusedVariables false
open Go Go.Proofs
namespace Go.Proofs.Ythjbgidnoiedmaa
open SY
abbrev iS (x : Int) : S := .t (.c (.v (.int .i64 x)))
abbrev uS (x : Int) : S := .t (.c (.v (.int .u64 x)))
abbrev fS (x : Nat) : S := .t (.c (.v (.float .f64 x)))
abbrev tru (s : S) : Prop := s = .t (.c (.v (.bool true)))
abbrev bS (b : Bool) : S := .t (.c (.v (.bool b)))
abbrev slU (l : List Int) : S := .t (.c (.sl [.int .u64] l none))
noncomputable def cI (a : S) : Int := match a with
  | .t (.c c) => (match asI c with
    | some n => n
    | none => 0)
  | _ => 0
noncomputable def cF (a : S) : Nat := match fltS a with
  | some n => n
  | none => 0
def KeepU (x : Int) : Prop := 0 ≤ x ∧ x < 18446744073709551616
def KeepN (x : Int) : Nat := x.toNat
noncomputable def hBits : Hk := fun vs => match vs with
  | [a] => some (subS (fS (cF a)) a, uS (cF a))
  | _ => none
noncomputable def hFrom : Hk := fun vs => match vs with
  | [a] => some (subS (uS (cI a)) a, fS (KeepN (cI a)))
  | _ => none
def mxI (z d t : Int) : Int := IntKind.u64.wrap (bXor .u64 z (sShr .u64 z d) * t)
def wdI (z : Int) : Int := bXor .u64 (mxI (mxI z 30 13787848793156543929) 27 10723151780598845931) (sShr .u64 (mxI (mxI z 30 13787848793156543929) 27 10723151780598845931) 31)
def KeepWd (z : Int) : Int := wdI z
def KeepNx (s : Int) : Int := IntKind.u64.wrap (s + 11400714819323198485)
def stI (s : Int) : Nat → Int
  | 0 => s
  | n + 1 => KeepNx (stI s n)
def wlI (s : Int) : Nat → List Int
  | 0 => []
  | n + 1 => wlI s n ++ [KeepWd (KeepNx (stI s n))]
def cntI (n : Int) : Nat := if n < 0 ∨ n > 1000 then 0 else n.toNat
def KeepMl (s n : Int) : List Int := wlI s (cntI n)
def KeepMt (s n : Int) : Int := stI s (cntI n)
def KeepWl (s : Int) (i : Nat) : List Int := wlI s i
def KeepSt (s : Int) (i : Nat) : Int := stI s i
def nextT (s : Int) : S := .tup [.c (.v (.int .u64 (KeepNx s))), .c (.v (.int .u64 (KeepWd (KeepNx s))))]
def manyT (s n : Int) : S := .tup [.c (.sl [.int .u64] (KeepMl s n) none), .c (.v (.int .u64 (KeepMt s n)))]
noncomputable def hNext : Hk := fun vs => match vs with
  | [a] => some (subS (uS (cI a)) a ∧ KeepU (cI a), nextT (cI a))
  | _ => none
noncomputable def hMany : Hk := fun vs => match vs with
  | [a, b] => some (subS (uS (cI a)) a ∧ subS (iS (cI b)) b ∧ KeepU (cI a), manyT (cI a) (cI b))
  | _ => none
noncomputable def hkA : Hooks := hkL [(10, hNext), (11, hNext)]
noncomputable def hkB : Hooks := hkL [(10, hNext), (12, hMany), (27, hBits), (37, hFrom)]
structure NX where
  i : Nat
def KeepLe (n : Int) (z : NX) : Prop := z.i ≤ 1000 ∧ (z.i = 0 ∨ (z.i ≤ n ∧ n ≤ 1000))
noncomputable def hintMany (s n : Int) : Hint where
  X := NX
  sl := fun z => [(pth 0, uS (KeepSt s z.i)), (pth 4, .t (.c (.sl [.int .u64] (KeepWl s z.i) (some (40, 0))))), (pth 15, iS z.i)]
  bl := fun _ => [(40, .tok 22 0)]
  tp := [(40, .inl (pth 4))]
  nx := 41
  I := fun z => KeepLe n z
  mu := fun z => 1000 - z.i
noncomputable def hintRMany (s n : Int) : Hint where
  X := NX
  sl := fun z => [(pth 0, uS (KeepSt s z.i)), (pth 6, .t (.c (.sl [.int .u64] (KeepWl s z.i) (some (40, 0))))), (pth 7, iS z.i)]
  bl := fun _ => [(40, .tok 22 0)]
  tp := [(40, .inl (pth 6))]
  nx := 41
  I := fun z => KeepLe n z
  mu := fun z => 1000 - z.i

set_option maxRecDepth 100000
set_option linter.all false
theorem next_res (s : Int) : (callT Try.prog (hkL []) tab noL 10 10 [uS s] (fun u => subS (nextT s) u)) = (KeepNx s = IntKind.u64.wrap (s + (11400714819323198485 : Int)) ∧ KeepWd (KeepNx s) = bXor IntKind.u64 (IntKind.u64.wrap (bXor IntKind.u64 (IntKind.u64.wrap (bXor IntKind.u64 (IntKind.u64.wrap (s + (11400714819323198485 : Int))) (sShr IntKind.u64 (IntKind.u64.wrap (s + (11400714819323198485 : Int))) (30 : Int)) * (13787848793156543929 : Int))) (sShr IntKind.u64 (IntKind.u64.wrap (bXor IntKind.u64 (IntKind.u64.wrap (s + (11400714819323198485 : Int))) (sShr IntKind.u64 (IntKind.u64.wrap (s + (11400714819323198485 : Int))) (30 : Int)) * (13787848793156543929 : Int))) (27 : Int)) * (10723151780598845931 : Int))) (sShr IntKind.u64 (IntKind.u64.wrap (bXor IntKind.u64 (IntKind.u64.wrap (bXor IntKind.u64 (IntKind.u64.wrap (s + (11400714819323198485 : Int))) (sShr IntKind.u64 (IntKind.u64.wrap (s + (11400714819323198485 : Int))) (30 : Int)) * (13787848793156543929 : Int))) (sShr IntKind.u64 (IntKind.u64.wrap (bXor IntKind.u64 (IntKind.u64.wrap (s + (11400714819323198485 : Int))) (sShr IntKind.u64 (IntKind.u64.wrap (s + (11400714819323198485 : Int))) (30 : Int)) * (13787848793156543929 : Int))) (27 : Int)) * (10723151780598845931 : Int))) (31 : Int)) ∧ True) := by kernel_rfl
theorem rnext_res (s : Int) : (callT Try.prog (hkL []) tab noL 10 11 [uS s] (fun u => subS (nextT s) u)) = (KeepNx s = IntKind.u64.wrap (s + (11400714819323198485 : Int)) ∧ KeepWd (KeepNx s) = bXor IntKind.u64 (IntKind.u64.wrap (bXor IntKind.u64 (IntKind.u64.wrap (bXor IntKind.u64 (IntKind.u64.wrap (s + (11400714819323198485 : Int))) (IntKind.u64.wrap ((IntKind.u64.wrap (s + (11400714819323198485 : Int))).tdiv (1073741824 : Int))) * (13787848793156543929 : Int))) (IntKind.u64.wrap ((IntKind.u64.wrap (bXor IntKind.u64 (IntKind.u64.wrap (s + (11400714819323198485 : Int))) (IntKind.u64.wrap ((IntKind.u64.wrap (s + (11400714819323198485 : Int))).tdiv (1073741824 : Int))) * (13787848793156543929 : Int))).tdiv (134217728 : Int))) * (10723151780598845931 : Int))) (IntKind.u64.wrap ((IntKind.u64.wrap (bXor IntKind.u64 (IntKind.u64.wrap (bXor IntKind.u64 (IntKind.u64.wrap (s + (11400714819323198485 : Int))) (IntKind.u64.wrap ((IntKind.u64.wrap (s + (11400714819323198485 : Int))).tdiv (1073741824 : Int))) * (13787848793156543929 : Int))) (IntKind.u64.wrap ((IntKind.u64.wrap (bXor IntKind.u64 (IntKind.u64.wrap (s + (11400714819323198485 : Int))) (IntKind.u64.wrap ((IntKind.u64.wrap (s + (11400714819323198485 : Int))).tdiv (1073741824 : Int))) * (13787848793156543929 : Int))).tdiv (134217728 : Int))) * (10723151780598845931 : Int))).tdiv (2147483648 : Int))) ∧ True) := by kernel_rfl
theorem many_res (s n : Int) : (callT Try.prog hkA tab (lhL [(1, hintMany s n)]) 10 12 [uS s, iS n] (fun u => subS (manyT s n) u)) = (br (decide (n < (0 : Int))) (KeepMl s n = [] ∧ KeepMt s n = s ∧ True) (br (decide (n > (1000 : Int))) (KeepMl s n = [] ∧ KeepMt s n = s ∧ True) ((∃ (x : NX), KeepLe n x ∧ (KeepSt s x.1 = s ∧ KeepWl s x.1 = [] ∧ (↑x.1 : Int) = (0 : Int) ∧ True) ∧ True ∧ True) ∧ ∀ (x : NX), KeepLe n x → br (decide ((↑x.1 : Int) < n)) ((KeepSt s x.1 = KeepSt s x.1 ∧ KeepU (KeepSt s x.1)) ∧ br (((KeepWl s x.1).length + 1).ble 1099511627776) (∃ (x' : NX), KeepLe n x' ∧ 1000 - x'.1 < 1000 - x.1 ∧ (KeepSt s x'.1 = KeepNx (KeepSt s x.1) ∧ KeepWl s x'.1 = KeepWl s x.1 ++ [KeepWd (KeepNx (KeepSt s x.1))] ∧ (↑x'.1 : Int) = IntKind.i64.wrap ((↑x.1 : Int) + (1 : Int)) ∧ True) ∧ True ∧ True) False) (KeepMl s n = KeepWl s x.1 ∧ KeepMt s n = KeepSt s x.1 ∧ True)))) := by kernel_rfl
theorem rmany_res (s n : Int) : (callT Try.prog hkA tab (lhL [(1, hintRMany s n)]) 10 13 [uS s, iS n] (fun u => subS (manyT s n) u)) = ((∃ (x : NX), KeepLe n x ∧ (KeepSt s x.1 = s ∧ KeepWl s x.1 = [] ∧ (↑x.1 : Int) = (0 : Int) ∧ True) ∧ True ∧ True) ∧ ∀ (x : NX), KeepLe n x → br (decide ((↑x.1 : Int) < n)) (br (decide (n ≤ (1000 : Int))) ((KeepSt s x.1 = KeepSt s x.1 ∧ KeepU (KeepSt s x.1)) ∧ br (((KeepWl s x.1).length + 1).ble 1099511627776) (∃ (x' : NX), KeepLe n x' ∧ 1000 - x'.1 < 1000 - x.1 ∧ (KeepSt s x'.1 = KeepNx (KeepSt s x.1) ∧ KeepWl s x'.1 = KeepWl s x.1 ++ [KeepWd (KeepNx (KeepSt s x.1))] ∧ (↑x'.1 : Int) = IntKind.i64.wrap ((↑x.1 : Int) + (1 : Int)) ∧ True) ∧ True ∧ True) False) (KeepMl s n = KeepWl s x.1 ∧ KeepMt s n = KeepSt s x.1 ∧ True)) (KeepMl s n = KeepWl s x.1 ∧ KeepMt s n = KeepSt s x.1 ∧ True)) := by kernel_rfl
theorem alive_res (s : Int) : (callT Try.prog hkB tab noL 10 9 [] tru) = (((0 : Int) = (0 : Int) ∧ KeepU (0 : Int)) ∧ ((0 : Int) = (0 : Int) ∧ (2 : Int) = (2 : Int) ∧ KeepU (0 : Int)) ∧ Value.float FloatKind.f64 4841369599423283200 = Value.float FloatKind.f64 4841369599423283200 ∧ (4841369599423283200 : Int) = (4841369599423283200 : Int) ∧ Value.float FloatKind.f64 4841369599423283200 = Value.float FloatKind.f64 4841369599423283200 ∧ (4841369599423283200 : Int) = (4841369599423283200 : Int) ∧ Value.float FloatKind.f64 4841369599423283200 = Value.float FloatKind.f64 4841369599423283200 ∧ (4602678819172646912 : Int) = (4602678819172646912 : Int) ∧ ∀ (r : Nat), KeepFr (FQ.ar BinOp.mul) 4607182418800017408 4602678819172646912 r → Value.float FloatKind.f64 r = Value.float FloatKind.f64 r ∧ br (decide ((↑r : Int) = (4602678819172646912 : Int))) (Value.float FloatKind.f64 4836865999795912704 = Value.float FloatKind.f64 4836865999795912704 ∧ (4836865999795912704 : Int) = (4836865999795912704 : Int) ∧ Value.float FloatKind.f64 4836865999795912704 = Value.float FloatKind.f64 4836865999795912704 ∧ (4836865999795912704 : Int) = (4836865999795912704 : Int) ∧ Value.float FloatKind.f64 4836865999795912704 = Value.float FloatKind.f64 4836865999795912704 ∧ (4598175219545276416 : Int) = (4598175219545276416 : Int) ∧ ∀ (r : Nat), KeepFr (FQ.ar BinOp.mul) 4607182418800017408 4598175219545276416 r → Value.float FloatKind.f64 r = Value.float FloatKind.f64 r ∧ (↑r : Int) = (↑r : Int) ∧ (4602678819172646912 : Int) = (4602678819172646912 : Int) ∧ br (KeepFo BinOp.lss (KeepN (↑r : Int)) 4602678819172646912) (Value.float FloatKind.f64 4841369599423283200 = Value.float FloatKind.f64 4841369599423283200 ∧ (4841369599423283200 : Int) = (4841369599423283200 : Int) ∧ Value.float FloatKind.f64 4841369599423283200 = Value.float FloatKind.f64 4841369599423283200 ∧ (4841369599423283200 : Int) = (4841369599423283200 : Int) ∧ Value.float FloatKind.f64 4841369599423283200 = Value.float FloatKind.f64 4841369599423283200 ∧ (4602678819172646912 : Int) = (4602678819172646912 : Int) ∧ ∀ (r : Nat), KeepFr (FQ.ar BinOp.mul) 4607182418800017408 4602678819172646912 r → Value.float FloatKind.f64 r = Value.float FloatKind.f64 r ∧ (↑r : Int) = (↑r : Int) ∧ (4602678819172646912 : Int) = (4602678819172646912 : Int) ∧ S.t (T.c (SC.v (Value.bool !KeepFo BinOp.lss (KeepN (↑r : Int)) 4602678819172646912))) = S.t (T.c (SC.v (Value.bool true)))) (S.t (T.c (SC.v (Value.bool false))) = S.t (T.c (SC.v (Value.bool true))))) (S.t (T.c (SC.v (Value.bool false))) = S.t (T.c (SC.v (Value.bool true))))) := by kernel_rfl
end Go.Proofs.Ythjbgidnoiedmaa
