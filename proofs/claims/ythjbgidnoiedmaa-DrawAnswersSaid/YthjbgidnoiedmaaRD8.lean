/- Printed by a program of ours (gen.py): what the symbolic executor comes to. No condition. -/
import Derived.Test.YthjbgidnoiedmaaCF
import Derived.Test.YthjbgidnoiedmaaLD7
import Derived.KernelRfl
set_option linter.unusedVariables false
open Go Go.Proofs
namespace Go.Proofs.Ythjbgidnoiedmaa
open SY
def clI (x : Int) : Int := if 9218868437227405312 < x % 9223372036854775808 then 4 else if x % 9223372036854775808 = 9218868437227405312 then 3 else if 4503599627370496 ≤ x % 9223372036854775808 then 2 else if 0 < x % 9223372036854775808 then 1 else 0
def KeepCl (x : Int) : Int := clI x
noncomputable def hClass : Hk := fun vs => match vs with
  | [a] => some (subS (uS (cI a)) a ∧ KeepU (cI a), iS (KeepCl (cI a)))
  | _ => none
def skI (x : Int) : Int := if 9223372036854775808 ≤ x then -(x - 9223372036854775808) else x
def nanI (x : Int) : Bool := decide (9218868437227405312 < x % 9223372036854775808)
def KeepKy (x : Int) : Int := if 9223372036854775808 ≤ x then 18446744073709551615 - x else x + 9223372036854775808
def KeepLs (x y : Int) : Bool := !nanI x && (!nanI y && decide (skI x < skI y))
noncomputable def h1 (sv : Int → S) (f : Int → S) : Hk := fun vs => match vs with
  | [a] => some (subS (sv (cI a)) a ∧ KeepU (cI a), f (cI a))
  | _ => none
noncomputable def h2 (f : Int → Int → S) : Hk := fun vs => match vs with
  | [a, b] => some (subS (uS (cI a)) a ∧ subS (uS (cI b)) b ∧ KeepU (cI a) ∧ KeepU (cI b), f (cI a) (cI b))
  | _ => none
noncomputable def hKey : Hk := h1 (fun x => uS x) fun x => uS (KeepKy x)
noncomputable def hLess : Hk := h2 fun x y => bS (KeepLs x y)
noncomputable def hkY : Hooks := hkL [(35, hClass), (36, hKey)]
noncomputable def hkXc (un : Int → Int) : Hooks := hkL [(17, hUnitV un), (18, hUnitV un), (30, hLess), (27, hBits), (37, hFrom)]

set_option maxRecDepth 100000
set_option linter.all false
theorem rclass_res (x r : Int) : (callT Try.prog hkF tab noL 10 35 [uS x] (fun u => subS (iS r) u)) = (br (decide (IntKind.i64.wrap (bAnd IntKind.u64 (sShr IntKind.u64 x (52 : Int)) (2047 : Int)) = (2047 : Int))) (br (!decide (x.tmod (4503599627370496 : Int) = (0 : Int))) (r = (4 : Int)) (br (decide (IntKind.i64.wrap (bAnd IntKind.u64 (sShr IntKind.u64 x (52 : Int)) (2047 : Int)) = (2047 : Int))) (r = (3 : Int)) (br (decide (IntKind.i64.wrap (bAnd IntKind.u64 (sShr IntKind.u64 x (52 : Int)) (2047 : Int)) > (0 : Int))) (r = (2 : Int)) (br (!decide (x.tmod (4503599627370496 : Int) = (0 : Int))) (r = (1 : Int)) (r = (0 : Int)))))) (br (decide (IntKind.i64.wrap (bAnd IntKind.u64 (sShr IntKind.u64 x (52 : Int)) (2047 : Int)) = (2047 : Int))) (r = (3 : Int)) (br (decide (IntKind.i64.wrap (bAnd IntKind.u64 (sShr IntKind.u64 x (52 : Int)) (2047 : Int)) > (0 : Int))) (r = (2 : Int)) (br (!decide (x.tmod (4503599627370496 : Int) = (0 : Int))) (r = (1 : Int)) (r = (0 : Int)))))) := by kernel_rfl
theorem rkey_res (x r : Int) : (callT Try.prog hkF tab noL 10 36 [uS x] (fun u => subS (uS r) u)) = (br (decide (sShr IntKind.u64 x (63 : Int) = (1 : Int))) (r = IntKind.u64.wrap ((18446744073709551615 : Int) - x)) (r = IntKind.u64.wrap (x + (9223372036854775808 : Int)))) := by kernel_rfl
theorem rless_res (x y : Int) (r : Bool) : (callT Try.prog hkY tab noL 10 30 [uS x, uS y] (fun u => subS (bS r) u)) = ((x = x ∧ KeepU x) ∧ br (decide (KeepCl x = (4 : Int))) (r = false) ((y = y ∧ KeepU y) ∧ br (decide (KeepCl y = (4 : Int))) (r = false) ((x = x ∧ KeepU x) ∧ br (decide (KeepCl x = (0 : Int))) ((y = y ∧ KeepU y) ∧ br (decide (KeepCl y = (0 : Int))) (r = false) ((x = x ∧ KeepU x) ∧ (y = y ∧ KeepU y) ∧ r = decide (KeepKy x < KeepKy y))) ((x = x ∧ KeepU x) ∧ (y = y ∧ KeepU y) ∧ r = decide (KeepKy x < KeepKy y))))) := by kernel_rfl
theorem chance_res (un : Int → Int) (w p : Int) (r : Bool) : (callT Try.prog (hkXc un) tab noL 10 19 [uS w, uS p] (fun u => subS (bS r) u)) = ((w = w ∧ KeepU w) ∧ un (cI (S.t (T.c (SC.v (Value.int IntKind.u64 w))))) = un (cI (S.t (T.c (SC.v (Value.int IntKind.u64 w))))) ∧ p = p ∧ r = KeepFo BinOp.lss (KeepN (un (cI (S.t (T.c (SC.v (Value.int IntKind.u64 w))))))) (KeepN p)) := by kernel_rfl
theorem rchance_res (un : Int → Int) (w p : Int) (r : Bool) : (callT Try.prog (hkXc un) tab noL 10 20 [uS w, uS p] (fun u => subS (bS r) u)) = ((w = w ∧ KeepU w) ∧ (un (cI (S.t (T.c (SC.v (Value.int IntKind.u64 w))))) = un (cI (S.t (T.c (SC.v (Value.int IntKind.u64 w))))) ∧ p = p ∧ KeepU (un (cI (S.t (T.c (SC.v (Value.int IntKind.u64 w)))))) ∧ KeepU p) ∧ r = KeepLs (un (cI (S.t (T.c (SC.v (Value.int IntKind.u64 w)))))) p) := by kernel_rfl
end Go.Proofs.Ythjbgidnoiedmaa
