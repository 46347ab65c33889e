/- Printed by a program of ours (gen.py): what the symbolic executor comes to. No condition. -/
import Derived.Test.YthjbgidnoiedmaaCF
import Derived.Test.YthjbgidnoiedmaaLD1
import Derived.KernelRfl
set_option linter.unusedVariables false
open Go Go.Proofs
namespace Go.Proofs.Ythjbgidnoiedmaa
open SY
def KeepBl (w n : Int) : Int := if n < 1 then 0 else w * n / 18446744073709551616
def KeepI (x : Int) : Prop := -9223372036854775808 ≤ x ∧ x < 9223372036854775808
noncomputable def hBelow : Hk := fun vs => match vs with
  | [a, b] => some (subS (uS (cI a)) a ∧ subS (iS (cI b)) b ∧ KeepU (cI a) ∧ KeepI (cI b), iS (KeepBl (cI a) (cI b)))
  | _ => none
noncomputable def hkD : Hooks := hkL [(9, hAlive), (15, hBelow)]

set_option maxRecDepth 100000
set_option linter.all false
theorem below_res (w n r : Int) : (callT Try.prog (hkL []) tab noL 10 15 [uS w, iS n] (fun u => subS (iS r) u)) = (br (decide (n < (1 : Int))) (r = (0 : Int)) (r = IntKind.i64.wrap (IntKind.u64.wrap (IntKind.u64.wrap (IntKind.u64.wrap (sShr IntKind.u64 w (32 : Int) * sShr IntKind.u64 (IntKind.u64.wrap n) (32 : Int)) + sShr IntKind.u64 (IntKind.u64.wrap (IntKind.u64.wrap (sShr IntKind.u64 w (32 : Int) * bAnd IntKind.u64 (IntKind.u64.wrap n) (4294967295 : Int)) + sShr IntKind.u64 (IntKind.u64.wrap (bAnd IntKind.u64 w (4294967295 : Int) * bAnd IntKind.u64 (IntKind.u64.wrap n) (4294967295 : Int))) (32 : Int))) (32 : Int)) + sShr IntKind.u64 (IntKind.u64.wrap (bAnd IntKind.u64 (IntKind.u64.wrap (IntKind.u64.wrap (sShr IntKind.u64 w (32 : Int) * bAnd IntKind.u64 (IntKind.u64.wrap n) (4294967295 : Int)) + sShr IntKind.u64 (IntKind.u64.wrap (bAnd IntKind.u64 w (4294967295 : Int) * bAnd IntKind.u64 (IntKind.u64.wrap n) (4294967295 : Int))) (32 : Int))) (4294967295 : Int) + IntKind.u64.wrap (bAnd IntKind.u64 w (4294967295 : Int) * sShr IntKind.u64 (IntKind.u64.wrap n) (32 : Int)))) (32 : Int))))) := by kernel_rfl
theorem lbelow_res (w v n : Int) : (callT Try.prog hkD tab noL 10 6 [uS w, uS v, iS n] tru) = (True ∧ (w = w ∧ n = n ∧ KeepU w ∧ KeepI n) ∧ br (decide (n < (1 : Int))) (S.t (T.c (SC.v (Value.bool (decide (KeepBl w n = (0 : Int)))))) = S.t (T.c (SC.v (Value.bool true)))) (br (decide (KeepBl w n ≥ (0 : Int))) (br (decide (KeepBl w n < n)) ((imin w v = imin w v ∧ n = n ∧ KeepU (imin w v) ∧ KeepI n) ∧ (imax w v = imax w v ∧ n = n ∧ KeepU (imax w v) ∧ KeepI n) ∧ br (decide (KeepBl (imin w v) n ≤ KeepBl (imax w v) n)) (((0 : Int) = (0 : Int) ∧ n = n ∧ KeepU (0 : Int) ∧ KeepI n) ∧ br (decide (KeepBl (0 : Int) n = (0 : Int))) (((18446744073709551615 : Int) = (18446744073709551615 : Int) ∧ n = n ∧ KeepU (18446744073709551615 : Int) ∧ KeepI n) ∧ S.t (T.c (SC.v (Value.bool (decide (KeepBl (18446744073709551615 : Int) n = IntKind.i64.wrap (n - (1 : Int))))))) = S.t (T.c (SC.v (Value.bool true)))) (S.t (T.c (SC.v (Value.bool false))) = S.t (T.c (SC.v (Value.bool true))))) (S.t (T.c (SC.v (Value.bool false))) = S.t (T.c (SC.v (Value.bool true))))) (S.t (T.c (SC.v (Value.bool false))) = S.t (T.c (SC.v (Value.bool true))))) (S.t (T.c (SC.v (Value.bool false))) = S.t (T.c (SC.v (Value.bool true)))))) := by kernel_rfl
end Go.Proofs.Ythjbgidnoiedmaa
