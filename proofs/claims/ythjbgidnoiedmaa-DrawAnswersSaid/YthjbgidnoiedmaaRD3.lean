/- Printed by a program of ours (gen.py): what the symbolic executor comes to. No condition. -/
import Derived.Test.YthjbgidnoiedmaaCF
import Derived.Test.YthjbgidnoiedmaaLD1
import Derived.KernelRfl
set_option linter.unusedVariables false
open Go Go.Proofs
namespace Go.Proofs.Ythjbgidnoiedmaa
open SY
def KeepBk (s : Int) : Int := IntKind.u64.wrap (s - 11400714819323198485)
noncomputable def hBackV (bk : Int → Int) : Hk := fun vs => match vs with
  | [a] => some (subS (uS (cI a)) a ∧ KeepU (cI a), uS (bk (cI a)))
  | _ => none
noncomputable def hNextV (nx wd : Int → Int) : Hk := fun vs => match vs with
  | [a] => some (subS (uS (cI a)) a ∧ KeepU (cI a), .tup [.c (.v (.int .u64 (nx (cI a)))), .c (.v (.int .u64 (wd (nx (cI a)))))])
  | _ => none
noncomputable def hkC (nx wd bk : Int → Int) : Hooks := hkL [(9, hAlive), (10, hNextV nx wd), (21, hBackV bk)]

set_option maxRecDepth 100000
set_option linter.all false
theorem back_res (s r : Int) : (callT Try.prog (hkL []) tab noL 10 21 [uS s] (fun u => subS (uS r) u)) = (r = IntKind.u64.wrap (s - (11400714819323198485 : Int))) := by kernel_rfl
theorem unlike_res (nx wd bk : Int → Int) (s t : Int) : (callT Try.prog (hkC nx wd bk) tab noL 10 5 [uS s, uS t] tru) = (True ∧ (s = s ∧ KeepU s) ∧ (t = t ∧ KeepU t) ∧ br (decide (wd (nx (cI (S.t (T.c (SC.v (Value.int IntKind.u64 s)))))) = wd (nx (cI (S.t (T.c (SC.v (Value.int IntKind.u64 t))))))) == decide (s = t)) (br (decide (nx (cI (S.t (T.c (SC.v (Value.int IntKind.u64 s))))) = nx (cI (S.t (T.c (SC.v (Value.int IntKind.u64 t)))))) == decide (s = t)) ((nx (cI (S.t (T.c (SC.v (Value.int IntKind.u64 s))))) = nx (cI (S.t (T.c (SC.v (Value.int IntKind.u64 s))))) ∧ KeepU (nx (cI (S.t (T.c (SC.v (Value.int IntKind.u64 s))))))) ∧ S.t (T.c (SC.v (Value.bool (decide (bk (cI (S.t (T.c (SC.v (Value.int IntKind.u64 (nx (cI (S.t (T.c (SC.v (Value.int IntKind.u64 s))))))))))) = s))))) = S.t (T.c (SC.v (Value.bool true)))) (S.t (T.c (SC.v (Value.bool false))) = S.t (T.c (SC.v (Value.bool true))))) (S.t (T.c (SC.v (Value.bool false))) = S.t (T.c (SC.v (Value.bool true))))) := by kernel_rfl
end Go.Proofs.Ythjbgidnoiedmaa
