/- Printed by a program of ours (gen.py): what the symbolic executor comes to. No condition. -/
import Derived.Test.YtmmliaobjendoaaDoorCF
import Derived.Test.YtmmliaobjendoaaDoorSyV
import Derived.Test.YtmmliaobjendoaaDoorSyW
import Derived.KernelRfl
set_option linter.unusedVariables false
open Go Go.Proofs
namespace Go.Proofs.YtmmliaobjendoaaDoor
open SY
abbrev iS (x : Int) : S := .t (.c (.v (.int .i64 x)))
abbrev uS (x : Int) : S := .t (.c (.v (.int .u32 x)))
abbrev tru (s : S) : Prop := s = .t (.c (.v (.bool true)))
abbrev bS (b : Bool) : S := .t (.c (.v (.bool b)))

set_option maxRecDepth 100000
set_option linter.all false
theorem isout_res (wt td t : Int) (a : Option Addr) (n c : Nat) (r : Bool) : (callT Tryd.prog (hkL []) tab noL 10 27 [.t (.agg [.v (.int .u32 wt), .v (.int .u32 td), .v (.slice a n c)]), uS t] (fun u => u = bS r)) = (S.t (T.c (SC.v (Value.int IntKind.u32 (IntKind.u32.wrap (wt - td))))) = S.t (T.c (SC.v (Value.int IntKind.u32 (IntKind.u32.wrap (wt - td))))) ∧ S.t (T.c (SC.v (Value.bool (decide (IntKind.u32.wrap (t - td) < IntKind.u32.wrap (wt - td)))))) = S.t (T.c (SC.v (Value.bool r)))) := by kernel_rfl
end Go.Proofs.YtmmliaobjendoaaDoor
