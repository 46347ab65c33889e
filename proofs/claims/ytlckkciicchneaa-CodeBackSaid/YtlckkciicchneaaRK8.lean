/- Printed by a program of ours (gen.py): what the symbolic executor comes to. No condition. -/
import Derived.Test.YtlckkciicchneaaCF
import Derived.Test.YtlckkciicchneaaLK7
import Derived.Test.YtlckkciicchneaaSyX
import Derived.KernelRfl
set_option linter.unusedVariables false
open Go Go.Proofs
namespace Go.Proofs.Ytlckkciicchneaa
open SY
noncomputable def hkZ : Hooks := hkL [(48, V.hRead), (49, V.hZag), (51, V.hRead), (52, V.hZag)]
structure MX where
  i : Nat
  at_ : Int
  out : List Int
noncomputable def hintMy (n : Int) (I : MX → Prop) : Hint where
  X := MX
  sl := fun z => [(pth 1, iS z.at_), (pth 9, .t (.c (.sl [.int .i64] z.out (some (20, 0))))), (pth 10, iS z.i)]
  bl := fun _ => [(20, .tok 3 0)]
  tp := [(20, .inl (pth 9))]
  nx := 30
  I := I
  mu := fun z => n.toNat - z.i

set_option maxRecDepth 100000
set_option linter.all false
theorem many_res (b : List Int) (a n : Int) (I : MX → Prop) (l : List Int) (c e : Int) : (callT Try.prog hkZ tab (lhL [(1, hintMy n I)]) 10 37 [slB b, iS a, iS n] (fun u => subS (.tup [.c (.sl [.int .i64] l none), .c (.v (.int .i64 c)), .c (.v (.int .i64 e))]) u)) = ((∃ (x : MX), I x ∧ (x.2 = a ∧ x.3 = [] ∧ (↑x.1 : Int) = (0 : Int) ∧ True) ∧ True ∧ True) ∧ ∀ (x : MX), I x → br (decide ((↑x.1 : Int) < n)) ((b = b ∧ x.2 = x.2 ∧ V.KeepFew b ∧ V.KeepBy b) ∧ br (!decide (V.KeepRe b x.2 = (0 : Int))) (br (!decide (V.KeepRe b x.2 = (0 : Int))) (l = [] ∧ c = (0 : Int) ∧ e = V.KeepRe b x.2 ∧ True) (br ((x.3.length + 1).ble 1099511627776) (∃ (x' : MX), I x' ∧ n.toNat - x'.1 < n.toNat - x.1 ∧ (x'.2 = (0 : Int) ∧ x'.3 = x.3 ++ [(0 : Int)] ∧ (↑x'.1 : Int) = IntKind.i64.wrap ((↑x.1 : Int) + (1 : Int)) ∧ True) ∧ True ∧ True) False)) ((V.KeepRx b x.2 = V.KeepRx b x.2 ∧ V.KeepU (V.KeepRx b x.2)) ∧ br ((x.3.length + 1).ble 1099511627776) (∃ (x' : MX), I x' ∧ n.toNat - x'.1 < n.toNat - x.1 ∧ (x'.2 = V.KeepRn b x.2 ∧ x'.3 = x.3 ++ [V.KeepZag (V.KeepRx b x.2)] ∧ (↑x'.1 : Int) = IntKind.i64.wrap ((↑x.1 : Int) + (1 : Int)) ∧ True) ∧ True ∧ True) False)) (l = x.3 ∧ c = x.2 ∧ e = (0 : Int) ∧ True)) := by kernel_rfl
theorem readint_res (b : List Int) (a x c e : Int) : (callT Try.prog hkZ tab noL 10 47 [slB b, iS a] (fun u => subS (.tup [.c (.v (.int .i64 x)), .c (.v (.int .i64 c)), .c (.v (.int .i64 e))]) u)) = ((b = b ∧ a = a ∧ V.KeepFew b ∧ V.KeepBy b) ∧ (V.KeepRx b a = V.KeepRx b a ∧ V.KeepU (V.KeepRx b a)) ∧ x = V.KeepZag (V.KeepRx b a) ∧ c = V.KeepRn b a ∧ e = V.KeepRe b a ∧ True) := by kernel_rfl
end Go.Proofs.Ytlckkciicchneaa
