/- Printed by a program of ours (gen.py): what the symbolic executor comes to. No condition. -/
import Derived.Test.YtlckkciicchneaaCF
import Derived.Test.YtlckkciicchneaaLK4
import Derived.Test.YtlckkciicchneaaLKw
import Derived.Test.YtlckkciicchneaaSyX
import Derived.KernelRfl
set_option linter.unusedVariables false
open Go Go.Proofs
namespace Go.Proofs.Ytlckkciicchneaa
open SY
abbrev slB (xs : List Int) : S := .t (.c (.sl [.int .u8] xs none))
noncomputable def KeepEn (ns : List Int) : Nat → List Int
  | 0 => []
  | k + 1 => KeepEn ns k ++ V.KeepVb (V.KeepZig (gI ns k))
def KeepPi (ns : List Int) (z : NX) : Prop := z.i ≤ ns.length
noncomputable def hintPut (b ns : List Int) : Hint where
  X := NX
  sl := fun z => [(pth 0, slB (b ++ KeepEn ns z.i)), (pth 9, iS z.i)]
  bl := fun _ => []
  tp := []
  nx := 10
  I := fun z => KeepPi ns z
  mu := fun z => ns.length - z.i
noncomputable def hkV : Hooks := hkL [(45, V.hApp), (46, V.hZig)]
def KeepPu (b ns : List Int) : Prop := b.length ≤ 80000 ∧ ns.length ≤ 1000 ∧ ∀ k, k < ns.length → V.KeepI (gI ns k)
noncomputable def hPut (en : List Int → List Int) : Hk := fun vs => match vs with
  | [a, b] => some (subS (slB (cL a)) a ∧ subS (slI (cL b)) b ∧ KeepPu (cL a) (cL b), slB (cL a ++ en (cL b)))
  | _ => none

set_option maxRecDepth 100000
set_option linter.all false
theorem put_res (b ns : List Int) (r : List Int) : (callT Try.prog hkV tab (lhL [(1, hintPut b ns)]) 10 19 [slB b, slI ns] (fun u => subS (slB r) u)) = ((∃ (x : NX), KeepPi ns x ∧ (b ++ KeepEn ns x.1 = b ∧ (↑x.1 : Int) = (0 : Int) ∧ True) ∧ True) ∧ ∀ (x : NX), KeepPi ns x → br (decide ((↑x.1 : Int) < (↑ns.length : Int))) (br (true && decide ((↑x.1 : Int) < (↑ns.length : Int))) ((gI ns (↑x.1 : Int).toNat = gI ns (↑x.1 : Int).toNat ∧ V.KeepI (gI ns (↑x.1 : Int).toNat)) ∧ (b ++ KeepEn ns x.1 = b ++ KeepEn ns x.1 ∧ V.KeepZig (gI ns (↑x.1 : Int).toNat) = V.KeepZig (gI ns (↑x.1 : Int).toNat) ∧ V.KeepU (V.KeepZig (gI ns (↑x.1 : Int).toNat)) ∧ V.KeepFew (b ++ KeepEn ns x.1)) ∧ ∃ (x' : NX), KeepPi ns x' ∧ ns.length - x'.1 < ns.length - x.1 ∧ (b ++ KeepEn ns x'.1 = b ++ KeepEn ns x.1 ++ V.KeepVb (V.KeepZig (gI ns (↑x.1 : Int).toNat)) ∧ (↑x'.1 : Int) = IntKind.i64.wrap ((↑x.1 : Int) + (1 : Int)) ∧ True) ∧ True) False) (r = b ++ KeepEn ns x.1)) := by kernel_rfl
end Go.Proofs.Ytlckkciicchneaa
