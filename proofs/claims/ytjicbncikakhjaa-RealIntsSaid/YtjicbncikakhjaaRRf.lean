/- Printed by a program of ours (gen.py): what the symbolic executor comes to. No condition. -/
import Derived.Test.YtjicbncikakhjaaCF
import Derived.Test.YtjicbncikakhjaaLRb
import Derived.Test.YtjicbncikakhjaaFm
import Derived.KernelRfl
set_option linter.unusedVariables false
open Go Go.Proofs
namespace Go.Proofs.Ytjicbncikakhjaa
open SY
def KeepI (x : Int) : Prop := -9223372036854775808 ≤ x ∧ x < 9223372036854775808
def KeepFi (i : Int) : Int := (KeepI2F i : Nat)
def mgI (x : Int) : Int := if 9223372036854775808 ≤ x then -(whole x.toNat : Int) else (whole x.toNat : Int)
def tiI (x : Int) : Int := if nanI x = true then 0 else if 4890909195324358656 ≤ skI x then 9223372036854775807 else if skI x ≤ -4890909195324358656 then -9223372036854775808 else mgI x
def KeepTi (x : Int) : Int := tiI x
def upI (x : Int) : Int := (whole x.toNat : Int) + if V (x.toNat % 9223372036854775808) % 2 ^ 1074 = 0 then 0 else 1
def KeepTk (x : Int) : Int := if nanI x = true then 0 else if 4787326403894837248 < skI x then 1099511627776 else if 0 < skI x then upI x else 0
def KeepCeil (n : Nat) : Nat := FloatKind.f64.encode ((FloatKind.f64.decode n).integral .up)
def KeepNum (n : Nat) : Prop := isN n = false
noncomputable def hCeil : Hk := fun vs => match vs with
  | [a] => some (subS (fS (cF a)) a ∧ KeepNum (cF a), fS (KeepCeil (cF a)))
  | _ => none
noncomputable def hFromInt : Hk := fun vs => match vs with
  | [a] => some (subS (iS (cI a)) a ∧ KeepI (cI a), uS (KeepFi (cI a)))
  | _ => none
noncomputable def hToInt : Hk := h1 (fun x => uS x) fun x => iS (KeepTi x)
noncomputable def hTicks : Hk := h1 (fun x => uS x) fun x => iS (KeepTk x)
noncomputable def hkF : Hooks := hkL [(51, hBits), (52, hFrom), (54, hCeil)]

set_option maxRecDepth 100000
set_option linter.all false
theorem fromint_res (x r : Int) : (callT Try.prog hkF tab noL 10 39 [iS x] (fun u => subS (uS r) u)) = (Value.float FloatKind.f64 (KeepI2F x) = Value.float FloatKind.f64 (KeepI2F x) ∧ r = (↑(KeepI2F x) : Int)) := by kernel_rfl
theorem toint_res (x r : Int) : (callT Try.prog hkF tab noL 10 41 [uS x] (fun u => subS (iS r) u)) = (x = x ∧ br (KeepFo BinOp.neq (KeepN x) (KeepN x)) (r = (0 : Int)) (br (KeepFo BinOp.geq (KeepN x) 4890909195324358656) (r = (9223372036854775807 : Int)) (br (KeepFo BinOp.lss (KeepN x) 14114281232179134464) (r = (-9223372036854775808 : Int)) (br (KeepF2Ik IntKind.i64 (KeepN x)) (r = KeepF2I IntKind.i64 (KeepN x)) False)))) := by kernel_rfl
theorem ticks_res (x r : Int) : (callT Try.prog hkF tab noL 10 43 [uS x] (fun u => subS (iS r) u)) = (x = x ∧ br (KeepFo BinOp.gtr (KeepN x) 4787326403894837248) (r = (1099511627776 : Int)) (br (KeepFo BinOp.gtr (KeepN x) 0) ((Value.float FloatKind.f64 (KeepN x) = Value.float FloatKind.f64 (KeepN x) ∧ KeepNum (KeepN x)) ∧ br (KeepF2Ik IntKind.i64 (KeepCeil (KeepN x))) (r = KeepF2I IntKind.i64 (KeepCeil (KeepN x))) False) (r = (0 : Int)))) := by kernel_rfl
end Go.Proofs.Ytjicbncikakhjaa
