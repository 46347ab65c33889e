/- Printed by a program of ours (gen.py): what the symbolic executor comes to. No condition. -/
import Derived.Test.YtjicbncikakhjaaCF
import Derived.Test.YtjicbncikakhjaaLRn
import Derived.KernelRfl
set_option linter.unusedVariables false
open Go Go.Proofs
namespace Go.Proofs.Ytjicbncikakhjaa
open SY
structure FX where
  u : Nat
  s : Int
  n : Nat
  k : Nat
def KeepSg (i : Int) (z : FX) : Prop := z.u = i.natAbs ∧ z.s = if i < 0 then 9223372036854775808 else 0
def KeepFk (i : Int) (z : FX) : Prop := z.u = i.natAbs ∧ (z.s = if i < 0 then 9223372036854775808 else 0) ∧ z.k = z.u / 2 ^ z.n ∧ (0 < z.n → 2 ^ (z.n - 1) ≤ z.u) ∧ z.n ≤ 64
noncomputable def hintSg (i : Int) : Hint where
  X := FX
  sl := fun z => [(pth 3, uS z.u), (pth 4, uS z.s)]
  bl := fun _ => []
  tp := []
  nx := 90
  I := fun z => KeepSg i z
  mu := fun z => 0
noncomputable def hintFi (i : Int) : Hint where
  X := FX
  sl := fun z => [(pth 3, uS z.u), (pth 4, uS z.s), (pth 5, iS z.n), (pth 6, uS z.k)]
  bl := fun _ => []
  tp := []
  nx := 90
  I := fun z => KeepFk i z
  mu := fun z => 64 - z.n
structure TX where
  k : Nat
  m : Nat
def KeepE (x : Int) : Nat := x.toNat / 4503599627370496 % 2048
def KeepM (x : Int) : Nat := 4503599627370496 + x.toNat % 4503599627370496
def KeepUpm (x : Int) (z : TX) : Prop := 1075 ≤ z.k ∧ (z.k = 1075 ∨ z.k ≤ KeepE x) ∧ z.m = KeepM x * 2 ^ (z.k - 1075)
def KeepDnm (x : Int) (z : TX) : Prop := (1075 ≤ KeepE x ∧ z.k = KeepE x ∧ z.m = KeepM x * 2 ^ (z.k - 1075)) ∨ (KeepE x < 1075 ∧ KeepE x ≤ z.k ∧ z.k ≤ 1075 ∧ z.m = KeepM x / 2 ^ (z.k - KeepE x))
noncomputable def hintUpm (x : Int) : Hint where
  X := TX
  sl := fun z => [(pth 6, iS z.k), (pth 5, uS z.m)]
  bl := fun _ => []
  tp := []
  nx := 90
  I := fun z => KeepUpm x z
  mu := fun z => KeepE x - z.k
noncomputable def hintDnm (x : Int) : Hint where
  X := TX
  sl := fun z => [(pth 7, iS z.k), (pth 5, uS z.m)]
  bl := fun _ => []
  tp := []
  nx := 90
  I := fun z => KeepDnm x z
  mu := fun z => 1075 - z.k
noncomputable def hkI : Hooks := hkL [(12, hClass), (20, hLess), (40, hFromInt), (42, hToInt)]
noncomputable def hkH : Hooks := hkL [(12, hClass)]
noncomputable def hkU : Hooks := hkL [(10, hAlive), (39, hFromInt), (40, hFromInt), (41, hToInt), (42, hToInt), (43, hTicks), (44, hTicks)]

set_option maxRecDepth 100000
set_option linter.all false
theorem rfrom_res (x r : Int) : (callT Try.prog (hkL []) tab (lhL [(20014, hintSg x), (1, hintFi x)]) 10 40 [iS x] (fun u => subS (uS r) u)) = (br (decide (x = (0 : Int))) (r = (0 : Int)) (br (decide (x < (0 : Int))) (∃ (x_1 : FX), KeepSg x x_1 ∧ ((↑x_1.1 : Int) = IntKind.u64.wrap ((0 : Int) - IntKind.u64.wrap x) ∧ x_1.2 = (9223372036854775808 : Int) ∧ True) ∧ True) (∃ (x_1 : FX), KeepSg x x_1 ∧ ((↑x_1.1 : Int) = IntKind.u64.wrap x ∧ x_1.2 = (0 : Int) ∧ True) ∧ True) ∧ ∀ (x_1 : FX), KeepSg x x_1 → (∃ (x_2 : FX), KeepFk x x_2 ∧ ((↑x_2.1 : Int) = (↑x_1.1 : Int) ∧ x_2.2 = x_1.2 ∧ (↑x_2.3 : Int) = (0 : Int) ∧ (↑x_2.4 : Int) = (↑x_1.1 : Int) ∧ True) ∧ True) ∧ ∀ (x_2 : FX), KeepFk x x_2 → br (decide ((↑x_2.4 : Int) > (0 : Int))) (∃ (x' : FX), KeepFk x x' ∧ 64 - x'.3 < 64 - x_2.3 ∧ ((↑x'.1 : Int) = (↑x_2.1 : Int) ∧ x'.2 = x_2.2 ∧ (↑x'.3 : Int) = IntKind.i64.wrap ((↑x_2.3 : Int) + (1 : Int)) ∧ (↑x'.4 : Int) = IntKind.u64.wrap ((↑x_2.4 : Int).tdiv (2 : Int)) ∧ True) ∧ True) (br (decide ((↑x_2.3 : Int) ≤ (53 : Int))) (br (decide ((0 : Int) ≤ IntKind.u64.wrap (IntKind.i64.wrap ((53 : Int) - (↑x_2.3 : Int))))) (r = IntKind.u64.wrap (IntKind.u64.wrap (x_2.2 + sShl IntKind.u64 (IntKind.u64.wrap (IntKind.i64.wrap ((↑x_2.3 : Int) + (1022 : Int)))) (52 : Int)) + (sShl IntKind.u64 (↑x_2.1 : Int) (IntKind.u64.wrap (IntKind.i64.wrap ((53 : Int) - (↑x_2.3 : Int))))).tmod (4503599627370496 : Int))) False) (br (decide ((0 : Int) ≤ IntKind.u64.wrap (IntKind.i64.wrap ((↑x_2.3 : Int) - (53 : Int))))) (br (!decide (sShl IntKind.u64 (1 : Int) (IntKind.u64.wrap (IntKind.i64.wrap ((↑x_2.3 : Int) - (53 : Int)))) = (0 : Int))) (br (!decide (sShl IntKind.u64 (1 : Int) (IntKind.u64.wrap (IntKind.i64.wrap ((↑x_2.3 : Int) - (53 : Int)))) = (0 : Int))) (br (decide ((↑x_2.1 : Int).tmod (sShl IntKind.u64 (1 : Int) (IntKind.u64.wrap (IntKind.i64.wrap ((↑x_2.3 : Int) - (53 : Int))))) > IntKind.u64.wrap ((sShl IntKind.u64 (1 : Int) (IntKind.u64.wrap (IntKind.i64.wrap ((↑x_2.3 : Int) - (53 : Int))))).tdiv (2 : Int)))) (br (decide (IntKind.u64.wrap (IntKind.u64.wrap ((↑x_2.1 : Int).tdiv (sShl IntKind.u64 (1 : Int) (IntKind.u64.wrap (IntKind.i64.wrap ((↑x_2.3 : Int) - (53 : Int)))))) + (1 : Int)) = (9007199254740992 : Int))) (r = IntKind.u64.wrap (IntKind.u64.wrap (x_2.2 + sShl IntKind.u64 (IntKind.u64.wrap (IntKind.i64.wrap (IntKind.i64.wrap ((↑x_2.3 : Int) + (1 : Int)) + (1022 : Int)))) (52 : Int)) + (IntKind.u64.wrap ((IntKind.u64.wrap (IntKind.u64.wrap ((↑x_2.1 : Int).tdiv (sShl IntKind.u64 (1 : Int) (IntKind.u64.wrap (IntKind.i64.wrap ((↑x_2.3 : Int) - (53 : Int)))))) + (1 : Int))).tdiv (2 : Int))).tmod (4503599627370496 : Int))) (r = IntKind.u64.wrap (IntKind.u64.wrap (x_2.2 + sShl IntKind.u64 (IntKind.u64.wrap (IntKind.i64.wrap ((↑x_2.3 : Int) + (1022 : Int)))) (52 : Int)) + (IntKind.u64.wrap (IntKind.u64.wrap ((↑x_2.1 : Int).tdiv (sShl IntKind.u64 (1 : Int) (IntKind.u64.wrap (IntKind.i64.wrap ((↑x_2.3 : Int) - (53 : Int)))))) + (1 : Int))).tmod (4503599627370496 : Int)))) (br (decide ((↑x_2.1 : Int).tmod (sShl IntKind.u64 (1 : Int) (IntKind.u64.wrap (IntKind.i64.wrap ((↑x_2.3 : Int) - (53 : Int))))) = IntKind.u64.wrap ((sShl IntKind.u64 (1 : Int) (IntKind.u64.wrap (IntKind.i64.wrap ((↑x_2.3 : Int) - (53 : Int))))).tdiv (2 : Int)))) (br (decide ((IntKind.u64.wrap ((↑x_2.1 : Int).tdiv (sShl IntKind.u64 (1 : Int) (IntKind.u64.wrap (IntKind.i64.wrap ((↑x_2.3 : Int) - (53 : Int))))))).tmod (2 : Int) = (1 : Int))) (br (decide (IntKind.u64.wrap (IntKind.u64.wrap ((↑x_2.1 : Int).tdiv (sShl IntKind.u64 (1 : Int) (IntKind.u64.wrap (IntKind.i64.wrap ((↑x_2.3 : Int) - (53 : Int)))))) + (1 : Int)) = (9007199254740992 : Int))) (r = IntKind.u64.wrap (IntKind.u64.wrap (x_2.2 + sShl IntKind.u64 (IntKind.u64.wrap (IntKind.i64.wrap (IntKind.i64.wrap ((↑x_2.3 : Int) + (1 : Int)) + (1022 : Int)))) (52 : Int)) + (IntKind.u64.wrap ((IntKind.u64.wrap (IntKind.u64.wrap ((↑x_2.1 : Int).tdiv (sShl IntKind.u64 (1 : Int) (IntKind.u64.wrap (IntKind.i64.wrap ((↑x_2.3 : Int) - (53 : Int)))))) + (1 : Int))).tdiv (2 : Int))).tmod (4503599627370496 : Int))) (r = IntKind.u64.wrap (IntKind.u64.wrap (x_2.2 + sShl IntKind.u64 (IntKind.u64.wrap (IntKind.i64.wrap ((↑x_2.3 : Int) + (1022 : Int)))) (52 : Int)) + (IntKind.u64.wrap (IntKind.u64.wrap ((↑x_2.1 : Int).tdiv (sShl IntKind.u64 (1 : Int) (IntKind.u64.wrap (IntKind.i64.wrap ((↑x_2.3 : Int) - (53 : Int)))))) + (1 : Int))).tmod (4503599627370496 : Int)))) (br (decide (IntKind.u64.wrap ((↑x_2.1 : Int).tdiv (sShl IntKind.u64 (1 : Int) (IntKind.u64.wrap (IntKind.i64.wrap ((↑x_2.3 : Int) - (53 : Int)))))) = (9007199254740992 : Int))) (r = IntKind.u64.wrap (IntKind.u64.wrap (x_2.2 + sShl IntKind.u64 (IntKind.u64.wrap (IntKind.i64.wrap (IntKind.i64.wrap ((↑x_2.3 : Int) + (1 : Int)) + (1022 : Int)))) (52 : Int)) + (IntKind.u64.wrap ((IntKind.u64.wrap ((↑x_2.1 : Int).tdiv (sShl IntKind.u64 (1 : Int) (IntKind.u64.wrap (IntKind.i64.wrap ((↑x_2.3 : Int) - (53 : Int))))))).tdiv (2 : Int))).tmod (4503599627370496 : Int))) (r = IntKind.u64.wrap (IntKind.u64.wrap (x_2.2 + sShl IntKind.u64 (IntKind.u64.wrap (IntKind.i64.wrap ((↑x_2.3 : Int) + (1022 : Int)))) (52 : Int)) + (IntKind.u64.wrap ((↑x_2.1 : Int).tdiv (sShl IntKind.u64 (1 : Int) (IntKind.u64.wrap (IntKind.i64.wrap ((↑x_2.3 : Int) - (53 : Int))))))).tmod (4503599627370496 : Int))))) (br (decide (IntKind.u64.wrap ((↑x_2.1 : Int).tdiv (sShl IntKind.u64 (1 : Int) (IntKind.u64.wrap (IntKind.i64.wrap ((↑x_2.3 : Int) - (53 : Int)))))) = (9007199254740992 : Int))) (r = IntKind.u64.wrap (IntKind.u64.wrap (x_2.2 + sShl IntKind.u64 (IntKind.u64.wrap (IntKind.i64.wrap (IntKind.i64.wrap ((↑x_2.3 : Int) + (1 : Int)) + (1022 : Int)))) (52 : Int)) + (IntKind.u64.wrap ((IntKind.u64.wrap ((↑x_2.1 : Int).tdiv (sShl IntKind.u64 (1 : Int) (IntKind.u64.wrap (IntKind.i64.wrap ((↑x_2.3 : Int) - (53 : Int))))))).tdiv (2 : Int))).tmod (4503599627370496 : Int))) (r = IntKind.u64.wrap (IntKind.u64.wrap (x_2.2 + sShl IntKind.u64 (IntKind.u64.wrap (IntKind.i64.wrap ((↑x_2.3 : Int) + (1022 : Int)))) (52 : Int)) + (IntKind.u64.wrap ((↑x_2.1 : Int).tdiv (sShl IntKind.u64 (1 : Int) (IntKind.u64.wrap (IntKind.i64.wrap ((↑x_2.3 : Int) - (53 : Int))))))).tmod (4503599627370496 : Int)))))) False) False) False)))) := by kernel_rfl
theorem rto_res (x r : Int) : (callT Try.prog hkH tab (lhL [(1, hintUpm x), (3, hintDnm x)]) 10 42 [uS x] (fun u => subS (iS r) u)) = ((x = x ∧ KeepU x) ∧ br (decide (KeepCl x = (4 : Int))) (r = (0 : Int)) (br (decide (IntKind.i64.wrap (bAnd IntKind.u64 (sShr IntKind.u64 x (52 : Int)) (2047 : Int)) ≥ (1086 : Int))) (br (decide (sShr IntKind.u64 x (63 : Int) = (1 : Int))) (r = (-9223372036854775808 : Int)) (r = (9223372036854775807 : Int))) (br (decide (IntKind.i64.wrap (bAnd IntKind.u64 (sShr IntKind.u64 x (52 : Int)) (2047 : Int)) < (1023 : Int))) (r = (0 : Int)) ((∃ (x_1 : TX), KeepUpm x x_1 ∧ ((↑x_1.1 : Int) = (1075 : Int) ∧ (↑x_1.2 : Int) = IntKind.u64.wrap (x.tmod (4503599627370496 : Int) + (4503599627370496 : Int)) ∧ True) ∧ True) ∧ ∀ (x_1 : TX), KeepUpm x x_1 → br (decide ((↑x_1.1 : Int) < IntKind.i64.wrap (bAnd IntKind.u64 (sShr IntKind.u64 x (52 : Int)) (2047 : Int)))) (∃ (x' : TX), KeepUpm x x' ∧ KeepE x - x'.1 < KeepE x - x_1.1 ∧ ((↑x'.1 : Int) = IntKind.i64.wrap ((↑x_1.1 : Int) + (1 : Int)) ∧ (↑x'.2 : Int) = IntKind.u64.wrap ((↑x_1.2 : Int) * (2 : Int)) ∧ True) ∧ True) ((∃ (x_2 : TX), KeepDnm x x_2 ∧ ((↑x_2.1 : Int) = IntKind.i64.wrap (bAnd IntKind.u64 (sShr IntKind.u64 x (52 : Int)) (2047 : Int)) ∧ (↑x_2.2 : Int) = (↑x_1.2 : Int) ∧ True) ∧ True) ∧ ∀ (x_2 : TX), KeepDnm x x_2 → br (decide ((↑x_2.1 : Int) < (1075 : Int))) (∃ (x' : TX), KeepDnm x x' ∧ 1075 - x'.1 < 1075 - x_2.1 ∧ ((↑x'.1 : Int) = IntKind.i64.wrap ((↑x_2.1 : Int) + (1 : Int)) ∧ (↑x'.2 : Int) = IntKind.u64.wrap ((↑x_2.2 : Int).tdiv (2 : Int)) ∧ True) ∧ True) (br (decide (sShr IntKind.u64 x (63 : Int) = (1 : Int))) (r = IntKind.i64.wrap ((0 : Int) - IntKind.i64.wrap (↑x_2.2 : Int))) (r = IntKind.i64.wrap (↑x_2.2 : Int)))))))) := by kernel_rfl
theorem rticks_res (x r : Int) : (callT Try.prog hkI tab noL 10 44 [uS x] (fun u => subS (iS r) u)) = (((0 : Int) = (0 : Int) ∧ x = x ∧ KeepU (0 : Int) ∧ KeepU x) ∧ br (!KeepLs (0 : Int) x) (r = (0 : Int)) (((1099511627776 : Int) = (1099511627776 : Int) ∧ KeepI (1099511627776 : Int)) ∧ ((4787326403894837248 : Int) = (4787326403894837248 : Int) ∧ x = x ∧ KeepU (4787326403894837248 : Int) ∧ KeepU x) ∧ br (KeepLs (4787326403894837248 : Int) x) (r = (1099511627776 : Int)) ((x = x ∧ KeepU x) ∧ (KeepTi x = KeepTi x ∧ KeepI (KeepTi x)) ∧ (KeepFi (KeepTi x) = KeepFi (KeepTi x) ∧ x = x ∧ KeepU (KeepFi (KeepTi x)) ∧ KeepU x) ∧ br (KeepLs (KeepFi (KeepTi x)) x) (r = IntKind.i64.wrap (KeepTi x + (1 : Int))) (r = KeepTi x)))) := by kernel_rfl
theorem ints_res (x y : Int) : (callT Try.prog hkU tab noL 10 5 [iS x, uS y] tru) = (True ∧ (x = x ∧ KeepI x) ∧ (x = x ∧ KeepI x) ∧ br (decide (KeepFi x = KeepFi x)) ((y = y ∧ KeepU y) ∧ (y = y ∧ KeepU y) ∧ br (decide (KeepTi y = KeepTi y)) ((y = y ∧ KeepU y) ∧ (y = y ∧ KeepU y) ∧ S.t (T.c (SC.v (Value.bool (decide (KeepTk y = KeepTk y))))) = S.t (T.c (SC.v (Value.bool true)))) (S.t (T.c (SC.v (Value.bool false))) = S.t (T.c (SC.v (Value.bool true))))) (S.t (T.c (SC.v (Value.bool false))) = S.t (T.c (SC.v (Value.bool true))))) := by kernel_rfl
end Go.Proofs.Ytjicbncikakhjaa
