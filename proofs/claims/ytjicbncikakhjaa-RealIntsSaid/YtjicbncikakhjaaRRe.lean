/- Printed by a program of ours (gen.py): what the symbolic executor comes to. No condition. -/
import Derived.Test.YtjicbncikakhjaaCF
import Derived.Test.YtjicbncikakhjaaFl
import Derived.KernelRfl
set_option linter.unusedVariables false
open Go Go.Proofs
namespace Go.Proofs.Ytjicbncikakhjaa
open SY
abbrev iS (x : Int) : S := .t (.c (.v (.int .i64 x)))
abbrev uS (x : Int) : S := .t (.c (.v (.int .u64 x)))
abbrev fS (x : Nat) : S := .t (.c (.v (.float .f64 x)))
abbrev tru (s : S) : Prop := s = .t (.c (.v (.bool true)))
abbrev bS (b : Bool) : S := .t (.c (.v (.bool b)))
noncomputable def cI (a : S) : Int := match a with
  | .t (.c c) => (match asI c with
    | some n => n
    | none => 0)
  | _ => 0
noncomputable def cF (a : S) : Nat := match fltS a with
  | some n => n
  | none => 0
def KeepU (x : Int) : Prop := 0 ≤ x ∧ x < 18446744073709551616
def KeepN (x : Int) : Nat := x.toNat
noncomputable def hBits : Hk := fun vs => match vs with
  | [a] => some (subS (fS (cF a)) a, uS (cF a))
  | _ => none
noncomputable def hFrom : Hk := fun vs => match vs with
  | [a] => some (subS (uS (cI a)) a, fS (KeepN (cI a)))
  | _ => none
noncomputable def hkE : Hooks := hkL [(51, hBits), (52, hFrom)]
def clI (x : Int) : Int := if 9218868437227405312 < x % 9223372036854775808 then 4 else if x % 9223372036854775808 = 9218868437227405312 then 3 else if 4503599627370496 ≤ x % 9223372036854775808 then 2 else if 0 < x % 9223372036854775808 then 1 else 0
def KeepCl (x : Int) : Int := clI x
noncomputable def hClass : Hk := fun vs => match vs with
  | [a] => some (subS (uS (cI a)) a ∧ KeepU (cI a), iS (KeepCl (cI a)))
  | _ => none
def skI (x : Int) : Int := if 9223372036854775808 ≤ x then -(x - 9223372036854775808) else x
def nanI (x : Int) : Bool := decide (9218868437227405312 < x % 9223372036854775808)
def NONE : Int := 9221120237041090560
def flp (x : Int) : Int := if 9223372036854775808 ≤ x then x - 9223372036854775808 else x + 9223372036854775808
def KeepPl (x : Int) : Int := if nanI x = true then NONE else x
def KeepKy (x : Int) : Int := if 9223372036854775808 ≤ x then 18446744073709551615 - x else x + 9223372036854775808
def KeepUk (x : Int) : Int := if 9223372036854775808 ≤ x then x - 9223372036854775808 else 18446744073709551615 - x
def KeepLs (x y : Int) : Bool := !nanI x && (!nanI y && decide (skI x < skI y))
def KeepSm (x y : Int) : Bool := !nanI x && (!nanI y && decide (skI x = skI y))
def KeepLo (x y : Int) : Int := if (nanI x || nanI y) = true then NONE else if KeepKy x ≤ KeepKy y then x else y
def KeepHi (x y : Int) : Int := if (nanI x || nanI y) = true then NONE else if KeepKy y ≤ KeepKy x then x else y
def KeepUp (x : Int) : Int := if nanI x = true then NONE else if skI x = 0 then 1 else if x = 9218868437227405312 then x else if 9223372036854775808 ≤ x then x - 1 else x + 1
def KeepDn (x : Int) : Int := if nanI x = true then NONE else flp (KeepUp (flp x))
def KeepNg (x : Int) : Int := if nanI x = true then NONE else flp x
def arI (op : BinOp) (x y : Int) : Int := match floatBits op .f64 x.toNat y.toNat with
  | some v => v
  | none => NONE
def KeepAr (op : BinOp) (x y : Int) : Int := arI op x y
noncomputable def h1 (sv : Int → S) (f : Int → S) : Hk := fun vs => match vs with
  | [a] => some (subS (sv (cI a)) a ∧ KeepU (cI a), f (cI a))
  | _ => none
noncomputable def h2 (f : Int → Int → S) : Hk := fun vs => match vs with
  | [a, b] => some (subS (uS (cI a)) a ∧ subS (uS (cI b)) b ∧ KeepU (cI a) ∧ KeepU (cI b), f (cI a) (cI b))
  | _ => none
noncomputable def hPlain : Hk := h1 (fun x => uS x) fun x => uS (KeepPl x)
noncomputable def hKey : Hk := h1 (fun x => uS x) fun x => uS (KeepKy x)
noncomputable def hUnkey : Hk := h1 (fun x => uS x) fun x => uS (KeepUk x)
noncomputable def hUp : Hk := h1 (fun x => uS x) fun x => uS (KeepUp x)
noncomputable def hDown : Hk := h1 (fun x => uS x) fun x => uS (KeepDn x)
noncomputable def hNeg : Hk := h1 (fun x => uS x) fun x => uS (KeepNg x)
noncomputable def hLess : Hk := h2 fun x y => bS (KeepLs x y)
noncomputable def hSame : Hk := h2 fun x y => bS (KeepSm x y)
noncomputable def hLeast : Hk := h2 fun x y => uS (KeepLo x y)
noncomputable def hMost : Hk := h2 fun x y => uS (KeepHi x y)
noncomputable def hAr (op : BinOp) : Hk := h2 fun x y => uS (KeepAr op x y)
noncomputable def hkC : Hooks := hkL [(51, hBits), (52, hFrom), (11, hClass), (12, hClass), (15, hKey), (16, hKey), (17, hUnkey)]
noncomputable def hkN : Hooks := hkL [(51, hBits), (52, hFrom), (12, hClass)]
noncomputable def hkD : Hooks := hkL [(51, hBits), (52, hFrom), (12, hClass), (14, hPlain), (20, hLess), (27, hUp), (28, hUp), (50, hNeg)]

set_option maxRecDepth 100000
set_option linter.all false
theorem class_res (x r : Int) : (callT Try.prog hkE tab noL 10 11 [uS x] (fun u => subS (iS r) u)) = (x = x ∧ Value.float FloatKind.f64 (KeepN x) = Value.float FloatKind.f64 (KeepN x) ∧ bAnn IntKind.u64 (↑(KeepN x) : Int) (9223372036854775808 : Int) = bAnn IntKind.u64 (↑(KeepN x) : Int) (9223372036854775808 : Int) ∧ br (KeepFo BinOp.neq (KeepN (bAnn IntKind.u64 (↑(KeepN x) : Int) (9223372036854775808 : Int))) (KeepN (bAnn IntKind.u64 (↑(KeepN x) : Int) (9223372036854775808 : Int)))) (r = (4 : Int)) (br (KeepFo BinOp.gtr (KeepN (bAnn IntKind.u64 (↑(KeepN x) : Int) (9223372036854775808 : Int))) 9218868437227405311) (r = (3 : Int)) (br (KeepFo BinOp.geq (KeepN (bAnn IntKind.u64 (↑(KeepN x) : Int) (9223372036854775808 : Int))) 4503599627370496) (r = (2 : Int)) (br (KeepFo BinOp.gtr (KeepN (bAnn IntKind.u64 (↑(KeepN x) : Int) (9223372036854775808 : Int))) 0) (r = (1 : Int)) (r = (0 : Int)))))) := by kernel_rfl
theorem rclass_res (x r : Int) : (callT Try.prog hkE tab noL 10 12 [uS x] (fun u => subS (iS r) u)) = (br (decide (IntKind.i64.wrap (bAnd IntKind.u64 (sShr IntKind.u64 x (52 : Int)) (2047 : Int)) = (2047 : Int))) (br (!decide (x.tmod (4503599627370496 : Int) = (0 : Int))) (r = (4 : Int)) (br (decide (IntKind.i64.wrap (bAnd IntKind.u64 (sShr IntKind.u64 x (52 : Int)) (2047 : Int)) = (2047 : Int))) (r = (3 : Int)) (br (decide (IntKind.i64.wrap (bAnd IntKind.u64 (sShr IntKind.u64 x (52 : Int)) (2047 : Int)) > (0 : Int))) (r = (2 : Int)) (br (!decide (x.tmod (4503599627370496 : Int) = (0 : Int))) (r = (1 : Int)) (r = (0 : Int)))))) (br (decide (IntKind.i64.wrap (bAnd IntKind.u64 (sShr IntKind.u64 x (52 : Int)) (2047 : Int)) = (2047 : Int))) (r = (3 : Int)) (br (decide (IntKind.i64.wrap (bAnd IntKind.u64 (sShr IntKind.u64 x (52 : Int)) (2047 : Int)) > (0 : Int))) (r = (2 : Int)) (br (!decide (x.tmod (4503599627370496 : Int) = (0 : Int))) (r = (1 : Int)) (r = (0 : Int)))))) := by kernel_rfl
theorem plain_res (x r : Int) : (callT Try.prog hkE tab noL 10 13 [uS x] (fun u => subS (uS r) u)) = (x = x ∧ br (KeepFo BinOp.neq (KeepN x) (KeepN x)) (r = (9221120237041090560 : Int)) (Value.float FloatKind.f64 (KeepN x) = Value.float FloatKind.f64 (KeepN x) ∧ r = (↑(KeepN x) : Int))) := by kernel_rfl
theorem rplain_res (x r : Int) : (callT Try.prog hkC tab noL 10 14 [uS x] (fun u => subS (uS r) u)) = ((x = x ∧ KeepU x) ∧ br (decide (KeepCl x = (4 : Int))) (r = (9221120237041090560 : Int)) (r = x)) := by kernel_rfl
theorem key_res (x r : Int) : (callT Try.prog hkE tab noL 10 15 [uS x] (fun u => subS (uS r) u)) = (br (!decide (bAnd IntKind.u64 x (9223372036854775808 : Int) = (0 : Int))) (r = bXor IntKind.u64 (18446744073709551615 : Int) x) (r = bOr IntKind.u64 x (9223372036854775808 : Int))) := by kernel_rfl
theorem rkey_res (x r : Int) : (callT Try.prog hkE tab noL 10 16 [uS x] (fun u => subS (uS r) u)) = (br (decide (sShr IntKind.u64 x (63 : Int) = (1 : Int))) (r = IntKind.u64.wrap ((18446744073709551615 : Int) - x)) (r = IntKind.u64.wrap (x + (9223372036854775808 : Int)))) := by kernel_rfl
theorem unkey_res (x r : Int) : (callT Try.prog hkE tab noL 10 17 [uS x] (fun u => subS (uS r) u)) = (br (!decide (bAnd IntKind.u64 x (9223372036854775808 : Int) = (0 : Int))) (r = bXor IntKind.u64 x (9223372036854775808 : Int)) (r = bXor IntKind.u64 (18446744073709551615 : Int) x)) := by kernel_rfl
theorem runkey_res (x r : Int) : (callT Try.prog hkE tab noL 10 18 [uS x] (fun u => subS (uS r) u)) = (br (decide (sShr IntKind.u64 x (63 : Int) = (1 : Int))) (r = IntKind.u64.wrap (x - (9223372036854775808 : Int))) (r = IntKind.u64.wrap ((18446744073709551615 : Int) - x))) := by kernel_rfl
theorem less_res (x y : Int) (r : Bool) : (callT Try.prog hkE tab noL 10 19 [uS x, uS y] (fun u => subS (bS r) u)) = (x = x ∧ y = y ∧ r = KeepFo BinOp.lss (KeepN x) (KeepN y)) := by kernel_rfl
theorem same_res (x y : Int) (r : Bool) : (callT Try.prog hkE tab noL 10 21 [uS x, uS y] (fun u => subS (bS r) u)) = (x = x ∧ y = y ∧ r = KeepFo BinOp.eql (KeepN x) (KeepN y)) := by kernel_rfl
theorem least_res (x y r : Int) : (callT Try.prog hkE tab noL 10 23 [uS x, uS y] (fun u => subS (uS r) u)) = (x = x ∧ y = y ∧ ∀ (r_1 : Nat), KeepFr (FQ.mx false) (KeepN x) (KeepN y) r_1 → br (KeepFo BinOp.neq r_1 r_1) (r = (9221120237041090560 : Int)) (Value.float FloatKind.f64 r_1 = Value.float FloatKind.f64 r_1 ∧ r = (↑r_1 : Int))) := by kernel_rfl
theorem most_res (x y r : Int) : (callT Try.prog hkE tab noL 10 25 [uS x, uS y] (fun u => subS (uS r) u)) = (x = x ∧ y = y ∧ ∀ (r_1 : Nat), KeepFr (FQ.mx true) (KeepN x) (KeepN y) r_1 → br (KeepFo BinOp.neq r_1 r_1) (r = (9221120237041090560 : Int)) (Value.float FloatKind.f64 r_1 = Value.float FloatKind.f64 r_1 ∧ r = (↑r_1 : Int))) := by kernel_rfl
theorem add_res (x y r : Int) : (callT Try.prog hkE tab noL 10 31 [uS x, uS y] (fun u => subS (uS r) u)) = (x = x ∧ y = y ∧ ∀ (r_1 : Nat), KeepFr (FQ.ar BinOp.add) (KeepN x) (KeepN y) r_1 → br (KeepFo BinOp.neq r_1 r_1) (r = (9221120237041090560 : Int)) (Value.float FloatKind.f64 r_1 = Value.float FloatKind.f64 r_1 ∧ r = (↑r_1 : Int))) := by kernel_rfl
theorem radd_res (x y r : Int) : (callT Try.prog hkD tab noL 10 32 [uS x, uS y] (fun u => subS (uS r) u)) = (x = x ∧ y = y ∧ ∀ (r_1 : Nat), KeepFr (FQ.ar BinOp.add) (KeepN x) (KeepN y) r_1 → Value.float FloatKind.f64 r_1 = Value.float FloatKind.f64 r_1 ∧ ((↑r_1 : Int) = (↑r_1 : Int) ∧ KeepU (↑r_1 : Int)) ∧ r = KeepPl (↑r_1 : Int)) := by kernel_rfl
theorem sub_res (x y : Int) (r : Int) : (callT Try.prog hkE tab noL 10 33 [uS x, uS y] (fun u => subS (uS r) u)) = (x = x ∧ y = y ∧ ∀ (r_1 : Nat), KeepFr (FQ.ar BinOp.sub) (KeepN x) (KeepN y) r_1 → br (KeepFo BinOp.neq r_1 r_1) (r = (9221120237041090560 : Int)) (Value.float FloatKind.f64 r_1 = Value.float FloatKind.f64 r_1 ∧ r = (↑r_1 : Int))) := by kernel_rfl
theorem mul_res (x y : Int) (r : Int) : (callT Try.prog hkE tab noL 10 35 [uS x, uS y] (fun u => subS (uS r) u)) = (x = x ∧ y = y ∧ ∀ (r_1 : Nat), KeepFr (FQ.ar BinOp.mul) (KeepN x) (KeepN y) r_1 → br (KeepFo BinOp.neq r_1 r_1) (r = (9221120237041090560 : Int)) (Value.float FloatKind.f64 r_1 = Value.float FloatKind.f64 r_1 ∧ r = (↑r_1 : Int))) := by kernel_rfl
theorem div_res (x y : Int) (r : Int) : (callT Try.prog hkE tab noL 10 37 [uS x, uS y] (fun u => subS (uS r) u)) = (x = x ∧ y = y ∧ ∀ (r_1 : Nat), KeepFr (FQ.ar BinOp.quo) (KeepN x) (KeepN y) r_1 → br (KeepFo BinOp.neq r_1 r_1) (r = (9221120237041090560 : Int)) (Value.float FloatKind.f64 r_1 = Value.float FloatKind.f64 r_1 ∧ r = (↑r_1 : Int))) := by kernel_rfl
theorem rsub_res (x y : Int) (r : Int) : (callT Try.prog hkD tab noL 10 34 [uS x, uS y] (fun u => subS (uS r) u)) = (x = x ∧ y = y ∧ ∀ (r_1 : Nat), KeepFr (FQ.ar BinOp.sub) (KeepN x) (KeepN y) r_1 → Value.float FloatKind.f64 r_1 = Value.float FloatKind.f64 r_1 ∧ ((↑r_1 : Int) = (↑r_1 : Int) ∧ KeepU (↑r_1 : Int)) ∧ r = KeepPl (↑r_1 : Int)) := by kernel_rfl
theorem rmul_res (x y : Int) (r : Int) : (callT Try.prog hkD tab noL 10 36 [uS x, uS y] (fun u => subS (uS r) u)) = (x = x ∧ y = y ∧ ∀ (r_1 : Nat), KeepFr (FQ.ar BinOp.mul) (KeepN x) (KeepN y) r_1 → Value.float FloatKind.f64 r_1 = Value.float FloatKind.f64 r_1 ∧ ((↑r_1 : Int) = (↑r_1 : Int) ∧ KeepU (↑r_1 : Int)) ∧ r = KeepPl (↑r_1 : Int)) := by kernel_rfl
theorem rdiv_res (x y : Int) (r : Int) : (callT Try.prog hkD tab noL 10 38 [uS x, uS y] (fun u => subS (uS r) u)) = (x = x ∧ y = y ∧ ∀ (r_1 : Nat), KeepFr (FQ.ar BinOp.quo) (KeepN x) (KeepN y) r_1 → Value.float FloatKind.f64 r_1 = Value.float FloatKind.f64 r_1 ∧ ((↑r_1 : Int) = (↑r_1 : Int) ∧ KeepU (↑r_1 : Int)) ∧ r = KeepPl (↑r_1 : Int)) := by kernel_rfl
theorem rless_res (x y : Int) (r : Bool) : (callT Try.prog hkC tab noL 10 20 [uS x, uS y] (fun u => subS (bS r) u)) = ((x = x ∧ KeepU x) ∧ br (decide (KeepCl x = (4 : Int))) (r = false) ((y = y ∧ KeepU y) ∧ br (decide (KeepCl y = (4 : Int))) (r = false) ((x = x ∧ KeepU x) ∧ br (decide (KeepCl x = (0 : Int))) ((y = y ∧ KeepU y) ∧ br (decide (KeepCl y = (0 : Int))) (r = false) ((x = x ∧ KeepU x) ∧ (y = y ∧ KeepU y) ∧ r = decide (KeepKy x < KeepKy y))) ((x = x ∧ KeepU x) ∧ (y = y ∧ KeepU y) ∧ r = decide (KeepKy x < KeepKy y))))) := by kernel_rfl
theorem rsame_res (x y : Int) (r : Bool) : (callT Try.prog hkD tab noL 10 22 [uS x, uS y] (fun u => subS (bS r) u)) = ((x = x ∧ KeepU x) ∧ br (!decide (KeepCl x = (4 : Int))) ((y = y ∧ KeepU y) ∧ br (!decide (KeepCl y = (4 : Int))) ((x = x ∧ y = y ∧ KeepU x ∧ KeepU y) ∧ br (!KeepLs x y) ((y = y ∧ x = x ∧ KeepU y ∧ KeepU x) ∧ r = !KeepLs y x) (r = false)) (r = false)) (r = false)) := by kernel_rfl
theorem rleast_res (x y : Int) (r : Int) : (callT Try.prog hkC tab noL 10 24 [uS x, uS y] (fun u => subS (uS r) u)) = ((x = x ∧ KeepU x) ∧ br (decide (KeepCl x = (4 : Int))) (r = (9221120237041090560 : Int)) ((y = y ∧ KeepU y) ∧ br (decide (KeepCl y = (4 : Int))) (r = (9221120237041090560 : Int)) ((x = x ∧ KeepU x) ∧ (y = y ∧ KeepU y) ∧ br (decide (KeepKy x ≤ KeepKy y)) (r = x) (r = y)))) := by kernel_rfl
theorem rmost_res (x y : Int) (r : Int) : (callT Try.prog hkC tab noL 10 26 [uS x, uS y] (fun u => subS (uS r) u)) = ((x = x ∧ KeepU x) ∧ br (decide (KeepCl x = (4 : Int))) (r = (9221120237041090560 : Int)) ((y = y ∧ KeepU y) ∧ br (decide (KeepCl y = (4 : Int))) (r = (9221120237041090560 : Int)) ((x = x ∧ KeepU x) ∧ (y = y ∧ KeepU y) ∧ br (decide (KeepKy x ≥ KeepKy y)) (r = x) (r = y)))) := by kernel_rfl
theorem up_res (x : Int) (r : Int) : (callT Try.prog hkC tab noL 10 27 [uS x] (fun u => subS (uS r) u)) = ((x = x ∧ KeepU x) ∧ br (decide (KeepCl x = (4 : Int))) (r = (9221120237041090560 : Int)) (br (decide (KeepCl x = (0 : Int))) (r = (1 : Int)) (x = x ∧ br (KeepFo BinOp.gtr (KeepN x) 9218868437227405311) (r = x) ((x = x ∧ KeepU x) ∧ (IntKind.u64.wrap (KeepKy x + (1 : Int)) = IntKind.u64.wrap (KeepKy x + (1 : Int)) ∧ KeepU (IntKind.u64.wrap (KeepKy x + (1 : Int)))) ∧ r = KeepUk (IntKind.u64.wrap (KeepKy x + (1 : Int))))))) := by kernel_rfl
theorem rup_res (x : Int) (r : Int) : (callT Try.prog hkC tab noL 10 28 [uS x] (fun u => subS (uS r) u)) = ((x = x ∧ KeepU x) ∧ br (decide (KeepCl x = (4 : Int))) (r = (9221120237041090560 : Int)) ((x = x ∧ KeepU x) ∧ br (decide (KeepCl x = (0 : Int))) (r = (1 : Int)) (br (decide (sShr IntKind.u64 x (63 : Int) = (1 : Int))) (r = IntKind.u64.wrap (x - (1 : Int))) ((x = x ∧ KeepU x) ∧ br (decide (KeepCl x = (3 : Int))) (r = x) (r = IntKind.u64.wrap (x + (1 : Int))))))) := by kernel_rfl
theorem down_res (x : Int) (r : Int) : (callT Try.prog hkD tab noL 10 29 [uS x] (fun u => subS (uS r) u)) = ((bXor IntKind.u64 x (9223372036854775808 : Int) = bXor IntKind.u64 x (9223372036854775808 : Int) ∧ KeepU (bXor IntKind.u64 x (9223372036854775808 : Int))) ∧ br (!decide (KeepUp (bXor IntKind.u64 x (9223372036854775808 : Int)) = (9221120237041090560 : Int))) (r = bXor IntKind.u64 (KeepUp (bXor IntKind.u64 x (9223372036854775808 : Int))) (9223372036854775808 : Int)) (r = (9221120237041090560 : Int))) := by kernel_rfl
theorem rdown_res (x : Int) (r : Int) : (callT Try.prog hkD tab noL 10 30 [uS x] (fun u => subS (uS r) u)) = ((x = x ∧ KeepU x) ∧ (KeepNg x = KeepNg x ∧ KeepU (KeepNg x)) ∧ (KeepUp (KeepNg x) = KeepUp (KeepNg x) ∧ KeepU (KeepUp (KeepNg x))) ∧ r = KeepNg (KeepUp (KeepNg x))) := by kernel_rfl
theorem rneg_res (x : Int) (r : Int) : (callT Try.prog hkN tab noL 10 50 [uS x] (fun u => subS (uS r) u)) = ((x = x ∧ KeepU x) ∧ br (decide (KeepCl x = (4 : Int))) (r = (9221120237041090560 : Int)) (br (decide (sShr IntKind.u64 x (63 : Int) = (1 : Int))) (r = IntKind.u64.wrap (x - (9223372036854775808 : Int))) (r = IntKind.u64.wrap (x + (9223372036854775808 : Int))))) := by kernel_rfl
end Go.Proofs.Ytjicbncikakhjaa
