/- Printed by a program of ours (gen.py): what the symbolic executor comes to. No condition. -/
import Derived.Test.YtlapjaodhdifoaaCF
import Derived.Test.YtlapjaodhdifoaaHC4
import Derived.Test.YtlapjaodhdifoaaSyX
import Derived.KernelRfl
set_option linter.unusedVariables false
open Go Go.Proofs
namespace Go.Proofs.Ytlapjaodhdifoaa
open SY
structure NX where
  i : Nat
def KeepFew (l : List Int) : Prop := l.length < 1000000
noncomputable def hEqV (eq : List Int → List Int → Bool) : Hk := fun vs => match vs with
  | [a, b] => some (subS (slU (cL a)) a ∧ subS (slU (cL b)) b ∧ KeepFew (cL a), bS (eq (cL a) (cL b)))
  | _ => none
def KeepEq (a b : List Int) : Bool := decide (a = b)
def KeepPre (a b : List Int) (z : NX) : Prop := z.i ≤ a.length ∧ a.take z.i = b.take z.i
noncomputable def hintEq (p : Nat) (a b : List Int) : Hint where
  X := NX
  sl := fun z => [(pth p, iS z.i)]
  bl := fun _ => []
  tp := []
  nx := 0
  I := fun z => KeepPre a b z
  mu := fun z => a.length - z.i
noncomputable def hkR (at_ : List Int → Int → Int) (st : List Int → Int → Int → List Int) (in_ : List Int → Int → Bool) : Hooks := hkL [(7, hLd at_ in_), (9, hSt st in_)]

set_option maxRecDepth 100000
set_option linter.all false
theorem words_res (a b : List Int) (r : Bool) : (callT Try.prog (hkL []) tab (lhL [(1, hintEq 5 a b)]) 10 14 [slU a, slU b] (fun u => subS (bS r) u)) = (br (!decide ((↑a.length : Int) = (↑b.length : Int))) (r = false) ((∃ (x : NX), KeepPre a b x ∧ ((↑x.1 : Int) = (0 : Int) ∧ True) ∧ True) ∧ ∀ (x : NX), KeepPre a b x → br (decide ((↑x.1 : Int) < (↑a.length : Int))) (br (true && decide ((↑x.1 : Int) < (↑a.length : Int))) (br (true && decide ((↑x.1 : Int) < (↑b.length : Int))) (br (!decide (gI a (↑x.1 : Int).toNat = gI b (↑x.1 : Int).toNat)) (r = false) (∃ (x' : NX), KeepPre a b x' ∧ a.length - x'.1 < a.length - x.1 ∧ ((↑x'.1 : Int) = IntKind.i64.wrap ((↑x.1 : Int) + (1 : Int)) ∧ True) ∧ True)) False) False) (r = true))) := by kernel_rfl
theorem equal_res (a b : List Int) (r : Bool) : (callT Try.prog (hkL []) tab (lhL [(1, hintEq 13 a b)]) 10 21 [slU a, slU b] (fun u => subS (bS r) u)) = (br (!decide ((↑a.length : Int) = (↑b.length : Int))) (r = false) ((∃ (x : NX), KeepPre a b x ∧ ((↑x.1 : Int) = (0 : Int) ∧ True) ∧ True) ∧ ∀ (x : NX), KeepPre a b x → br (decide ((↑x.1 : Int) < (↑a.length : Int))) (br (true && decide ((↑x.1 : Int) < (↑a.length : Int))) (br (true && decide ((↑x.1 : Int) < (↑b.length : Int))) (br (!decide (gI a (↑x.1 : Int).toNat = gI b (↑x.1 : Int).toNat)) (r = false) (∃ (x' : NX), KeepPre a b x' ∧ a.length - x'.1 < a.length - x.1 ∧ ((↑x'.1 : Int) = IntKind.i64.wrap ((↑x.1 : Int) + (1 : Int)) ∧ True) ∧ True)) False) False) (r = true))) := by kernel_rfl
theorem rload_res (xs : List Int) (i x : Int) (b : Bool) : (callT Try.prog (hkL []) tab noL 10 7 [slU xs, iS i] (fun u => subS (.tup [.c (.v (.int .u64 x)), .c (.v (.bool b))]) u)) = (br (decide (i < (0 : Int))) (x = (0 : Int) ∧ b = false ∧ True) (br (decide (i ≥ (↑xs.length : Int))) (x = (0 : Int) ∧ b = false ∧ True) (br (decide ((0 : Int) ≤ i) && decide (i < (↑xs.length : Int))) (x = gI xs i.toNat ∧ b = true ∧ True) False))) := by kernel_rfl
theorem rstore_res (xs r : List Int) (i y : Int) (b : Bool) : (callT Try.prog (hkL []) tab noL 10 9 [slU xs, iS i, uS y] (fun u => subS (.tup [.c (.sl [.int .u64] r none), .c (.v (.bool b))]) u)) = (br (decide (i < (0 : Int))) (r = [] ∧ b = false ∧ True) (br (decide (i ≥ (↑xs.length : Int))) (r = [] ∧ b = false ∧ True) (br (decide ((0 : Int) ≤ i) && decide (i ≤ (↑xs.length : Int))) (br ((0 + (List.take i.toNat xs).length).ble 1099511627776) (br ((([] ++ List.take i.toNat xs).length + 1).ble 1099511627776) (br (decide ((0 : Int) ≤ IntKind.i64.wrap (i + (1 : Int))) && decide (IntKind.i64.wrap (i + (1 : Int)) ≤ (↑xs.length : Int))) (br ((([] ++ List.take i.toNat xs ++ [y]).length + (List.drop (IntKind.i64.wrap (i + (1 : Int))).toNat xs).length).ble 1099511627776) (r = [] ++ List.take i.toNat xs ++ [y] ++ List.drop (IntKind.i64.wrap (i + (1 : Int))).toNat xs ∧ b = true ∧ True) False) False) False) False) False))) := by kernel_rfl
theorem rswap_res (at_ : List Int → Int → Int) (st : List Int → Int → Int → List Int) (in_ : List Int → Int → Bool) (xs r : List Int) (i old y : Int) (b b' : Bool) : (callT Try.prog (hkR at_ st in_) tab noL 10 11 [slU xs, iS i, uS old, uS y] (fun u => subS (.tup [.c (.sl [.int .u64] r none), .c (.v (.bool b)), .c (.v (.bool b'))]) u)) = ((xs = xs ∧ i = i ∧ KeepLe xs) ∧ br (!in_ (cL (S.t (T.c (SC.sl [CK.int IntKind.u64] xs none)))) (cI (S.t (T.c (SC.v (Value.int IntKind.i64 i)))))) (r = [] ∧ b = false ∧ b' = false ∧ True) (br (!decide (at_ (cL (S.t (T.c (SC.sl [CK.int IntKind.u64] xs none)))) (cI (S.t (T.c (SC.v (Value.int IntKind.i64 i))))) = old)) (br ((0 + xs.length).ble 1099511627776) (r = [] ++ xs ∧ b = false ∧ b' = true ∧ True) False) ((xs = xs ∧ i = i ∧ y = y ∧ KeepLe xs) ∧ r = st (cL (S.t (T.c (SC.sl [CK.int IntKind.u64] xs none)))) (cI (S.t (T.c (SC.v (Value.int IntKind.i64 i))))) (cI (S.t (T.c (SC.v (Value.int IntKind.u64 y))))) ∧ b = true ∧ b' = true ∧ True))) := by kernel_rfl
theorem rmore_res (at_ : List Int → Int → Int) (st : List Int → Int → Int → List Int) (in_ : List Int → Int → Bool) (xs r : List Int) (i y x : Int) (b : Bool) : (callT Try.prog (hkR at_ st in_) tab noL 10 13 [slU xs, iS i, uS y] (fun u => subS (.tup [.c (.sl [.int .u64] r none), .c (.v (.int .u64 x)), .c (.v (.bool b))]) u)) = ((xs = xs ∧ i = i ∧ KeepLe xs) ∧ br (!in_ (cL (S.t (T.c (SC.sl [CK.int IntKind.u64] xs none)))) (cI (S.t (T.c (SC.v (Value.int IntKind.i64 i)))))) (r = [] ∧ x = (0 : Int) ∧ b = false ∧ True) ((xs = xs ∧ i = i ∧ IntKind.u64.wrap (at_ (cL (S.t (T.c (SC.sl [CK.int IntKind.u64] xs none)))) (cI (S.t (T.c (SC.v (Value.int IntKind.i64 i))))) + y) = IntKind.u64.wrap (at_ (cL (S.t (T.c (SC.sl [CK.int IntKind.u64] xs none)))) (cI (S.t (T.c (SC.v (Value.int IntKind.i64 i))))) + y) ∧ KeepLe xs) ∧ r = st (cL (S.t (T.c (SC.sl [CK.int IntKind.u64] xs none)))) (cI (S.t (T.c (SC.v (Value.int IntKind.i64 i))))) (cI (S.t (T.c (SC.v (Value.int IntKind.u64 (IntKind.u64.wrap (at_ (cL (S.t (T.c (SC.sl [CK.int IntKind.u64] xs none)))) (cI (S.t (T.c (SC.v (Value.int IntKind.i64 i))))) + y))))))) ∧ x = IntKind.u64.wrap (at_ (cL (S.t (T.c (SC.sl [CK.int IntKind.u64] xs none)))) (cI (S.t (T.c (SC.v (Value.int IntKind.i64 i))))) + y) ∧ b = true ∧ True)) := by kernel_rfl
end Go.Proofs.Ytlapjaodhdifoaa
