/- Printed by a program of ours (gen.py): what the symbolic executor comes to. No condition. -/
import Derived.Test.YthjbgidnoiedmaaCF
import Derived.Test.YthjbgidnoiedmaaLD3
import Derived.KernelRfl
set_option linter.unusedVariables false
open Go Go.Proofs
namespace Go.Proofs.Ythjbgidnoiedmaa
open SY
def aS (a b : Int) : S := .t (.agg [.v (.int .u8 a), .v (.int .u8 b)])
noncomputable def cL (a : S) : List Int := match a with
  | .t (.c c) => (match asL c with
    | some n => n
    | none => [])
  | _ => []
def KeepFew (l : List Int) : Prop := l.length < 1000000
noncomputable def hManyV (ml : Int → Int → List Int) (mt : Int → Int → Int) : Hk := fun vs => match vs with
  | [a, b] => some (subS (uS (cI a)) a ∧ subS (iS (cI b)) b ∧ KeepU (cI a), .tup [.c (.sl [.int .u64] (ml (cI a) (cI b)) none), .c (.v (.int .u64 (mt (cI a) (cI b))))])
  | _ => none
noncomputable def hWordsV (eq : List Int → List Int → Bool) : Hk := fun vs => match vs with
  | [a, b] => some (subS (slU (cL a)) a ∧ subS (slU (cL b)) b ∧ KeepFew (cL a), bS (eq (cL a) (cL b)))
  | _ => none
def KeepEq (a b : List Int) : Bool := decide (a = b)
def KeepPre (a b : List Int) (z : NX) : Prop := z.i ≤ a.length ∧ a.take z.i = b.take z.i
noncomputable def hintWords (a b : List Int) : Hint where
  X := NX
  sl := fun z => [(pth 5, iS z.i)]
  bl := fun _ => []
  tp := []
  nx := 40
  I := fun z => KeepPre a b z
  mu := fun z => a.length - z.i
def KeepUp (a : Int) (z : NX) : Prop := z.i ≤ a
noncomputable def hintB (bi : Nat → Int) (a : Int) : Hint where
  X := NX
  sl := fun z => [(pth 8, uS (bi z.i)), (pth 13, iS z.i)]
  bl := fun _ => []
  tp := []
  nx := 90
  I := fun z => KeepUp a z
  mu := fun z => 255 - z.i
noncomputable def hkM (ml : Int → Int → List Int) (mt : Int → Int → Int) (bk : Int → Int) (eq : List Int → List Int → Bool) : Hooks := hkL [(9, hAlive), (12, hManyV ml mt), (21, hBackV bk), (14, hWordsV eq)]

set_option maxRecDepth 100000
set_option linter.all false
theorem words_res (a b : List Int) (r : Bool) : (callT Try.prog (hkL []) tab (lhL [(1, hintWords a b)]) 10 14 [slU a, slU b] (fun u => subS (bS r) u)) = (br (!decide ((↑a.length : Int) = (↑b.length : Int))) (r = false) ((∃ (x : NX), KeepPre a b x ∧ ((↑x.1 : Int) = (0 : Int) ∧ True) ∧ True) ∧ ∀ (x : NX), KeepPre a b x → br (decide ((↑x.1 : Int) < (↑a.length : Int))) (br (true && decide ((↑x.1 : Int) < (↑a.length : Int))) (br (true && decide ((↑x.1 : Int) < (↑b.length : Int))) (br (!decide (gI a (↑x.1 : Int).toNat = gI b (↑x.1 : Int).toNat)) (r = false) (∃ (x' : NX), KeepPre a b x' ∧ a.length - x'.1 < a.length - x.1 ∧ ((↑x'.1 : Int) = IntKind.i64.wrap ((↑x.1 : Int) + (1 : Int)) ∧ True) ∧ True)) False) False) (r = true))) := by kernel_rfl
theorem manyl_res (ml : Int → Int → List Int) (mt : Int → Int → Int) (bk : Int → Int) (bi : Nat → Int) (eq : List Int → List Int → Bool) (s a b : Int) : (callT Try.prog (hkM ml mt bk eq) tab (lhL [(1, hintB bi a)]) 10 7 [uS s, aS a b] tru) = (True ∧ (s = s ∧ IntKind.i64.wrap a = IntKind.i64.wrap a ∧ KeepU s) ∧ (mt (cI (S.t (T.c (SC.v (Value.int IntKind.u64 s))))) (cI (S.t (T.c (SC.v (Value.int IntKind.i64 (IntKind.i64.wrap a)))))) = mt (cI (S.t (T.c (SC.v (Value.int IntKind.u64 s))))) (cI (S.t (T.c (SC.v (Value.int IntKind.i64 (IntKind.i64.wrap a)))))) ∧ IntKind.i64.wrap b = IntKind.i64.wrap b ∧ KeepU (mt (cI (S.t (T.c (SC.v (Value.int IntKind.u64 s))))) (cI (S.t (T.c (SC.v (Value.int IntKind.i64 (IntKind.i64.wrap a)))))))) ∧ (s = s ∧ IntKind.i64.wrap (IntKind.i64.wrap a + IntKind.i64.wrap b) = IntKind.i64.wrap (IntKind.i64.wrap a + IntKind.i64.wrap b) ∧ KeepU s) ∧ br (!decide (mt (cI (S.t (T.c (SC.v (Value.int IntKind.u64 (mt (cI (S.t (T.c (SC.v (Value.int IntKind.u64 s))))) (cI (S.t (T.c (SC.v (Value.int IntKind.i64 (IntKind.i64.wrap a)))))))))))) (cI (S.t (T.c (SC.v (Value.int IntKind.i64 (IntKind.i64.wrap b)))))) = mt (cI (S.t (T.c (SC.v (Value.int IntKind.u64 s))))) (cI (S.t (T.c (SC.v (Value.int IntKind.i64 (IntKind.i64.wrap (IntKind.i64.wrap a + IntKind.i64.wrap b))))))))) (S.t (T.c (SC.v (Value.bool false))) = S.t (T.c (SC.v (Value.bool true)))) (br (!decide ((↑(ml (cI (S.t (T.c (SC.v (Value.int IntKind.u64 s))))) (cI (S.t (T.c (SC.v (Value.int IntKind.i64 (IntKind.i64.wrap a))))))).length : Int) = IntKind.i64.wrap a)) (S.t (T.c (SC.v (Value.bool false))) = S.t (T.c (SC.v (Value.bool true)))) (br (!decide ((↑(ml (cI (S.t (T.c (SC.v (Value.int IntKind.u64 s))))) (cI (S.t (T.c (SC.v (Value.int IntKind.i64 (IntKind.i64.wrap (IntKind.i64.wrap a + IntKind.i64.wrap b)))))))).length : Int) = IntKind.i64.wrap (IntKind.i64.wrap a + IntKind.i64.wrap b))) (S.t (T.c (SC.v (Value.bool false))) = S.t (T.c (SC.v (Value.bool true)))) ((∃ (x : NX), KeepUp a x ∧ (bi x.i = mt (cI (S.t (T.c (SC.v (Value.int IntKind.u64 s))))) (cI (S.t (T.c (SC.v (Value.int IntKind.i64 (IntKind.i64.wrap a)))))) ∧ (↑x.1 : Int) = (0 : Int) ∧ True) ∧ True) ∧ ∀ (x : NX), KeepUp a x → br (decide ((↑x.1 : Int) < IntKind.i64.wrap a)) ((bi x.i = bi x.i ∧ KeepU (bi x.i)) ∧ ∃ (x' : NX), KeepUp a x' ∧ 255 - x'.1 < 255 - x.1 ∧ (bi x'.i = bk (cI (S.t (T.c (SC.v (Value.int IntKind.u64 (bi x.i)))))) ∧ (↑x'.1 : Int) = IntKind.i64.wrap ((↑x.1 : Int) + (1 : Int)) ∧ True) ∧ True) (br (decide (bi x.i = s)) (br ((0 + (ml (cI (S.t (T.c (SC.v (Value.int IntKind.u64 s))))) (cI (S.t (T.c (SC.v (Value.int IntKind.i64 (IntKind.i64.wrap a))))))).length).ble 1099511627776) (br ((([] ++ ml (cI (S.t (T.c (SC.v (Value.int IntKind.u64 s))))) (cI (S.t (T.c (SC.v (Value.int IntKind.i64 (IntKind.i64.wrap a))))))).length + (ml (cI (S.t (T.c (SC.v (Value.int IntKind.u64 (mt (cI (S.t (T.c (SC.v (Value.int IntKind.u64 s))))) (cI (S.t (T.c (SC.v (Value.int IntKind.i64 (IntKind.i64.wrap a)))))))))))) (cI (S.t (T.c (SC.v (Value.int IntKind.i64 (IntKind.i64.wrap b))))))).length).ble 1099511627776) ((ml (cI (S.t (T.c (SC.v (Value.int IntKind.u64 s))))) (cI (S.t (T.c (SC.v (Value.int IntKind.i64 (IntKind.i64.wrap (IntKind.i64.wrap a + IntKind.i64.wrap b))))))) = ml (cI (S.t (T.c (SC.v (Value.int IntKind.u64 s))))) (cI (S.t (T.c (SC.v (Value.int IntKind.i64 (IntKind.i64.wrap (IntKind.i64.wrap a + IntKind.i64.wrap b))))))) ∧ [] ++ ml (cI (S.t (T.c (SC.v (Value.int IntKind.u64 s))))) (cI (S.t (T.c (SC.v (Value.int IntKind.i64 (IntKind.i64.wrap a)))))) ++ ml (cI (S.t (T.c (SC.v (Value.int IntKind.u64 (mt (cI (S.t (T.c (SC.v (Value.int IntKind.u64 s))))) (cI (S.t (T.c (SC.v (Value.int IntKind.i64 (IntKind.i64.wrap a)))))))))))) (cI (S.t (T.c (SC.v (Value.int IntKind.i64 (IntKind.i64.wrap b)))))) = [] ++ ml (cI (S.t (T.c (SC.v (Value.int IntKind.u64 s))))) (cI (S.t (T.c (SC.v (Value.int IntKind.i64 (IntKind.i64.wrap a)))))) ++ ml (cI (S.t (T.c (SC.v (Value.int IntKind.u64 (mt (cI (S.t (T.c (SC.v (Value.int IntKind.u64 s))))) (cI (S.t (T.c (SC.v (Value.int IntKind.i64 (IntKind.i64.wrap a)))))))))))) (cI (S.t (T.c (SC.v (Value.int IntKind.i64 (IntKind.i64.wrap b)))))) ∧ KeepFew (ml (cI (S.t (T.c (SC.v (Value.int IntKind.u64 s))))) (cI (S.t (T.c (SC.v (Value.int IntKind.i64 (IntKind.i64.wrap (IntKind.i64.wrap a + IntKind.i64.wrap b))))))))) ∧ S.t (T.c (SC.v (Value.bool (eq (cL (S.t (T.c (SC.sl [CK.int IntKind.u64] (ml (cI (S.t (T.c (SC.v (Value.int IntKind.u64 s))))) (cI (S.t (T.c (SC.v (Value.int IntKind.i64 (IntKind.i64.wrap (IntKind.i64.wrap a + IntKind.i64.wrap b)))))))) none)))) (cL (S.t (T.c (SC.sl [CK.int IntKind.u64] ([] ++ ml (cI (S.t (T.c (SC.v (Value.int IntKind.u64 s))))) (cI (S.t (T.c (SC.v (Value.int IntKind.i64 (IntKind.i64.wrap a)))))) ++ ml (cI (S.t (T.c (SC.v (Value.int IntKind.u64 (mt (cI (S.t (T.c (SC.v (Value.int IntKind.u64 s))))) (cI (S.t (T.c (SC.v (Value.int IntKind.i64 (IntKind.i64.wrap a)))))))))))) (cI (S.t (T.c (SC.v (Value.int IntKind.i64 (IntKind.i64.wrap b))))))) none)))))))) = S.t (T.c (SC.v (Value.bool true)))) False) False) (S.t (T.c (SC.v (Value.bool false))) = S.t (T.c (SC.v (Value.bool true))))))))) := by kernel_rfl
end Go.Proofs.Ythjbgidnoiedmaa
