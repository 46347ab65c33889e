/- Printed by a program of ours (gen.py): what the symbolic executor comes to. No condition. -/
import Derived.Test.YtccchfhjmahlpaaCF
import Derived.Test.YtccchfhjmahlpaaLLen
import Derived.KernelRfl
set_option linter.unusedVariables false
open Go Go.Proofs
namespace Go.Proofs.Ytccchfhjmahlpaa
open SY
def szk : Nat → Int → Nat
  | 0, _ => 1
  | k + 1, x => if x ≤ 255 then 1 else szk k (x / 256) + 1
def KeepSz (x : Int) : Int := szk 7 x
def KeepLe : Nat → Int → List Int
  | 0, _ => []
  | k + 1, x => (x % 256) :: KeepLe k (x / 256)
def val : List Int → Int
  | [] => 0
  | c :: l => c + 256 * val l
def KeepPe (x w : Int) : Int := if 1 ≤ w ∧ w ≤ 8 then (if KeepSz x ≤ w then 0 else 4) else 1
def KeepPp (b : List Int) (x w : Int) : List Int := if KeepPe x w = 0 then b ++ KeepLe w.toNat x else []
def KeepCe (b : List Int) (a n : Int) : Int := if a < 0 ∨ a > b.length ∨ n < 0 then 1 else if n > b.length - a then 2 else 0
def KeepCn (b : List Int) (a n : Int) : Int := if KeepCe b a n = 0 then a + n else 0
def KeepCp (b : List Int) (a n : Int) : List Int := if KeepCe b a n = 0 then (b.drop a.toNat).take n.toNat else []
def KeepTe (b : List Int) (a w : Int) : Int := if 1 ≤ w ∧ w ≤ 8 then KeepCe b a w else 1
def KeepTn (b : List Int) (a w : Int) : Int := if KeepTe b a w = 0 then a + w else 0
def KeepTx (b : List Int) (a w : Int) : Int := if KeepTe b a w = 0 then val (KeepCp b a w) else 0
noncomputable def hSize : Hk := fun vs => match vs with
  | [a] => some (subS (uS (cI a)) a ∧ KeepU (cI a), iS (KeepSz (cI a)))
  | _ => none
def putT (b : List Int) (x w : Int) : S := .tup [.c (.sl [.int .u8] (KeepPp b x w) none), .c (.v (.int .i64 (KeepPe x w)))]
def cutT (b : List Int) (a n : Int) : S := .tup [.c (.sl [.int .u8] (KeepCp b a n) none), .c (.v (.int .i64 (KeepCn b a n))), .c (.v (.int .i64 (KeepCe b a n)))]
def takeT (b : List Int) (a n : Int) : S := .tup [.c (.v (.int .u64 (KeepTx b a n))), .c (.v (.int .i64 (KeepTn b a n))), .c (.v (.int .i64 (KeepTe b a n)))]
noncomputable def hPut : Hk := fun vs => match vs with
  | [a, b, c] => some (subS (slB (cL a)) a ∧ subS (uS (cI b)) b ∧ subS (iS (cI c)) c ∧ KeepU (cI b) ∧ KeepFew (cL a), putT (cL a) (cI b) (cI c))
  | _ => none
noncomputable def hCut : Hk := fun vs => match vs with
  | [a, b, c] => some (subS (slB (cL a)) a ∧ subS (iS (cI b)) b ∧ subS (iS (cI c)) c ∧ KeepI (cI b) ∧ KeepI (cI c) ∧ KeepFew (cL a), cutT (cL a) (cI b) (cI c))
  | _ => none
noncomputable def hTake : Hk := fun vs => match vs with
  | [a, b, c] => some (subS (slB (cL a)) a ∧ subS (iS (cI b)) b ∧ subS (iS (cI c)) c ∧ KeepI (cI b) ∧ KeepI (cI c) ∧ KeepFew (cL a) ∧ KeepBy (cL a), takeT (cL a) (cI b) (cI c))
  | _ => none
structure PX where
  i : Nat
  out : List Int
def KeepP (b : List Int) (x w : Int) (z : PX) : Prop := (z.i : Int) ≤ w ∧ w ≤ 8 ∧ z.out = b ++ KeepLe z.i x
def hintPut (b : List Int) (x w : Int) : Hint where
  X := PX
  sl := fun z => [(pth 8, .t (.c (.sl [.int .u8] z.out (some (65, 0))))), (pth 22, iS z.i)]
  bl := fun _ => [(65, .tok 5 0)]
  tp := [(65, .inl (pth 8))]
  nx := 71
  I := fun z => KeepP b x w z
  mu := fun z => w.toNat - z.i
def KeepQ (x : Int) (i : Nat) : Int := x / 256 ^ i
def hintRPut (b : List Int) (x w : Int) : Hint where
  X := PX
  sl := fun z => [(pth 1, uS (KeepQ x z.i)), (pth 8, .t (.c (.sl [.int .u8] z.out (some (31, 0))))), (pth 9, iS z.i)]
  bl := fun _ => [(31, .tok 5 0)]
  tp := [(31, .inl (pth 8))]
  nx := 35
  I := fun z => KeepP b x w z
  mu := fun z => w.toNat - z.i
structure TX where
  i : Nat
def KeepV (l : List Int) (i : Nat) : Int := val (l.take i)
def KeepL (l : List Int) (z : TX) : Prop := z.i ≤ l.length
def hintTake (l : List Int) : Hint where
  X := TX
  sl := fun z => [(pth 6, uS (KeepV l z.i)), (pth 25, iS z.i)]
  bl := fun _ => []
  tp := []
  nx := 31
  I := fun z => KeepL l z
  mu := fun z => l.length - z.i
def KeepD (l : List Int) (i : Nat) : Int := val (l.drop i)
def KeepI1 (i : Nat) : Int := (i : Int) - 1
def hintRTake (l : List Int) : Hint where
  X := TX
  sl := fun z => [(pth 12, uS (KeepD l z.i)), (pth 13, iS (KeepI1 z.i))]
  bl := fun _ => []
  tp := []
  nx := 27
  I := fun z => KeepL l z
  mu := fun z => z.i
structure SX where
  x : Int
  k : Nat
  n : Int
def KeepS (x : Int) (z : SX) : Prop := z.k ≤ 7 ∧ 0 ≤ z.x ∧ z.x < 256 ^ z.k ∧ z.n + (if z.x = 0 then 0 else szk (z.k - 1) z.x) = szk 7 x ∧ 0 ≤ z.n ∧ z.n ≤ 8
def hintRSize (x : Int) : Hint where
  X := SX
  sl := fun z => [(pth 0, uS z.x), (pth 3, iS z.n)]
  bl := fun _ => []
  tp := []
  nx := 5
  I := fun z => KeepS x z
  mu := fun z => z.k

set_option maxRecDepth 100000
set_option linter.all false
theorem size_res (x : Int) : (callT Try.prog (hkL [(20, hLen)]) tab noL 10 12 [uS x] (fun u => subS (iS (KeepSz x)) u)) = ((x = x ∧ KeepU x) ∧ KeepSz x = imax (1 : Int) (IntKind.i64.wrap ((IntKind.i64.wrap (IntKind.i64.wrap (KeepLn x + (8 : Int)) - (1 : Int))).tdiv (8 : Int)))) := by kernel_rfl
theorem rsize_res (x : Int) : (callT Try.prog (hkL []) tab (lhL [(1, hintRSize x)]) 10 13 [uS x] (fun u => subS (iS (KeepSz x)) u)) = ((∃ (x_1 : SX), KeepS x x_1 ∧ (x_1.1 = IntKind.u64.wrap (x.tdiv (256 : Int)) ∧ x_1.3 = (1 : Int) ∧ True) ∧ True) ∧ ∀ (x_1 : SX), KeepS x x_1 → br (decide (x_1.1 > (0 : Int))) (∃ (x' : SX), KeepS x x' ∧ x'.2 < x_1.2 ∧ (x'.1 = IntKind.u64.wrap (x_1.1.tdiv (256 : Int)) ∧ x'.3 = IntKind.i64.wrap (x_1.3 + (1 : Int)) ∧ True) ∧ True) (KeepSz x = x_1.3)) := by kernel_rfl
theorem put_res (b : List Int) (x w : Int) : (callT Try.prog (hkL [(12, hSize)]) tab (lhL [(2, hintPut b x w)]) 10 8 [slB b, uS x, iS w] (fun u => subS (putT b x w) u)) = (br (decide (w ≥ (1 : Int))) (br (!decide (w ≤ (8 : Int))) (KeepPp b x w = [] ∧ KeepPe x w = (1 : Int) ∧ True) (br (decide (w ≥ (1 : Int))) (br (decide (w ≤ (8 : Int))) ((x = x ∧ KeepU x) ∧ br (!decide (KeepSz x ≤ w)) (KeepPp b x w = [] ∧ KeepPe x w = (4 : Int) ∧ True) (br (true && (decide ((↑b.length : Int) ≤ (↑b.length : Int)) && decide ((↑b.length : Int) = (↑b.length : Int)))) ((∃ (x_1 : PX), KeepP b x w x_1 ∧ (x_1.2 = List.take (↑b.length : Int).toNat b ∧ (↑x_1.1 : Int) = (0 : Int) ∧ True) ∧ True ∧ True) ∧ ∀ (x_1 : PX), KeepP b x w x_1 → br (decide ((↑x_1.1 : Int) < w)) (br (decide ((0 : Int) ≤ IntKind.u64.wrap (IntKind.i64.wrap ((↑x_1.1 : Int) * (8 : Int))))) (br ((x_1.2.length + 1).ble 1099511627776) (∃ (x' : PX), KeepP b x w x' ∧ w.toNat - x'.1 < w.toNat - x_1.1 ∧ (x'.2 = x_1.2 ++ [IntKind.u8.wrap (sShr IntKind.u64 x (IntKind.u64.wrap (IntKind.i64.wrap ((↑x_1.1 : Int) * (8 : Int)))))] ∧ (↑x'.1 : Int) = IntKind.i64.wrap ((↑x_1.1 : Int) + (1 : Int)) ∧ True) ∧ True ∧ True) False) False) (KeepPp b x w = x_1.2 ∧ KeepPe x w = (0 : Int) ∧ True)) False)) (KeepPp b x w = [] ∧ KeepPe x w = (4 : Int) ∧ True)) (KeepPp b x w = [] ∧ KeepPe x w = (4 : Int) ∧ True))) (KeepPp b x w = [] ∧ KeepPe x w = (1 : Int) ∧ True)) := by kernel_rfl
theorem rput_res (b : List Int) (x w : Int) : (callT Try.prog (hkL [(13, hSize)]) tab (lhL [(1, hintRPut b x w)]) 10 9 [slB b, uS x, iS w] (fun u => subS (putT b x w) u)) = (br (decide (w < (1 : Int))) (KeepPp b x w = [] ∧ KeepPe x w = (1 : Int) ∧ True) (br (decide (w > (8 : Int))) (KeepPp b x w = [] ∧ KeepPe x w = (1 : Int) ∧ True) (br (decide (w ≥ (1 : Int))) (br (decide (w ≤ (8 : Int))) ((x = x ∧ KeepU x) ∧ br (!decide (KeepSz x ≤ w)) (KeepPp b x w = [] ∧ KeepPe x w = (4 : Int) ∧ True) (br ((0 + b.length).ble 1099511627776) ((∃ (x_1 : PX), KeepP b x w x_1 ∧ (KeepQ x x_1.1 = x ∧ x_1.2 = [] ++ b ∧ (↑x_1.1 : Int) = (0 : Int) ∧ True) ∧ True ∧ True) ∧ ∀ (x_1 : PX), KeepP b x w x_1 → br (decide ((↑x_1.1 : Int) < w)) (br ((x_1.2.length + 1).ble 1099511627776) (∃ (x' : PX), KeepP b x w x' ∧ w.toNat - x'.1 < w.toNat - x_1.1 ∧ (KeepQ x x'.1 = IntKind.u64.wrap ((KeepQ x x_1.1).tdiv (256 : Int)) ∧ x'.2 = x_1.2 ++ [IntKind.u8.wrap ((KeepQ x x_1.1).tmod (256 : Int))] ∧ (↑x'.1 : Int) = IntKind.i64.wrap ((↑x_1.1 : Int) + (1 : Int)) ∧ True) ∧ True ∧ True) False) (KeepPp b x w = x_1.2 ∧ KeepPe x w = (0 : Int) ∧ True)) False)) (KeepPp b x w = [] ∧ KeepPe x w = (4 : Int) ∧ True)) (KeepPp b x w = [] ∧ KeepPe x w = (4 : Int) ∧ True)))) := by kernel_rfl
theorem cut_res (b : List Int) (a n : Int) : (callT Try.prog (hkL []) tab noL 10 16 [slB b, iS a, iS n] (fun u => subS (cutT b a n) u)) = (br (decide (a < (0 : Int))) (KeepCp b a n = [] ∧ KeepCn b a n = (0 : Int) ∧ KeepCe b a n = (1 : Int) ∧ True) (br (decide (a > (↑b.length : Int))) (KeepCp b a n = [] ∧ KeepCn b a n = (0 : Int) ∧ KeepCe b a n = (1 : Int) ∧ True) (br (decide (n < (0 : Int))) (KeepCp b a n = [] ∧ KeepCn b a n = (0 : Int) ∧ KeepCe b a n = (1 : Int) ∧ True) (br (decide (n > IntKind.i64.wrap ((↑b.length : Int) - a))) (KeepCp b a n = [] ∧ KeepCn b a n = (0 : Int) ∧ KeepCe b a n = (2 : Int) ∧ True) (br (decide ((0 : Int) ≤ a) && (decide (a ≤ IntKind.i64.wrap (a + n)) && (decide (IntKind.i64.wrap (a + n) ≤ (↑b.length : Int)) && decide (IntKind.i64.wrap (a + n) = IntKind.i64.wrap (a + n))))) (KeepCp b a n = List.drop a.toNat (List.take (IntKind.i64.wrap (a + n)).toNat b) ∧ KeepCn b a n = IntKind.i64.wrap (a + n) ∧ KeepCe b a n = (0 : Int) ∧ True) False))))) := by kernel_rfl
theorem rcut_res (b : List Int) (a n : Int) : (callT Try.prog (hkL []) tab noL 10 17 [slB b, iS a, iS n] (fun u => subS (cutT b a n) u)) = (br (decide (a < (0 : Int))) (KeepCp b a n = [] ∧ KeepCn b a n = (0 : Int) ∧ KeepCe b a n = (1 : Int) ∧ True) (br (decide (a > (↑b.length : Int))) (KeepCp b a n = [] ∧ KeepCn b a n = (0 : Int) ∧ KeepCe b a n = (1 : Int) ∧ True) (br (decide (n < (0 : Int))) (KeepCp b a n = [] ∧ KeepCn b a n = (0 : Int) ∧ KeepCe b a n = (1 : Int) ∧ True) (br (decide (IntKind.i64.wrap ((↑b.length : Int) - a) < n)) (KeepCp b a n = [] ∧ KeepCn b a n = (0 : Int) ∧ KeepCe b a n = (2 : Int) ∧ True) (br (decide ((0 : Int) ≤ a) && (decide (a ≤ IntKind.i64.wrap (a + n)) && decide (IntKind.i64.wrap (a + n) ≤ (↑b.length : Int)))) (br ((0 + (List.drop a.toNat (List.take (IntKind.i64.wrap (a + n)).toNat b)).length).ble 1099511627776) (KeepCp b a n = [] ++ List.drop a.toNat (List.take (IntKind.i64.wrap (a + n)).toNat b) ∧ KeepCn b a n = IntKind.i64.wrap (a + n) ∧ KeepCe b a n = (0 : Int) ∧ True) False) False))))) := by kernel_rfl
theorem take_res (b : List Int) (a n : Int) : (callT Try.prog (hkL [(16, hCut)]) tab (lhL [(1, hintTake (KeepCp b a n))]) 10 14 [slB b, iS a, iS n] (fun u => subS (takeT b a n) u)) = (br (decide (n ≥ (1 : Int))) (br (!decide (n ≤ (8 : Int))) (KeepTx b a n = (0 : Int) ∧ KeepTn b a n = (0 : Int) ∧ KeepTe b a n = (1 : Int) ∧ True) ((b = b ∧ a = a ∧ n = n ∧ KeepI a ∧ KeepI n ∧ KeepFew b) ∧ (∃ (x : TX), KeepL (KeepCp b a n) x ∧ (KeepV (KeepCp b a n) x.1 = (0 : Int) ∧ (↑x.1 : Int) = (0 : Int) ∧ True) ∧ True) ∧ ∀ (x : TX), KeepL (KeepCp b a n) x → br (decide ((↑x.1 : Int) < (↑(KeepCp b a n).length : Int))) (br (true && decide ((↑x.1 : Int) < (↑(KeepCp b a n).length : Int))) (br (decide ((0 : Int) ≤ IntKind.u64.wrap (IntKind.i64.wrap ((↑x.1 : Int) * (8 : Int))))) (∃ (x' : TX), KeepL (KeepCp b a n) x' ∧ (KeepCp b a n).length - x'.1 < (KeepCp b a n).length - x.1 ∧ (KeepV (KeepCp b a n) x'.1 = bOr IntKind.u64 (KeepV (KeepCp b a n) x.1) (sShl IntKind.u64 (IntKind.u64.wrap (gI (KeepCp b a n) (↑x.1 : Int).toNat)) (IntKind.u64.wrap (IntKind.i64.wrap ((↑x.1 : Int) * (8 : Int))))) ∧ (↑x'.1 : Int) = IntKind.i64.wrap ((↑x.1 : Int) + (1 : Int)) ∧ True) ∧ True) False) False) (KeepTx b a n = KeepV (KeepCp b a n) x.1 ∧ KeepTn b a n = KeepCn b a n ∧ KeepTe b a n = KeepCe b a n ∧ True))) (KeepTx b a n = (0 : Int) ∧ KeepTn b a n = (0 : Int) ∧ KeepTe b a n = (1 : Int) ∧ True)) := by kernel_rfl
theorem rtake_res (b : List Int) (a n : Int) : (callT Try.prog (hkL [(17, hCut)]) tab (lhL [(1, hintRTake (KeepCp b a n))]) 10 15 [slB b, iS a, iS n] (fun u => subS (takeT b a n) u)) = (br (decide (n < (1 : Int))) (KeepTx b a n = (0 : Int) ∧ KeepTn b a n = (0 : Int) ∧ KeepTe b a n = (1 : Int) ∧ True) (br (decide (n > (8 : Int))) (KeepTx b a n = (0 : Int) ∧ KeepTn b a n = (0 : Int) ∧ KeepTe b a n = (1 : Int) ∧ True) ((b = b ∧ a = a ∧ n = n ∧ KeepI a ∧ KeepI n ∧ KeepFew b) ∧ br (!decide (KeepCe b a n = (0 : Int))) (KeepTx b a n = (0 : Int) ∧ KeepTn b a n = (0 : Int) ∧ KeepTe b a n = KeepCe b a n ∧ True) ((∃ (x : TX), KeepL (KeepCp b a n) x ∧ (KeepD (KeepCp b a n) x.1 = (0 : Int) ∧ KeepI1 x.1 = IntKind.i64.wrap ((↑(KeepCp b a n).length : Int) - (1 : Int)) ∧ True) ∧ True) ∧ ∀ (x : TX), KeepL (KeepCp b a n) x → br (decide (KeepI1 x.1 ≥ (0 : Int))) (br (decide ((0 : Int) ≤ KeepI1 x.1) && decide (KeepI1 x.1 < (↑(KeepCp b a n).length : Int))) (∃ (x' : TX), KeepL (KeepCp b a n) x' ∧ x'.1 < x.1 ∧ (KeepD (KeepCp b a n) x'.1 = IntKind.u64.wrap (IntKind.u64.wrap (KeepD (KeepCp b a n) x.1 * (256 : Int)) + IntKind.u64.wrap (gI (KeepCp b a n) (KeepI1 x.1).toNat)) ∧ KeepI1 x'.1 = IntKind.i64.wrap (KeepI1 x.1 - (1 : Int)) ∧ True) ∧ True) False) (KeepTx b a n = KeepD (KeepCp b a n) x.1 ∧ KeepTn b a n = KeepCn b a n ∧ KeepTe b a n = (0 : Int) ∧ True))))) := by kernel_rfl
end Go.Proofs.Ytccchfhjmahlpaa
