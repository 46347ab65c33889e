/- Printed by a program of ours (gen.py): what the symbolic executor comes to. No condition. -/
import Derived.Test.YtlckkciicchneaaCF
import Derived.Test.YtlckkciicchneaaSyV
import Derived.KernelRfl
set_option linter.unusedVariables false
open Go Go.Proofs
namespace Go.Proofs.Ytlckkciicchneaa.V
open SY
abbrev iS (x : Int) : S := .t (.c (.v (.int .i64 x)))
abbrev uS (x : Int) : S := .t (.c (.v (.int .u64 x)))
abbrev tru (s : S) : Prop := s = .t (.c (.v (.bool true)))
abbrev bS (b : Bool) : S := .t (.c (.v (.bool b)))
abbrev slB (xs : List Int) : S := .t (.c (.sl [.int .u8] xs none))
noncomputable def cI (a : S) : Int := match a with
  | .t (.c c) => (match asI c with
    | some n => n
    | none => 0)
  | _ => 0
noncomputable def cL (a : S) : List Int := match a with
  | .t (.c c) => (match asL c with
    | some n => n
    | none => [])
  | _ => []
def KeepFew (xs : List Int) : Prop := xs.length ≤ 100000
def KeepU (x : Int) : Prop := 0 ≤ x ∧ x < 18446744073709551616
def KeepI (x : Int) : Prop := -9223372036854775808 ≤ x ∧ x < 9223372036854775808
def KeepBy (xs : List Int) : Prop := ∀ j, j < xs.length → 0 ≤ gI xs j ∧ gI xs j ≤ 255
def vbk : Nat → Int → List Int
  | 0, x => [x]
  | k + 1, x => if x ≤ 127 then [x] else (x % 128 + 128) :: vbk k (x / 128)
def KeepVb (x : Int) : List Int := vbk 9 x
def KeepSz (x : Int) : Int := (vbk 9 x).length
def KeepZig (y : Int) : Int := if y < 0 then -(y + 1) * 2 + 1 else y * 2
def KeepZag (x : Int) : Int := if x % 2 = 1 then -(x / 2) - 1 else x / 2
def KeepLn (x : Int) : Int := if x = 0 then 0 else (Nat.log2 x.toNat : Int) + 1
def rv : Nat → Int → List Int → Int × Int × Int
  | _, _, [] => (0, 0, 2)
  | i, x, c :: r => if i = 9 ∧ c > 1 then (0, 0, 4) else if c < 128 then (if c = 0 ∧ i > 0 then (0, 0, 3) else (x + c * 128 ^ i, (i : Int) + 1, 0)) else rv (i + 1) (x + (c - 128) * 128 ^ i) r
def KeepRx (b : List Int) (a : Int) : Int := if a < 0 ∨ a > b.length then 0 else (rv 0 0 (b.drop a.toNat)).1
def KeepRe (b : List Int) (a : Int) : Int := if a < 0 ∨ a > b.length then 1 else (rv 0 0 (b.drop a.toNat)).2.2
def KeepRn (b : List Int) (a : Int) : Int := if KeepRe b a = 0 then a + (rv 0 0 (b.drop a.toNat)).2.1 else 0
noncomputable def hLen : Hk := fun vs => match vs with
  | [a] => some (subS (uS (cI a)) a ∧ KeepU (cI a), iS (KeepLn (cI a)))
  | _ => none
noncomputable def hSize : Hk := fun vs => match vs with
  | [a] => some (subS (uS (cI a)) a ∧ KeepU (cI a), iS (KeepSz (cI a)))
  | _ => none
noncomputable def hBytes : Hk := fun vs => match vs with
  | [a] => some (subS (uS (cI a)) a ∧ KeepU (cI a), slB (KeepVb (cI a)))
  | _ => none
noncomputable def hApp : Hk := fun vs => match vs with
  | [a, b] => some (subS (slB (cL a)) a ∧ subS (uS (cI b)) b ∧ KeepU (cI b) ∧ KeepFew (cL a), slB (cL a ++ KeepVb (cI b)))
  | _ => none
noncomputable def hZig : Hk := fun vs => match vs with
  | [a] => some (subS (iS (cI a)) a ∧ KeepI (cI a), uS (KeepZig (cI a)))
  | _ => none
noncomputable def hZag : Hk := fun vs => match vs with
  | [a] => some (subS (uS (cI a)) a ∧ KeepU (cI a), iS (KeepZag (cI a)))
  | _ => none
def readT (b : List Int) (a : Int) : S := .tup [.c (.v (.int .u64 (KeepRx b a))), .c (.v (.int .i64 (KeepRn b a))), .c (.v (.int .i64 (KeepRe b a)))]
noncomputable def hRead : Hk := fun vs => match vs with
  | [a, b] => some (subS (slB (cL a)) a ∧ subS (iS (cI b)) b ∧ KeepFew (cL a) ∧ KeepBy (cL a), readT (cL a) (cI b))
  | _ => none
structure AX where
  k : Nat
  x : Int
  out : List Int
def KeepA (b : List Int) (x : Int) (z : AX) : Prop := z.k ≤ 9 ∧ 0 ≤ z.x ∧ z.x < 128 ^ (z.k + 1) ∧ z.out ++ vbk z.k z.x = b ++ vbk 9 x
def hintApp (b : List Int) (x : Int) : Hint where
  X := AX
  sl := fun z => [(pth 1, uS z.x), (pth 5, .t (.c (.sl [.int .u8] z.out (some (14, 0)))))]
  bl := fun _ => [(14, .tok 5 0)]
  tp := [(14, .inl (pth 5))]
  nx := 15
  I := fun z => KeepA b x z
  mu := fun z => z.k
def hintBytes (x : Int) : Hint where
  X := AX
  sl := fun z => [(pth 0, uS z.x), (pth 3, .t (.c (.sl [.int .u8] z.out (some (1, 0)))))]
  bl := fun _ => [(1, .tok 5 0)]
  tp := [(1, .inl (pth 3))]
  nx := 2
  I := fun z => KeepA [] x z
  mu := fun z => z.k
structure RX where
  i : Nat
  x : Int
def KeepR (b : List Int) (a : Int) (z : RX) : Prop := z.i ≤ 9 ∧ 0 ≤ z.x ∧ z.x < 128 ^ z.i ∧ a + z.i ≤ b.length ∧ rv z.i z.x (b.drop (a.toNat + z.i)) = rv 0 0 (b.drop a.toNat)
def KeepP (i : Nat) : Int := 128 ^ i
def hintRead (b : List Int) (a : Int) : Hint where
  X := RX
  sl := fun z => [(pth 4, uS z.x), (pth 21, iS z.i)]
  bl := fun _ => []
  tp := []
  nx := 16
  I := fun z => KeepR b a z
  mu := fun z => 9 - z.i
def hintRRead (b : List Int) (a : Int) : Hint where
  X := RX
  sl := fun z => [(pth 7, uS z.x), (pth 8, uS (KeepP z.i)), (pth 9, iS z.i)]
  bl := fun _ => []
  tp := []
  nx := 14
  I := fun z => KeepR b a z
  mu := fun z => 9 - z.i

set_option maxRecDepth 100000
set_option linter.all false
theorem app_res (b : List Int) (x : Int) : (callT Try.prog (hkL []) tab (lhL [(1, hintApp b x)]) 10 45 [slB b, uS x] (fun u => subS (slB (b ++ KeepVb x)) u)) = (br (true && (decide ((↑b.length : Int) ≤ (↑b.length : Int)) && decide ((↑b.length : Int) = (↑b.length : Int)))) ((∃ (x_1 : AX), KeepA b x x_1 ∧ (x_1.2 = x ∧ x_1.3 = List.take (↑b.length : Int).toNat b ∧ True) ∧ True ∧ True) ∧ ∀ (x_1 : AX), KeepA b x x_1 → br (decide (x_1.2 ≥ (128 : Int))) (br ((x_1.3.length + 1).ble 1099511627776) (∃ (x' : AX), KeepA b x x' ∧ x'.1 < x_1.1 ∧ (x'.2 = sShr IntKind.u64 x_1.2 (7 : Int) ∧ x'.3 = x_1.3 ++ [bOr IntKind.u8 (IntKind.u8.wrap x_1.2) (128 : Int)] ∧ True) ∧ True ∧ True) False) (br ((x_1.3.length + 1).ble 1099511627776) (b ++ KeepVb x = x_1.3 ++ [IntKind.u8.wrap x_1.2]) False)) False) := by kernel_rfl
theorem bytes_res (x : Int) : (callT Try.prog (hkL []) tab (lhL [(1, hintBytes x)]) 10 21 [uS x] (fun u => subS (slB (KeepVb x)) u)) = ((∃ (x_1 : AX), KeepA [] x x_1 ∧ (x_1.2 = x ∧ x_1.3 = [] ∧ True) ∧ True ∧ True) ∧ ∀ (x_1 : AX), KeepA [] x x_1 → br (decide (x_1.2 > (127 : Int))) (br ((x_1.3.length + 1).ble 1099511627776) (∃ (x' : AX), KeepA [] x x' ∧ x'.1 < x_1.1 ∧ (x'.2 = IntKind.u64.wrap (x_1.2.tdiv (128 : Int)) ∧ x'.3 = x_1.3 ++ [IntKind.u8.wrap (IntKind.u64.wrap (x_1.2.tmod (128 : Int) + (128 : Int)))] ∧ True) ∧ True ∧ True) False) (br ((x_1.3.length + 1).ble 1099511627776) (KeepVb x = x_1.3 ++ [IntKind.u8.wrap x_1.2]) False)) := by kernel_rfl
theorem zig_res (x : Int) : (callT Try.prog (hkL []) tab noL 10 46 [iS x] (fun u => subS (uS (KeepZig x)) u)) = (KeepZig x = bXor IntKind.u64 (sShl IntKind.u64 (IntKind.u64.wrap x) (1 : Int)) (IntKind.u64.wrap (sShr IntKind.i64 x (63 : Int)))) := by kernel_rfl
theorem rzig_res (x : Int) : (callT Try.prog (hkL []) tab noL 10 22 [iS x] (fun u => subS (uS (KeepZig x)) u)) = (br (decide (x < (0 : Int))) (KeepZig x = IntKind.u64.wrap (IntKind.u64.wrap (IntKind.u64.wrap (IntKind.i64.wrap ((0 : Int) - IntKind.i64.wrap (x + (1 : Int)))) * (2 : Int)) + (1 : Int))) (KeepZig x = IntKind.u64.wrap (IntKind.u64.wrap x * (2 : Int)))) := by kernel_rfl
theorem zag_res (x : Int) : (callT Try.prog (hkL []) tab noL 10 52 [uS x] (fun u => subS (iS (KeepZag x)) u)) = (KeepZag x = bXor IntKind.i64 (IntKind.i64.wrap (sShr IntKind.u64 x (1 : Int))) (IntKind.i64.wrap ((0 : Int) - IntKind.i64.wrap (bAnd IntKind.u64 x (1 : Int))))) := by kernel_rfl
theorem rzag_res (x : Int) : (callT Try.prog (hkL []) tab noL 10 49 [uS x] (fun u => subS (iS (KeepZag x)) u)) = (br (decide (x.tmod (2 : Int) = (1 : Int))) (KeepZag x = IntKind.i64.wrap (IntKind.i64.wrap ((0 : Int) - IntKind.i64.wrap (IntKind.u64.wrap (x.tdiv (2 : Int)))) - (1 : Int))) (KeepZag x = IntKind.i64.wrap (IntKind.u64.wrap (x.tdiv (2 : Int))))) := by kernel_rfl
theorem read_res (b : List Int) (a : Int) : (callT Try.prog (hkL []) tab (lhL [(1, hintRead b a)]) 10 51 [slB b, iS a] (fun u => subS (readT b a) u)) = (br (decide (a < (0 : Int))) (KeepRx b a = (0 : Int) ∧ KeepRn b a = (0 : Int) ∧ KeepRe b a = (1 : Int) ∧ True) (br (decide (a > (↑b.length : Int))) (KeepRx b a = (0 : Int) ∧ KeepRn b a = (0 : Int) ∧ KeepRe b a = (1 : Int) ∧ True) (br (decide ((0 : Int) ≤ a) && decide (a ≤ (↑b.length : Int))) ((∃ (x : RX), KeepR b a x ∧ (x.2 = (0 : Int) ∧ (↑x.1 : Int) = (0 : Int) ∧ True) ∧ True) ∧ ∀ (x : RX), KeepR b a x → br (decide ((↑x.1 : Int) < (↑(List.drop a.toNat b).length : Int))) (br (true && decide ((↑x.1 : Int) < (↑(List.drop a.toNat b).length : Int))) (br (decide ((↑x.1 : Int) = (9 : Int))) (br (decide (gI (List.drop a.toNat b) (↑x.1 : Int).toNat > (1 : Int))) (KeepRx b a = (0 : Int) ∧ KeepRn b a = (0 : Int) ∧ KeepRe b a = (4 : Int) ∧ True) (br (decide ((0 : Int) ≤ IntKind.u64.wrap (IntKind.i64.wrap ((↑x.1 : Int) * (7 : Int))))) (br (decide (gI (List.drop a.toNat b) (↑x.1 : Int).toNat < (128 : Int))) (br (decide (gI (List.drop a.toNat b) (↑x.1 : Int).toNat = (0 : Int))) (br (decide ((↑x.1 : Int) > (0 : Int))) (KeepRx b a = (0 : Int) ∧ KeepRn b a = (0 : Int) ∧ KeepRe b a = (3 : Int) ∧ True) (KeepRx b a = bOr IntKind.u64 x.2 (sShl IntKind.u64 (IntKind.u64.wrap (bAnd IntKind.u8 (gI (List.drop a.toNat b) (↑x.1 : Int).toNat) (127 : Int))) (IntKind.u64.wrap (IntKind.i64.wrap ((↑x.1 : Int) * (7 : Int))))) ∧ KeepRn b a = IntKind.i64.wrap (IntKind.i64.wrap (a + (↑x.1 : Int)) + (1 : Int)) ∧ KeepRe b a = (0 : Int) ∧ True)) (KeepRx b a = bOr IntKind.u64 x.2 (sShl IntKind.u64 (IntKind.u64.wrap (bAnd IntKind.u8 (gI (List.drop a.toNat b) (↑x.1 : Int).toNat) (127 : Int))) (IntKind.u64.wrap (IntKind.i64.wrap ((↑x.1 : Int) * (7 : Int))))) ∧ KeepRn b a = IntKind.i64.wrap (IntKind.i64.wrap (a + (↑x.1 : Int)) + (1 : Int)) ∧ KeepRe b a = (0 : Int) ∧ True)) (∃ (x' : RX), KeepR b a x' ∧ 9 - x'.1 < 9 - x.1 ∧ (x'.2 = bOr IntKind.u64 x.2 (sShl IntKind.u64 (IntKind.u64.wrap (bAnd IntKind.u8 (gI (List.drop a.toNat b) (↑x.1 : Int).toNat) (127 : Int))) (IntKind.u64.wrap (IntKind.i64.wrap ((↑x.1 : Int) * (7 : Int))))) ∧ (↑x'.1 : Int) = IntKind.i64.wrap ((↑x.1 : Int) + (1 : Int)) ∧ True) ∧ True)) False)) (br (decide ((0 : Int) ≤ IntKind.u64.wrap (IntKind.i64.wrap ((↑x.1 : Int) * (7 : Int))))) (br (decide (gI (List.drop a.toNat b) (↑x.1 : Int).toNat < (128 : Int))) (br (decide (gI (List.drop a.toNat b) (↑x.1 : Int).toNat = (0 : Int))) (br (decide ((↑x.1 : Int) > (0 : Int))) (KeepRx b a = (0 : Int) ∧ KeepRn b a = (0 : Int) ∧ KeepRe b a = (3 : Int) ∧ True) (KeepRx b a = bOr IntKind.u64 x.2 (sShl IntKind.u64 (IntKind.u64.wrap (bAnd IntKind.u8 (gI (List.drop a.toNat b) (↑x.1 : Int).toNat) (127 : Int))) (IntKind.u64.wrap (IntKind.i64.wrap ((↑x.1 : Int) * (7 : Int))))) ∧ KeepRn b a = IntKind.i64.wrap (IntKind.i64.wrap (a + (↑x.1 : Int)) + (1 : Int)) ∧ KeepRe b a = (0 : Int) ∧ True)) (KeepRx b a = bOr IntKind.u64 x.2 (sShl IntKind.u64 (IntKind.u64.wrap (bAnd IntKind.u8 (gI (List.drop a.toNat b) (↑x.1 : Int).toNat) (127 : Int))) (IntKind.u64.wrap (IntKind.i64.wrap ((↑x.1 : Int) * (7 : Int))))) ∧ KeepRn b a = IntKind.i64.wrap (IntKind.i64.wrap (a + (↑x.1 : Int)) + (1 : Int)) ∧ KeepRe b a = (0 : Int) ∧ True)) (∃ (x' : RX), KeepR b a x' ∧ 9 - x'.1 < 9 - x.1 ∧ (x'.2 = bOr IntKind.u64 x.2 (sShl IntKind.u64 (IntKind.u64.wrap (bAnd IntKind.u8 (gI (List.drop a.toNat b) (↑x.1 : Int).toNat) (127 : Int))) (IntKind.u64.wrap (IntKind.i64.wrap ((↑x.1 : Int) * (7 : Int))))) ∧ (↑x'.1 : Int) = IntKind.i64.wrap ((↑x.1 : Int) + (1 : Int)) ∧ True) ∧ True)) False)) False) (KeepRx b a = (0 : Int) ∧ KeepRn b a = (0 : Int) ∧ KeepRe b a = (2 : Int) ∧ True)) False))) := by kernel_rfl
theorem rread_res (b : List Int) (a : Int) : (callT Try.prog (hkL []) tab (lhL [(1, hintRRead b a)]) 10 48 [slB b, iS a] (fun u => subS (readT b a) u)) = (br (decide (a < (0 : Int))) (KeepRx b a = (0 : Int) ∧ KeepRn b a = (0 : Int) ∧ KeepRe b a = (1 : Int) ∧ True) (br (decide (a > (↑b.length : Int))) (KeepRx b a = (0 : Int) ∧ KeepRn b a = (0 : Int) ∧ KeepRe b a = (1 : Int) ∧ True) ((∃ (x : RX), KeepR b a x ∧ (x.2 = (0 : Int) ∧ KeepP x.1 = (1 : Int) ∧ (↑x.1 : Int) = (0 : Int) ∧ True) ∧ True) ∧ ∀ (x : RX), KeepR b a x → br (decide (IntKind.i64.wrap (a + (↑x.1 : Int)) = (↑b.length : Int))) (KeepRx b a = (0 : Int) ∧ KeepRn b a = (0 : Int) ∧ KeepRe b a = (2 : Int) ∧ True) (br (decide ((0 : Int) ≤ IntKind.i64.wrap (a + (↑x.1 : Int))) && decide (IntKind.i64.wrap (a + (↑x.1 : Int)) < (↑b.length : Int))) (br (decide ((↑x.1 : Int) = (9 : Int))) (br (decide (gI b (IntKind.i64.wrap (a + (↑x.1 : Int))).toNat > (1 : Int))) (KeepRx b a = (0 : Int) ∧ KeepRn b a = (0 : Int) ∧ KeepRe b a = (4 : Int) ∧ True) (br (decide (gI b (IntKind.i64.wrap (a + (↑x.1 : Int))).toNat > (127 : Int))) (∃ (x' : RX), KeepR b a x' ∧ 9 - x'.1 < 9 - x.1 ∧ (x'.2 = IntKind.u64.wrap (x.2 + IntKind.u64.wrap (IntKind.u64.wrap ((gI b (IntKind.i64.wrap (a + (↑x.1 : Int))).toNat).tmod (128 : Int)) * KeepP x.1)) ∧ KeepP x'.1 = IntKind.u64.wrap (KeepP x.1 * (128 : Int)) ∧ (↑x'.1 : Int) = IntKind.i64.wrap ((↑x.1 : Int) + (1 : Int)) ∧ True) ∧ True) (br (decide (gI b (IntKind.i64.wrap (a + (↑x.1 : Int))).toNat = (0 : Int))) (br (decide ((↑x.1 : Int) > (0 : Int))) (KeepRx b a = (0 : Int) ∧ KeepRn b a = (0 : Int) ∧ KeepRe b a = (3 : Int) ∧ True) (KeepRx b a = IntKind.u64.wrap (x.2 + IntKind.u64.wrap (IntKind.u64.wrap ((gI b (IntKind.i64.wrap (a + (↑x.1 : Int))).toNat).tmod (128 : Int)) * KeepP x.1)) ∧ KeepRn b a = IntKind.i64.wrap (IntKind.i64.wrap (a + (↑x.1 : Int)) + (1 : Int)) ∧ KeepRe b a = (0 : Int) ∧ True)) (KeepRx b a = IntKind.u64.wrap (x.2 + IntKind.u64.wrap (IntKind.u64.wrap ((gI b (IntKind.i64.wrap (a + (↑x.1 : Int))).toNat).tmod (128 : Int)) * KeepP x.1)) ∧ KeepRn b a = IntKind.i64.wrap (IntKind.i64.wrap (a + (↑x.1 : Int)) + (1 : Int)) ∧ KeepRe b a = (0 : Int) ∧ True)))) (br (decide (gI b (IntKind.i64.wrap (a + (↑x.1 : Int))).toNat > (127 : Int))) (∃ (x' : RX), KeepR b a x' ∧ 9 - x'.1 < 9 - x.1 ∧ (x'.2 = IntKind.u64.wrap (x.2 + IntKind.u64.wrap (IntKind.u64.wrap ((gI b (IntKind.i64.wrap (a + (↑x.1 : Int))).toNat).tmod (128 : Int)) * KeepP x.1)) ∧ KeepP x'.1 = IntKind.u64.wrap (KeepP x.1 * (128 : Int)) ∧ (↑x'.1 : Int) = IntKind.i64.wrap ((↑x.1 : Int) + (1 : Int)) ∧ True) ∧ True) (br (decide (gI b (IntKind.i64.wrap (a + (↑x.1 : Int))).toNat = (0 : Int))) (br (decide ((↑x.1 : Int) > (0 : Int))) (KeepRx b a = (0 : Int) ∧ KeepRn b a = (0 : Int) ∧ KeepRe b a = (3 : Int) ∧ True) (KeepRx b a = IntKind.u64.wrap (x.2 + IntKind.u64.wrap (IntKind.u64.wrap ((gI b (IntKind.i64.wrap (a + (↑x.1 : Int))).toNat).tmod (128 : Int)) * KeepP x.1)) ∧ KeepRn b a = IntKind.i64.wrap (IntKind.i64.wrap (a + (↑x.1 : Int)) + (1 : Int)) ∧ KeepRe b a = (0 : Int) ∧ True)) (KeepRx b a = IntKind.u64.wrap (x.2 + IntKind.u64.wrap (IntKind.u64.wrap ((gI b (IntKind.i64.wrap (a + (↑x.1 : Int))).toNat).tmod (128 : Int)) * KeepP x.1)) ∧ KeepRn b a = IntKind.i64.wrap (IntKind.i64.wrap (a + (↑x.1 : Int)) + (1 : Int)) ∧ KeepRe b a = (0 : Int) ∧ True)))) False)))) := by kernel_rfl
end Go.Proofs.Ytlckkciicchneaa.V
