/- Printed by a program of ours (gen.py): what the symbolic executor comes to. No condition. -/
import Derived.Test.YtgoigcnibjcjpaaCF
import Derived.Test.YtgoigcnibjcjpaaHN4
import Derived.Test.YtgoigcnibjcjpaaSyW
import Derived.KernelRfl
set_option linter.unusedVariables false
open Go Go.Proofs
namespace Go.Proofs.Ytgoigcnibjcjpaa
open SY
abbrev WK : List CK := [.int .u32, .int .i64]
abbrev slW (l : List Int) : S := .t (.c (.sl [.int .u32, .int .i64] l none))
abbrev slI (l : List Int) : S := .t (.c (.sl [.int .i64] l none))
structure NF where
  wt : Int
  td : Int
  ns : List Int
def notC (n : NF) : List SC := [.v (.int .u32 n.wt), .v (.int .u32 n.td), .sl [.int .u32, .int .i64] n.ns none]
def notT (n : NF) : T := .agg [.v (.int .u32 n.wt), .v (.int .u32 n.td), .sl [.int .u32, .int .i64] n.ns none]
def notV (n : NF) : S := .t (notT n)
noncomputable def cI (a : S) : Int := match a with
  | .t (.c c) => (match asI c with
    | some n => n
    | none => 0)
  | _ => 0
noncomputable def cL (a : S) : List Int := match a with
  | .t (.c c) => (match asL c with
    | some n => n
    | none => [])
  | _ => []
noncomputable def gC (l : List SC) (i : Nat) : SC := match nth l i with
  | some c => c
  | none => .any
noncomputable def iC (l : List SC) (i : Nat) : Int := match asI (gC l i) with
  | some n => n
  | none => 0
noncomputable def lC (l : List SC) (i : Nat) : List Int := match asL (gC l i) with
  | some n => n
  | none => []
noncomputable def cN (a : S) : NF := match a with
  | .t (.agg l) => ⟨iC l 0, iC l 1, lC l 2⟩
  | _ => ⟨0, 0, []⟩
def KeepU (x : Int) : Prop := 0 ≤ x ∧ x < 4294967296
def KeepI (x : Int) : Prop := -9223372036854775808 ≤ x ∧ x < 9223372036854775808
def inW (xs : List Int) : Prop := xs.length % 2 = 0 ∧ xs.length ≤ 1000000 ∧ ∀ k, k < xs.length / 2 → (0 ≤ tkI xs k ∧ tkI xs k < 4294967296) ∧ -9223372036854775808 ≤ tsI xs k ∧ tsI xs k < 9223372036854775808
def KeepWs (n : NF) : Prop := (0 ≤ n.wt ∧ n.wt < 4294967296) ∧ (0 ≤ n.td ∧ n.td < 4294967296) ∧ inW n.ns
def KeepRn (n : NF) : Bool := KeepRt n.wt n.td n.ns
noncomputable def hRt (rt : NF → Bool) : Hk := fun vs => match vs with
  | [a] => some (subS (notV (cN a)) a ∧ KeepWs (cN a), bS (rt (cN a)))
  | _ => none
def KeepSe (a b : NF) : Bool := decide (a.wt = b.wt) && (decide (a.td = b.td) && decide (a.ns = b.ns))
def KeepNs (a : NF) : Prop := a.ns.length ≤ 1000000 ∧ a.ns.length % 2 = 0
noncomputable def hSe (se : NF → NF → Bool) : Hk := fun vs => match vs with
  | [a, b] => some (subS (notV (cN a)) a ∧ subS (notV (cN b)) b ∧ KeepNs (cN a) ∧ KeepNs (cN b), bS (se (cN a) (cN b)))
  | _ => none
structure NX where
  i : Nat
def KeepPre (a b : List Int) (z : NX) : Prop := 2 * z.i ≤ a.length ∧ a.take (2 * z.i) = b.take (2 * z.i)
noncomputable def hintSe (a b : NF) : Hint where
  X := NX
  sl := fun z => [(pth 2, .t (.c (.own 0 0))), (pth 3, .t (.c (.own 1 0))), (pth 5, iS z.i)]
  bl := fun _ => [(0, .cells (notC a) 25), (1, .cells (notC b) 25)]
  tp := []
  nx := 25
  I := fun z => KeepPre a.ns b.ns z
  mu := fun z => a.ns.length - z.i
def KeepO (n : NF) (z : NX) : Prop := z.i ≤ n.ns.length / 2 ∧ ∀ j, j < z.i → okW n.wt n.td n.ns j = true
noncomputable def hintR1 (n : NF) : Hint where
  X := NX
  sl := fun z => [(pth 1, .t (.c (.own 0 0))), (pth 3, iS z.i)]
  bl := fun _ => [(0, .cells (notC n) 25)]
  tp := []
  nx := 36
  I := fun z => KeepO n z
  mu := fun z => n.ns.length - z.i
def KeepR3 (n : NF) (i : Int) (z : NX) : Prop := (z.i : Int) ≤ i ∧ ∀ j : Nat, j < z.i → tkI n.ns j ≠ tkI n.ns i.toNat ∧ tsI n.ns j ≠ tsI n.ns i.toNat
noncomputable def hintR3 (n : NF) (st : St) : Hint where
  X := NX
  sl := fun z => [(pth 1, .t (.c (.own 0 0))), (pth 4, .t (.c (.own 46 0))), (pth 5, iS z.i)]
  bl := fun _ => [(0, .cells (notC n) 25), (46, .cells [.v (.int .u32 (gI n.ns ((cI (st.sl.get undefS (pth 3))).toNat * 2))), .v (.int .i64 (gI n.ns ((cI (st.sl.get undefS (pth 3))).toNat * 2 + 1)))] 52)]
  tp := []
  nx := 82
  I := fun z => KeepR3 n (cI (st.sl.get undefS (pth 3))) z
  mu := fun z => (cI (st.sl.get undefS (pth 3))).toNat - z.i
noncomputable def lhR (n : NF) : LH := lhS [(1, fun _ => hintR1 n), (3, hintR3 n)]
def zN : List SC := [.v (.int .u32 0), .v (.int .u32 0), .v (.slice none 0 0)]
def KeepP (n : NF) (t s : Int) (z : NX) : Prop := z.i ≤ n.ns.length / 2 ∧ ∀ j, j < z.i → sameF n.ns t s j = false
noncomputable def hintP (n : NF) (t s : Int) : Hint where
  X := NX
  sl := fun z => [(pth 3, .t (.c (.own 0 0))), (pth 6, .t (.c (.own 1 0))), (pth 8, iS z.i)]
  bl := fun _ => [(0, .cells (notC n) 25), (1, .cells zN 25)]
  tp := []
  nx := 43
  I := fun z => KeepP n t s z
  mu := fun z => n.ns.length - z.i
structure OX where
  i : Nat
  tk : Int
  out : List Int
def filt (ns : List Int) (t : Int) : Nat → List Int
  | 0 => []
  | k + 1 => filt ns t k ++ (if tkI ns k = t then [] else [tkI ns k, tsI ns k])
def tkOf (ns : List Int) (t : Int) : Nat → Int
  | 0 => -1
  | k + 1 => if tkI ns k = t then tsI ns k else tkOf ns t k
def KeepO1 (n : NF) (z : OX) : Prop := z.i ≤ n.ns.length / 2 ∧ z.out = filt n.ns n.td z.i ∧ z.tk = tkOf n.ns n.td z.i
noncomputable def hintO (n : NF) : Hint where
  X := OX
  sl := fun z => [(pth 1, .t (.c (.own 0 0))), (pth 2, .t (.c (.own 1 0))), (pth 5, .t (.c (.own 18 0))), (pth 6, iS z.tk), (pth 7, iS z.i)]
  bl := fun z => [(0, .cells (notC n) 25), (1, .cells zN 25), (18, .cells [.v (.int .u32 n.wt), .v (.int .u32 (IntKind.u32.wrap (n.td + 1))), .sl [.int .u32, .int .i64] z.out (some (30, 0))] 25), (30, .tok 52 0)]
  tp := [(30, .inr (18, 2))]
  nx := 40
  I := fun z => KeepO1 n z
  mu := fun z => n.ns.length - z.i
def KeepTs (ns : List Int) : Nat → List Int
  | 0 => []
  | k + 1 => KeepTs ns k ++ [tsI ns k]
def KeepA (n : NF) (z : NX) : Prop := z.i ≤ n.ns.length / 2
noncomputable def hintA (n : NF) (q : Nat) : Hint where
  X := NX
  sl := fun z => [(pth 1, .t (.c (.own 0 0))), (pth 2, .t (.c (.own 1 0))), (pth 5, .t (.c (.sl [.int .i64] (KeepTs n.ns z.i) (some (20, 0))))), (pth q, iS z.i)]
  bl := fun z => [(0, .cells (notC n) 25), (1, .cells zN 25), (20, .tok 3 0)]
  tp := [(20, .inl (pth 5))]
  nx := 25
  I := fun z => KeepA n z
  mu := fun z => n.ns.length - z.i
noncomputable def hPark (pn : NF → Int → Int → NF) (pe : NF → Int → Int → Int) : Hk := fun vs => match vs with
  | [a, b, c] => some (subS (notV (cN a)) a ∧ subS (uS (cI b)) b ∧ subS (iS (cI c)) c ∧ KeepWs (cN a) ∧ KeepU (cI b) ∧ KeepI (cI c), .tup [notT (pn (cN a) (cI b) (cI c)), .c (.v (.int .i64 (pe (cN a) (cI b) (cI c))))])
  | _ => none
noncomputable def hOne (on : NF → NF) (ot oe : NF → Int) : Hk := fun vs => match vs with
  | [a] => some (subS (notV (cN a)) a ∧ KeepWs (cN a), .tup [notT (on (cN a)), .c (.v (.int .i64 (ot (cN a)))), .c (.v (.int .i64 (oe (cN a))))])
  | _ => none
noncomputable def hAll (an : NF → NF) (al : NF → List Int) (ae : NF → Int) : Hk := fun vs => match vs with
  | [a] => some (subS (notV (cN a)) a ∧ KeepWs (cN a), .tup [notT (an (cN a)), .c (.sl [.int .i64] (al (cN a)) none), .c (.v (.int .i64 (ae (cN a))))])
  | _ => none
noncomputable def hkR (rt : NF → Bool) : Hooks := hkL [(14, hRt rt), (15, hRt rt)]
noncomputable def hkO (rt : NF → Bool) : Hooks := hkL [(14, hRt rt), (34, hConcat)]
noncomputable def xhA : XHooks := xhL [(29, xHas), (32, xIx)]

set_option maxRecDepth 100000
set_option linter.all false
theorem same_res (a b : NF) (r : Bool) : (callT Try.prog (hkL []) tab (lhL [(1, hintSe a b)]) 10 13 [notV a, notV b] (fun u => subS (bS r) u)) = (br (!decide (a.1 = b.1)) (r = false) (br (!decide (a.2 = b.2)) (r = false) (br (!decide ((↑(a.3.length / 2) : Int) = (↑(b.3.length / 2) : Int))) (r = false) ((∃ (x : NX), KeepPre a.3 b.3 x ∧ (True ∧ True ∧ (↑x.1 : Int) = (0 : Int) ∧ True) ∧ (a.1 = a.1 ∧ a.2 = a.2 ∧ a.3 = a.3 ∧ True) ∧ (b.1 = b.1 ∧ b.2 = b.2 ∧ b.3 = b.3 ∧ True) ∧ True) ∧ ∀ (x : NX), KeepPre a.3 b.3 x → br (decide ((↑x.1 : Int) < (↑(a.3.length / 2) : Int))) (br (true && decide ((↑x.1 : Int) < (↑(a.3.length / 2) : Int))) (br (true && decide ((↑x.1 : Int) < (↑(b.3.length / 2) : Int))) (br (!(decide (gI a.3 ((↑x.1 : Int).toNat * 2) = gI b.3 ((↑x.1 : Int).toNat * 2)) && (decide (gI a.3 ((↑x.1 : Int).toNat * 2 + 1) = gI b.3 ((↑x.1 : Int).toNat * 2 + 1)) && true))) (r = false) (∃ (x' : NX), KeepPre a.3 b.3 x' ∧ a.3.length - x'.1 < a.3.length - x.1 ∧ (True ∧ True ∧ (↑x'.1 : Int) = IntKind.i64.wrap ((↑x.1 : Int) + (1 : Int)) ∧ True) ∧ (a.1 = a.1 ∧ a.2 = a.2 ∧ a.3 = a.3 ∧ True) ∧ (b.1 = b.1 ∧ b.2 = b.2 ∧ b.3 = b.3 ∧ True) ∧ True)) False) False) (r = true))))) := by kernel_rfl
theorem rright_res (n : NF) (r : Bool) : (callT Try.prog (hkL []) tab (lhR n) 10 15 [notV n] (fun u => subS (bS r) u)) = (br (decide ((IntKind.u64.wrap (IntKind.u64.wrap (IntKind.u64.wrap n.1 + (4294967296 : Int)) - IntKind.u64.wrap n.2)).tmod (4294967296 : Int) > (1000 : Int))) (r = false) (br (decide ((↑(n.3.length / 2) : Int) > (12 : Int))) (r = false) ((∃ (x : NX), KeepO n x ∧ (True ∧ (↑x.1 : Int) = (0 : Int) ∧ True) ∧ (n.1 = n.1 ∧ n.2 = n.2 ∧ n.3 = n.3 ∧ True) ∧ True) ∧ ∀ (x : NX), KeepO n x → br (decide ((↑x.1 : Int) < (↑(n.3.length / 2) : Int))) (br (true && decide ((↑x.1 : Int) < (↑(n.3.length / 2) : Int))) (br (decide (gI n.3 ((↑x.1 : Int).toNat * 2 + 1) < (0 : Int))) (r = false) (S.t (T.c (SC.v (Value.int IntKind.u64 ((IntKind.u64.wrap (IntKind.u64.wrap (IntKind.u64.wrap (gI n.3 ((↑x.1 : Int).toNat * 2)) + (4294967296 : Int)) - IntKind.u64.wrap n.2)).tmod (4294967296 : Int))))) = S.t (T.c (SC.v (Value.int IntKind.u64 ((IntKind.u64.wrap (IntKind.u64.wrap (IntKind.u64.wrap (gI n.3 ((↑x.1 : Int).toNat * 2)) + (4294967296 : Int)) - IntKind.u64.wrap n.2)).tmod (4294967296 : Int))))) ∧ S.t (T.c (SC.v (Value.int IntKind.u64 ((IntKind.u64.wrap (IntKind.u64.wrap (IntKind.u64.wrap n.1 + (4294967296 : Int)) - IntKind.u64.wrap n.2)).tmod (4294967296 : Int))))) = S.t (T.c (SC.v (Value.int IntKind.u64 ((IntKind.u64.wrap (IntKind.u64.wrap (IntKind.u64.wrap n.1 + (4294967296 : Int)) - IntKind.u64.wrap n.2)).tmod (4294967296 : Int))))) ∧ br (!decide ((IntKind.u64.wrap (IntKind.u64.wrap (IntKind.u64.wrap (gI n.3 ((↑x.1 : Int).toNat * 2)) + (4294967296 : Int)) - IntKind.u64.wrap n.2)).tmod (4294967296 : Int) < (IntKind.u64.wrap (IntKind.u64.wrap (IntKind.u64.wrap n.1 + (4294967296 : Int)) - IntKind.u64.wrap n.2)).tmod (4294967296 : Int))) (r = false) ((∃ (x_1 : NX), KeepR3 n (↑x.1 : Int) x_1 ∧ (True ∧ True ∧ (↑x_1.1 : Int) = (0 : Int) ∧ True) ∧ (n.1 = n.1 ∧ n.2 = n.2 ∧ n.3 = n.3 ∧ True) ∧ (gI n.3 ((↑x.1 : Int).toNat * 2) = gI n.3 ((↑x.1 : Int).toNat * 2) ∧ gI n.3 ((↑x.1 : Int).toNat * 2 + 1) = gI n.3 ((↑x.1 : Int).toNat * 2 + 1) ∧ True) ∧ True) ∧ ∀ (x_1 : NX), KeepR3 n (↑x.1 : Int) x_1 → br (decide ((↑x_1.1 : Int) < (↑x.1 : Int))) (br (true && decide ((↑x_1.1 : Int) < (↑(n.3.length / 2) : Int))) (br (decide (gI n.3 ((↑x_1.1 : Int).toNat * 2) = gI n.3 ((↑x.1 : Int).toNat * 2))) (r = false) (br (true && decide ((↑x_1.1 : Int) < (↑(n.3.length / 2) : Int))) (br (decide (gI n.3 ((↑x_1.1 : Int).toNat * 2 + 1) = gI n.3 ((↑x.1 : Int).toNat * 2 + 1))) (r = false) (∃ (x' : NX), KeepR3 n (↑x.1 : Int) x' ∧ (↑x.1 : Int).toNat - x'.1 < (↑x.1 : Int).toNat - x_1.1 ∧ (True ∧ True ∧ (↑x'.1 : Int) = IntKind.i64.wrap ((↑x_1.1 : Int) + (1 : Int)) ∧ True) ∧ (n.1 = n.1 ∧ n.2 = n.2 ∧ n.3 = n.3 ∧ True) ∧ (gI n.3 ((↑x.1 : Int).toNat * 2) = gI n.3 ((↑x.1 : Int).toNat * 2) ∧ gI n.3 ((↑x.1 : Int).toNat * 2 + 1) = gI n.3 ((↑x.1 : Int).toNat * 2 + 1) ∧ True) ∧ True)) False)) False) (∃ (x' : NX), KeepO n x' ∧ n.3.length - x'.1 < n.3.length - x.1 ∧ (True ∧ (↑x'.1 : Int) = IntKind.i64.wrap ((↑x.1 : Int) + (1 : Int)) ∧ True) ∧ (n.1 = n.1 ∧ n.2 = n.2 ∧ n.3 = n.3 ∧ True) ∧ True)))) False) (r = true)))) := by kernel_rfl
theorem park_res (rt : NF → Bool) (n m : NF) (t s e : Int) : (callX Try.prog (hkR rt) xhA tab noL 10 11 [notV n, uS t, iS s] (fun u => subS (.tup [notT m, .c (.v (.int .i64 e))]) u)) = (br (decide (s < (0 : Int))) ((m.1 = n.1 ∧ m.2 = n.2 ∧ m.3 = n.3 ∧ True) ∧ e = (1 : Int) ∧ True) (((n.1 = n.1 ∧ n.2 = n.2 ∧ n.3 = n.3 ∧ True) ∧ KeepWs { wt := n.1, td := n.2, ns := n.3 }) ∧ br (!rt (cN (S.t (T.agg [SC.v (Value.int IntKind.u32 n.wt), SC.v (Value.int IntKind.u32 n.td), SC.sl [CK.int IntKind.u32, CK.int IntKind.i64] n.ns none])))) ((m.1 = n.1 ∧ m.2 = n.2 ∧ m.3 = n.3 ∧ True) ∧ e = (1 : Int) ∧ True) (S.t (T.c (SC.v (Value.int IntKind.u32 (IntKind.u32.wrap (n.1 - n.2))))) = S.t (T.c (SC.v (Value.int IntKind.u32 (IntKind.u32.wrap (n.1 - n.2))))) ∧ br (!decide (IntKind.u32.wrap (t - n.2) < IntKind.u32.wrap (n.1 - n.2))) ((m.1 = n.1 ∧ m.2 = n.2 ∧ m.3 = n.3 ∧ True) ∧ e = (1 : Int) ∧ True) (KeepLs n.3 ∧ br (KeepHas n.3 t s) ((m.1 = n.1 ∧ m.2 = n.2 ∧ m.3 = n.3 ∧ True) ∧ e = (8 : Int) ∧ True) (br (decide ((↑(n.3.length / 2) : Int) = (12 : Int))) ((m.1 = n.1 ∧ m.2 = n.2 ∧ m.3 = n.3 ∧ True) ∧ e = (6 : Int) ∧ True) (br (true && (decide ((↑(n.3.length / 2) : Int) ≤ (↑(n.3.length / 2) : Int)) && decide ((↑(n.3.length / 2) : Int) = (↑(n.3.length / 2) : Int)))) (br (true && (decide ((↑(n.3.length / 2) : Int) ≤ (↑(n.3.length / 2) : Int)) && decide ((↑(n.3.length / 2) : Int) = (↑(n.3.length / 2) : Int)))) (S.t (T.c (SC.sl [CK.int IntKind.u32, CK.int IntKind.i64] (List.take ((↑(n.3.length / 2) : Int).toNat * 2) n.3) (some (62, 124)))) = S.t (T.c (SC.sl [CK.int IntKind.u32, CK.int IntKind.i64] (List.take ((↑(n.3.length / 2) : Int).toNat * 2) n.3) (some (62, 124))))) False ∧ br (((List.take ((↑(n.3.length / 2) : Int).toNat * 2) n.3).length + 2).ble 1099511627776) ((m.1 = n.1 ∧ m.2 = n.2 ∧ m.3 = List.take ((↑(n.3.length / 2) : Int).toNat * 2) n.3 ++ [t, s] ∧ True) ∧ e = (0 : Int) ∧ True) False) False)))))) := by kernel_rfl
theorem rpark_res (rt : NF → Bool) (n m : NF) (t s e : Int) : (callT Try.prog (hkR rt) tab (lhL [(1, hintP n t s)]) 10 12 [notV n, uS t, iS s] (fun u => subS (.tup [notT m, .c (.v (.int .i64 e))]) u)) = (((n.1 = n.1 ∧ n.2 = n.2 ∧ n.3 = n.3 ∧ True) ∧ KeepWs { wt := n.1, td := n.2, ns := n.3 }) ∧ br (!rt (cN (S.t (T.agg [SC.v (Value.int IntKind.u32 n.wt), SC.v (Value.int IntKind.u32 n.td), SC.sl [CK.int IntKind.u32, CK.int IntKind.i64] n.ns none])))) ((m.1 = n.1 ∧ m.2 = n.2 ∧ m.3 = n.3 ∧ True) ∧ e = (1 : Int) ∧ True) (br (decide (s < (0 : Int))) ((m.1 = n.1 ∧ m.2 = n.2 ∧ m.3 = n.3 ∧ True) ∧ e = (1 : Int) ∧ True) (S.t (T.c (SC.v (Value.int IntKind.u64 ((IntKind.u64.wrap (IntKind.u64.wrap (IntKind.u64.wrap t + (4294967296 : Int)) - IntKind.u64.wrap n.2)).tmod (4294967296 : Int))))) = S.t (T.c (SC.v (Value.int IntKind.u64 ((IntKind.u64.wrap (IntKind.u64.wrap (IntKind.u64.wrap t + (4294967296 : Int)) - IntKind.u64.wrap n.2)).tmod (4294967296 : Int))))) ∧ S.t (T.c (SC.v (Value.int IntKind.u64 ((IntKind.u64.wrap (IntKind.u64.wrap (IntKind.u64.wrap n.1 + (4294967296 : Int)) - IntKind.u64.wrap n.2)).tmod (4294967296 : Int))))) = S.t (T.c (SC.v (Value.int IntKind.u64 ((IntKind.u64.wrap (IntKind.u64.wrap (IntKind.u64.wrap n.1 + (4294967296 : Int)) - IntKind.u64.wrap n.2)).tmod (4294967296 : Int))))) ∧ br (!decide ((IntKind.u64.wrap (IntKind.u64.wrap (IntKind.u64.wrap t + (4294967296 : Int)) - IntKind.u64.wrap n.2)).tmod (4294967296 : Int) < (IntKind.u64.wrap (IntKind.u64.wrap (IntKind.u64.wrap n.1 + (4294967296 : Int)) - IntKind.u64.wrap n.2)).tmod (4294967296 : Int))) ((m.1 = n.1 ∧ m.2 = n.2 ∧ m.3 = n.3 ∧ True) ∧ e = (1 : Int) ∧ True) ((∃ (x : NX), KeepP n t s x ∧ (True ∧ True ∧ (↑x.1 : Int) = (0 : Int) ∧ True) ∧ (n.1 = n.1 ∧ n.2 = n.2 ∧ n.3 = n.3 ∧ True) ∧ ((0 : Int) = (0 : Int) ∧ (0 : Int) = (0 : Int) ∧ Value.slice none 0 0 = Value.slice none 0 0 ∧ True) ∧ True) ∧ ∀ (x : NX), KeepP n t s x → br (decide ((↑x.1 : Int) < (↑(n.3.length / 2) : Int))) (br (true && decide ((↑x.1 : Int) < (↑(n.3.length / 2) : Int))) (br (decide (gI n.3 ((↑x.1 : Int).toNat * 2) = t)) ((m.1 = n.1 ∧ m.2 = n.2 ∧ m.3 = n.3 ∧ True) ∧ e = (8 : Int) ∧ True) (br (true && decide ((↑x.1 : Int) < (↑(n.3.length / 2) : Int))) (br (decide (gI n.3 ((↑x.1 : Int).toNat * 2 + 1) = s)) ((m.1 = n.1 ∧ m.2 = n.2 ∧ m.3 = n.3 ∧ True) ∧ e = (8 : Int) ∧ True) (∃ (x' : NX), KeepP n t s x' ∧ n.3.length - x'.1 < n.3.length - x.1 ∧ (True ∧ True ∧ (↑x'.1 : Int) = IntKind.i64.wrap ((↑x.1 : Int) + (1 : Int)) ∧ True) ∧ (n.1 = n.1 ∧ n.2 = n.2 ∧ n.3 = n.3 ∧ True) ∧ ((0 : Int) = (0 : Int) ∧ (0 : Int) = (0 : Int) ∧ Value.slice none 0 0 = Value.slice none 0 0 ∧ True) ∧ True)) False)) False) (br (decide ((↑(n.3.length / 2) : Int) ≥ (12 : Int))) ((m.1 = n.1 ∧ m.2 = n.2 ∧ m.3 = n.3 ∧ True) ∧ e = (6 : Int) ∧ True) (br ((0 + n.3.length).ble 1099511627776) (br ((([] ++ n.3).length + 2).ble 1099511627776) ((m.1 = n.1 ∧ m.2 = n.2 ∧ m.3 = [] ++ n.3 ++ [t, s] ∧ True) ∧ e = (0 : Int) ∧ True) False) False)))))) := by kernel_rfl
theorem one_res (rt : NF → Bool) (n m : NF) (t e : Int) : (callX Try.prog (hkO rt) xhA tab noL 10 18 [notV n] (fun u => subS (.tup [notT m, .c (.v (.int .i64 t)), .c (.v (.int .i64 e))]) u)) = (((n.1 = n.1 ∧ n.2 = n.2 ∧ n.3 = n.3 ∧ True) ∧ KeepWs { wt := n.1, td := n.2, ns := n.3 }) ∧ br (!rt (cN (S.t (T.agg [SC.v (Value.int IntKind.u32 n.wt), SC.v (Value.int IntKind.u32 n.td), SC.sl [CK.int IntKind.u32, CK.int IntKind.i64] n.ns none])))) ((m.1 = n.1 ∧ m.2 = n.2 ∧ m.3 = n.3 ∧ True) ∧ t = (0 : Int) ∧ e = (1 : Int) ∧ True) (br (decide (IntKind.u32.wrap (n.1 - n.2) = (0 : Int))) ((m.1 = n.1 ∧ m.2 = n.2 ∧ m.3 = n.3 ∧ True) ∧ t = (0 : Int) ∧ e = (7 : Int) ∧ True) (KeepLs n.3 ∧ br (decide (KeepIx n.3 n.2 ≥ (0 : Int))) (br (decide ((0 : Int) ≤ KeepIx n.3 n.2) && decide (KeepIx n.3 n.2 < (↑(n.3.length / 2) : Int))) (br (decide ((0 : Int) ≤ KeepIx n.3 n.2) && decide (KeepIx n.3 n.2 ≤ (↑(n.3.length / 2) : Int))) (br (decide ((0 : Int) ≤ IntKind.i64.wrap (KeepIx n.3 n.2 + (1 : Int))) && decide (IntKind.i64.wrap (KeepIx n.3 n.2 + (1 : Int)) ≤ (↑(n.3.length / 2) : Int))) ((List.take ((KeepIx n.3 n.2).toNat * 2) n.3 = List.take ((KeepIx n.3 n.2).toNat * 2) n.3 ∧ List.drop ((IntKind.i64.wrap (KeepIx n.3 n.2 + (1 : Int))).toNat * 2) n.3 = List.drop ((IntKind.i64.wrap (KeepIx n.3 n.2 + (1 : Int))).toNat * 2) n.3 ∧ KeepSh (List.take ((KeepIx n.3 n.2).toNat * 2) n.3) (List.drop ((IntKind.i64.wrap (KeepIx n.3 n.2 + (1 : Int))).toNat * 2) n.3)) ∧ (m.1 = n.1 ∧ m.2 = IntKind.u32.wrap (n.2 + (1 : Int)) ∧ m.3 = List.take ((KeepIx n.3 n.2).toNat * 2) n.3 ++ List.drop ((IntKind.i64.wrap (KeepIx n.3 n.2 + (1 : Int))).toNat * 2) n.3 ∧ True) ∧ t = gI n.3 ((KeepIx n.3 n.2).toNat * 2 + 1) ∧ e = (0 : Int) ∧ True) False) False) False) ((m.1 = n.1 ∧ m.2 = IntKind.u32.wrap (n.2 + (1 : Int)) ∧ m.3 = n.3 ∧ True) ∧ t = (-1 : Int) ∧ e = (0 : Int) ∧ True)))) := by kernel_rfl
theorem rone_res (rt : NF → Bool) (n m : NF) (t e : Int) : (callT Try.prog (hkR rt) tab (lhL [(1, hintO n)]) 10 19 [notV n] (fun u => subS (.tup [notT m, .c (.v (.int .i64 t)), .c (.v (.int .i64 e))]) u)) = (((n.1 = n.1 ∧ n.2 = n.2 ∧ n.3 = n.3 ∧ True) ∧ KeepWs { wt := n.1, td := n.2, ns := n.3 }) ∧ br (!rt (cN (S.t (T.agg [SC.v (Value.int IntKind.u32 n.wt), SC.v (Value.int IntKind.u32 n.td), SC.sl [CK.int IntKind.u32, CK.int IntKind.i64] n.ns none])))) ((m.1 = n.1 ∧ m.2 = n.2 ∧ m.3 = n.3 ∧ True) ∧ t = (0 : Int) ∧ e = (1 : Int) ∧ True) (br (decide (n.2 = n.1)) ((m.1 = n.1 ∧ m.2 = n.2 ∧ m.3 = n.3 ∧ True) ∧ t = (0 : Int) ∧ e = (7 : Int) ∧ True) ((∃ (x : OX), KeepO1 n x ∧ (True ∧ True ∧ True ∧ x.2 = (-1 : Int) ∧ (↑x.1 : Int) = (0 : Int) ∧ True) ∧ (n.1 = n.1 ∧ n.2 = n.2 ∧ n.3 = n.3 ∧ True) ∧ ((0 : Int) = (0 : Int) ∧ (0 : Int) = (0 : Int) ∧ Value.slice none 0 0 = Value.slice none 0 0 ∧ True) ∧ (n.1 = n.1 ∧ IntKind.u32.wrap (n.2 + (1 : Int)) = IntKind.u32.wrap (n.2 + (1 : Int)) ∧ x.3 = [] ∧ True) ∧ True ∧ True) ∧ ∀ (x : OX), KeepO1 n x → br (decide ((↑x.1 : Int) < (↑(n.3.length / 2) : Int))) (br (true && decide ((↑x.1 : Int) < (↑(n.3.length / 2) : Int))) (br (decide (gI n.3 ((↑x.1 : Int).toNat * 2) = n.2)) (br (true && decide ((↑x.1 : Int) < (↑(n.3.length / 2) : Int))) (∃ (x' : OX), KeepO1 n x' ∧ n.3.length - x'.1 < n.3.length - x.1 ∧ (True ∧ True ∧ True ∧ x'.2 = gI n.3 ((↑x.1 : Int).toNat * 2 + 1) ∧ (↑x'.1 : Int) = IntKind.i64.wrap ((↑x.1 : Int) + (1 : Int)) ∧ True) ∧ (n.1 = n.1 ∧ n.2 = n.2 ∧ n.3 = n.3 ∧ True) ∧ ((0 : Int) = (0 : Int) ∧ (0 : Int) = (0 : Int) ∧ Value.slice none 0 0 = Value.slice none 0 0 ∧ True) ∧ (n.1 = n.1 ∧ IntKind.u32.wrap (n.2 + (1 : Int)) = IntKind.u32.wrap (n.2 + (1 : Int)) ∧ x'.3 = x.3 ∧ True) ∧ True ∧ True) False) (br (true && decide ((↑x.1 : Int) < (↑(n.3.length / 2) : Int))) (br ((x.3.length + 2).ble 1099511627776) (∃ (x' : OX), KeepO1 n x' ∧ n.3.length - x'.1 < n.3.length - x.1 ∧ (True ∧ True ∧ True ∧ x'.2 = x.2 ∧ (↑x'.1 : Int) = IntKind.i64.wrap ((↑x.1 : Int) + (1 : Int)) ∧ True) ∧ (n.1 = n.1 ∧ n.2 = n.2 ∧ n.3 = n.3 ∧ True) ∧ ((0 : Int) = (0 : Int) ∧ (0 : Int) = (0 : Int) ∧ Value.slice none 0 0 = Value.slice none 0 0 ∧ True) ∧ (n.1 = n.1 ∧ IntKind.u32.wrap (n.2 + (1 : Int)) = IntKind.u32.wrap (n.2 + (1 : Int)) ∧ x'.3 = x.3 ++ [gI n.3 ((↑x.1 : Int).toNat * 2), gI n.3 ((↑x.1 : Int).toNat * 2 + 1)] ∧ True) ∧ True ∧ True) False) False)) False) ((m.1 = n.1 ∧ m.2 = IntKind.u32.wrap (n.2 + (1 : Int)) ∧ m.3 = x.3 ∧ True) ∧ t = x.2 ∧ e = (0 : Int) ∧ True)))) := by kernel_rfl
theorem all_res (rt : NF → Bool) (n m : NF) (l : List Int) (e : Int) : (callT Try.prog (hkR rt) tab (lhL [(1, hintA n 15)]) 10 20 [notV n] (fun u => subS (.tup [notT m, .c (.sl [.int .i64] l none), .c (.v (.int .i64 e))]) u)) = (((n.1 = n.1 ∧ n.2 = n.2 ∧ n.3 = n.3 ∧ True) ∧ KeepWs { wt := n.1, td := n.2, ns := n.3 }) ∧ br (!rt (cN (S.t (T.agg [SC.v (Value.int IntKind.u32 n.wt), SC.v (Value.int IntKind.u32 n.td), SC.sl [CK.int IntKind.u32, CK.int IntKind.i64] n.ns none])))) ((m.1 = n.1 ∧ m.2 = n.2 ∧ m.3 = n.3 ∧ True) ∧ l = [] ∧ e = (1 : Int) ∧ True) ((∃ (x : NX), KeepA n x ∧ (True ∧ True ∧ KeepTs n.3 x.1 = [] ∧ (↑x.1 : Int) = (0 : Int) ∧ True) ∧ (n.1 = n.1 ∧ n.2 = n.2 ∧ n.3 = n.3 ∧ True) ∧ ((0 : Int) = (0 : Int) ∧ (0 : Int) = (0 : Int) ∧ Value.slice none 0 0 = Value.slice none 0 0 ∧ True) ∧ True ∧ True) ∧ ∀ (x : NX), KeepA n x → br (decide ((↑x.1 : Int) < (↑(n.3.length / 2) : Int))) (br (true && decide ((↑x.1 : Int) < (↑(n.3.length / 2) : Int))) (br (((KeepTs n.3 x.1).length + 1).ble 1099511627776) (∃ (x' : NX), KeepA n x' ∧ n.3.length - x'.1 < n.3.length - x.1 ∧ (True ∧ True ∧ KeepTs n.3 x'.1 = KeepTs n.3 x.1 ++ [gI n.3 ((↑x.1 : Int).toNat * 2 + 1)] ∧ (↑x'.1 : Int) = IntKind.i64.wrap ((↑x.1 : Int) + (1 : Int)) ∧ True) ∧ (n.1 = n.1 ∧ n.2 = n.2 ∧ n.3 = n.3 ∧ True) ∧ ((0 : Int) = (0 : Int) ∧ (0 : Int) = (0 : Int) ∧ Value.slice none 0 0 = Value.slice none 0 0 ∧ True) ∧ True ∧ True) False) False) ((m.1 = n.1 ∧ m.2 = n.1 ∧ m.3 = [] ∧ True) ∧ l = KeepTs n.3 x.1 ∧ e = (0 : Int) ∧ True))) := by kernel_rfl
theorem rall_res (rt : NF → Bool) (n m : NF) (l : List Int) (e : Int) : (callT Try.prog (hkR rt) tab (lhL [(1, hintA n 6)]) 10 21 [notV n] (fun u => subS (.tup [notT m, .c (.sl [.int .i64] l none), .c (.v (.int .i64 e))]) u)) = (((n.1 = n.1 ∧ n.2 = n.2 ∧ n.3 = n.3 ∧ True) ∧ KeepWs { wt := n.1, td := n.2, ns := n.3 }) ∧ br (!rt (cN (S.t (T.agg [SC.v (Value.int IntKind.u32 n.wt), SC.v (Value.int IntKind.u32 n.td), SC.sl [CK.int IntKind.u32, CK.int IntKind.i64] n.ns none])))) ((m.1 = n.1 ∧ m.2 = n.2 ∧ m.3 = n.3 ∧ True) ∧ l = [] ∧ e = (1 : Int) ∧ True) ((∃ (x : NX), KeepA n x ∧ (True ∧ True ∧ KeepTs n.3 x.1 = [] ∧ (↑x.1 : Int) = (0 : Int) ∧ True) ∧ (n.1 = n.1 ∧ n.2 = n.2 ∧ n.3 = n.3 ∧ True) ∧ ((0 : Int) = (0 : Int) ∧ (0 : Int) = (0 : Int) ∧ Value.slice none 0 0 = Value.slice none 0 0 ∧ True) ∧ True ∧ True) ∧ ∀ (x : NX), KeepA n x → br (decide ((↑x.1 : Int) < (↑(n.3.length / 2) : Int))) (br (true && decide ((↑x.1 : Int) < (↑(n.3.length / 2) : Int))) (br (((KeepTs n.3 x.1).length + 1).ble 1099511627776) (∃ (x' : NX), KeepA n x' ∧ n.3.length - x'.1 < n.3.length - x.1 ∧ (True ∧ True ∧ KeepTs n.3 x'.1 = KeepTs n.3 x.1 ++ [gI n.3 ((↑x.1 : Int).toNat * 2 + 1)] ∧ (↑x'.1 : Int) = IntKind.i64.wrap ((↑x.1 : Int) + (1 : Int)) ∧ True) ∧ (n.1 = n.1 ∧ n.2 = n.2 ∧ n.3 = n.3 ∧ True) ∧ ((0 : Int) = (0 : Int) ∧ (0 : Int) = (0 : Int) ∧ Value.slice none 0 0 = Value.slice none 0 0 ∧ True) ∧ True ∧ True) False) False) ((m.1 = n.1 ∧ m.2 = n.1 ∧ m.3 = [] ∧ True) ∧ l = KeepTs n.3 x.1 ∧ e = (0 : Int) ∧ True))) := by kernel_rfl
end Go.Proofs.Ytgoigcnibjcjpaa
