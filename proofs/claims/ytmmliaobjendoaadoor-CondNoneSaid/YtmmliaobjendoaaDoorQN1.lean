/- Printed by a program of ours (gen.py): what the symbolic executor comes to. No condition. -/
import Derived.Test.YtmmliaobjendoaaDoorCF
import Derived.Test.YtmmliaobjendoaaDoorPN4
import Derived.Test.YtmmliaobjendoaaDoorSyW
import Derived.KernelRfl
set_option linter.unusedVariables false
open Go Go.Proofs
namespace Go.Proofs.YtmmliaobjendoaaDoor
open SY
abbrev WK : List CK := [.int .u32, .int .i64]
abbrev slW (l : List Int) : S := .t (.c (.sl [.int .u32, .int .i64] l none))
abbrev slI (l : List Int) : S := .t (.c (.sl [.int .i64] l none))
structure NF where
  wt : Int
  td : Int
  ns : List Int
def notC (n : NF) : List SC := [.v (.int .u32 n.wt), .v (.int .u32 n.td), .sl [.int .u32, .int .i64] n.ns none]
def notT (n : NF) : T := .agg [.v (.int .u32 n.wt), .v (.int .u32 n.td), .sl [.int .u32, .int .i64] n.ns none]
def notV (n : NF) : S := .t (notT n)
noncomputable def cI (a : S) : Int := match a with
  | .t (.c c) => (match asI c with
    | some n => n
    | none => 0)
  | _ => 0
noncomputable def cL (a : S) : List Int := match a with
  | .t (.c c) => (match asL c with
    | some n => n
    | none => [])
  | _ => []
noncomputable def gC (l : List SC) (i : Nat) : SC := match nth l i with
  | some c => c
  | none => .any
noncomputable def iC (l : List SC) (i : Nat) : Int := match asI (gC l i) with
  | some n => n
  | none => 0
noncomputable def lC (l : List SC) (i : Nat) : List Int := match asL (gC l i) with
  | some n => n
  | none => []
noncomputable def cN (a : S) : NF := match a with
  | .t (.agg l) => ⟨iC l 0, iC l 1, lC l 2⟩
  | _ => ⟨0, 0, []⟩
def KeepU (x : Int) : Prop := 0 ≤ x ∧ x < 4294967296
def KeepI (x : Int) : Prop := -9223372036854775808 ≤ x ∧ x < 9223372036854775808
def inW (xs : List Int) : Prop := xs.length % 2 = 0 ∧ xs.length ≤ 1000000 ∧ ∀ k, k < xs.length / 2 → (0 ≤ tkI xs k ∧ tkI xs k < 4294967296) ∧ -9223372036854775808 ≤ tsI xs k ∧ tsI xs k < 9223372036854775808
def KeepWs (n : NF) : Prop := (0 ≤ n.wt ∧ n.wt < 4294967296) ∧ (0 ≤ n.td ∧ n.td < 4294967296) ∧ inW n.ns
def KeepRn (n : NF) : Bool := KeepRt n.wt n.td n.ns
noncomputable def hRt (rt : NF → Bool) : Hk := fun vs => match vs with
  | [a] => some (subS (notV (cN a)) a ∧ KeepWs (cN a), bS (rt (cN a)))
  | _ => none
def KeepSe (a b : NF) : Bool := decide (a.wt = b.wt) && (decide (a.td = b.td) && decide (a.ns = b.ns))
def KeepNs (a : NF) : Prop := a.ns.length ≤ 1000000 ∧ a.ns.length % 2 = 0
noncomputable def hSe (se : NF → NF → Bool) : Hk := fun vs => match vs with
  | [a, b] => some (subS (notV (cN a)) a ∧ subS (notV (cN b)) b ∧ KeepNs (cN a) ∧ KeepNs (cN b), bS (se (cN a) (cN b)))
  | _ => none
structure NX where
  i : Nat
def KeepPre (a b : List Int) (z : NX) : Prop := 2 * z.i ≤ a.length ∧ a.take (2 * z.i) = b.take (2 * z.i)
noncomputable def hintSe (a b : NF) : Hint where
  X := NX
  sl := fun z => [(pth 2, .t (.c (.own 0 0))), (pth 3, .t (.c (.own 1 0))), (pth 5, iS z.i)]
  bl := fun _ => [(0, .cells (notC a) 26), (1, .cells (notC b) 26)]
  tp := []
  nx := 25
  I := fun z => KeepPre a.ns b.ns z
  mu := fun z => a.ns.length - z.i
def KeepO (n : NF) (z : NX) : Prop := z.i ≤ n.ns.length / 2 ∧ ∀ j, j < z.i → okW n.wt n.td n.ns j = true
noncomputable def hintR1 (n : NF) : Hint where
  X := NX
  sl := fun z => [(pth 1, .t (.c (.own 0 0))), (pth 3, iS z.i)]
  bl := fun _ => [(0, .cells (notC n) 26)]
  tp := []
  nx := 36
  I := fun z => KeepO n z
  mu := fun z => n.ns.length - z.i
def KeepR3 (n : NF) (i : Int) (z : NX) : Prop := (z.i : Int) ≤ i ∧ ∀ j : Nat, j < z.i → tkI n.ns j ≠ tkI n.ns i.toNat ∧ tsI n.ns j ≠ tsI n.ns i.toNat
noncomputable def hintR3 (n : NF) (st : St) : Hint where
  X := NX
  sl := fun z => [(pth 1, .t (.c (.own 0 0))), (pth 4, .t (.c (.own 46 0))), (pth 5, iS z.i)]
  bl := fun _ => [(0, .cells (notC n) 26), (46, .cells [.v (.int .u32 (gI n.ns ((cI (st.sl.get undefS (pth 3))).toNat * 2))), .v (.int .i64 (gI n.ns ((cI (st.sl.get undefS (pth 3))).toNat * 2 + 1)))] 67)]
  tp := []
  nx := 82
  I := fun z => KeepR3 n (cI (st.sl.get undefS (pth 3))) z
  mu := fun z => (cI (st.sl.get undefS (pth 3))).toNat - z.i
noncomputable def lhR (n : NF) : LH := lhS [(1, fun _ => hintR1 n), (3, hintR3 n)]
def zN : List SC := [.v (.int .u32 0), .v (.int .u32 0), .v (.slice none 0 0)]
def KeepP (n : NF) (t s : Int) (z : NX) : Prop := z.i ≤ n.ns.length / 2 ∧ ∀ j, j < z.i → sameF n.ns t s j = false
noncomputable def hintP (n : NF) (t s : Int) : Hint where
  X := NX
  sl := fun z => [(pth 3, .t (.c (.own 0 0))), (pth 6, .t (.c (.own 1 0))), (pth 8, iS z.i)]
  bl := fun _ => [(0, .cells (notC n) 26), (1, .cells zN 26)]
  tp := []
  nx := 43
  I := fun z => KeepP n t s z
  mu := fun z => n.ns.length - z.i
structure OX where
  i : Nat
  tk : Int
  out : List Int
def filt (ns : List Int) (t : Int) : Nat → List Int
  | 0 => []
  | k + 1 => filt ns t k ++ (if tkI ns k = t then [] else [tkI ns k, tsI ns k])
def tkOf (ns : List Int) (t : Int) : Nat → Int
  | 0 => -1
  | k + 1 => if tkI ns k = t then tsI ns k else tkOf ns t k
def KeepO1 (n : NF) (z : OX) : Prop := z.i ≤ n.ns.length / 2 ∧ z.out = filt n.ns n.td z.i ∧ z.tk = tkOf n.ns n.td z.i
noncomputable def hintO (n : NF) : Hint where
  X := OX
  sl := fun z => [(pth 1, .t (.c (.own 0 0))), (pth 2, .t (.c (.own 1 0))), (pth 5, .t (.c (.own 18 0))), (pth 6, iS z.tk), (pth 7, iS z.i)]
  bl := fun z => [(0, .cells (notC n) 26), (1, .cells zN 26), (18, .cells [.v (.int .u32 n.wt), .v (.int .u32 (IntKind.u32.wrap (n.td + 1))), .sl [.int .u32, .int .i64] z.out (some (30, 0))] 26), (30, .tok 67 0)]
  tp := [(30, .inr (18, 2))]
  nx := 40
  I := fun z => KeepO1 n z
  mu := fun z => n.ns.length - z.i
def KeepTs (ns : List Int) : Nat → List Int
  | 0 => []
  | k + 1 => KeepTs ns k ++ [tsI ns k]
def KeepA (n : NF) (z : NX) : Prop := z.i ≤ n.ns.length / 2
noncomputable def hintA (n : NF) (q : Nat) : Hint where
  X := NX
  sl := fun z => [(pth 1, .t (.c (.own 0 0))), (pth 2, .t (.c (.own 1 0))), (pth 5, .t (.c (.sl [.int .i64] (KeepTs n.ns z.i) (some (20, 0))))), (pth q, iS z.i)]
  bl := fun z => [(0, .cells (notC n) 26), (1, .cells zN 26), (20, .tok 3 0)]
  tp := [(20, .inl (pth 5))]
  nx := 25
  I := fun z => KeepA n z
  mu := fun z => n.ns.length - z.i
noncomputable def hPark (pn : NF → Int → Int → NF) (pe : NF → Int → Int → Int) : Hk := fun vs => match vs with
  | [a, b, c] => some (subS (notV (cN a)) a ∧ subS (uS (cI b)) b ∧ subS (iS (cI c)) c ∧ KeepWs (cN a) ∧ KeepU (cI b) ∧ KeepI (cI c), .tup [notT (pn (cN a) (cI b) (cI c)), .c (.v (.int .i64 (pe (cN a) (cI b) (cI c))))])
  | _ => none
noncomputable def hOne (on : NF → NF) (ot oe : NF → Int) : Hk := fun vs => match vs with
  | [a] => some (subS (notV (cN a)) a ∧ KeepWs (cN a), .tup [notT (on (cN a)), .c (.v (.int .i64 (ot (cN a)))), .c (.v (.int .i64 (oe (cN a))))])
  | _ => none
noncomputable def hAll (an : NF → NF) (al : NF → List Int) (ae : NF → Int) : Hk := fun vs => match vs with
  | [a] => some (subS (notV (cN a)) a ∧ KeepWs (cN a), .tup [notT (an (cN a)), .c (.sl [.int .i64] (al (cN a)) none), .c (.v (.int .i64 (ae (cN a))))])
  | _ => none
noncomputable def hkR (rt : NF → Bool) : Hooks := hkL [(17, hRt rt)]
noncomputable def hkO (rt : NF → Bool) : Hooks := hkL [(17, hRt rt), (26, hConcat)]
noncomputable def xhA : XHooks := xhL [(29, xHas), (24, xIx)]

set_option maxRecDepth 100000
set_option linter.all false
theorem park_res (rt : NF → Bool) (n m : NF) (t s e : Int) : (callX Tryd.prog (hkR rt) xhA tab noL 10 22 [notV n, uS t, iS s] (fun u => subS (.tup [notT m, .c (.v (.int .i64 e))]) u)) = (br (decide (s < (0 : Int))) ((m.1 = n.1 ∧ m.2 = n.2 ∧ m.3 = n.3 ∧ True) ∧ e = (1 : Int) ∧ True) (((n.1 = n.1 ∧ n.2 = n.2 ∧ n.3 = n.3 ∧ True) ∧ KeepWs { wt := n.1, td := n.2, ns := n.3 }) ∧ br (!rt (cN (S.t (T.agg [SC.v (Value.int IntKind.u32 n.wt), SC.v (Value.int IntKind.u32 n.td), SC.sl [CK.int IntKind.u32, CK.int IntKind.i64] n.ns none])))) ((m.1 = n.1 ∧ m.2 = n.2 ∧ m.3 = n.3 ∧ True) ∧ e = (1 : Int) ∧ True) (S.t (T.c (SC.v (Value.int IntKind.u32 (IntKind.u32.wrap (n.1 - n.2))))) = S.t (T.c (SC.v (Value.int IntKind.u32 (IntKind.u32.wrap (n.1 - n.2))))) ∧ br (!decide (IntKind.u32.wrap (t - n.2) < IntKind.u32.wrap (n.1 - n.2))) ((m.1 = n.1 ∧ m.2 = n.2 ∧ m.3 = n.3 ∧ True) ∧ e = (1 : Int) ∧ True) (KeepLs n.3 ∧ br (KeepHas n.3 t s) ((m.1 = n.1 ∧ m.2 = n.2 ∧ m.3 = n.3 ∧ True) ∧ e = (8 : Int) ∧ True) (br (decide ((↑(n.3.length / 2) : Int) = (12 : Int))) ((m.1 = n.1 ∧ m.2 = n.2 ∧ m.3 = n.3 ∧ True) ∧ e = (6 : Int) ∧ True) (br (true && (decide ((↑(n.3.length / 2) : Int) ≤ (↑(n.3.length / 2) : Int)) && decide ((↑(n.3.length / 2) : Int) = (↑(n.3.length / 2) : Int)))) (br (true && (decide ((↑(n.3.length / 2) : Int) ≤ (↑(n.3.length / 2) : Int)) && decide ((↑(n.3.length / 2) : Int) = (↑(n.3.length / 2) : Int)))) (S.t (T.c (SC.sl [CK.int IntKind.u32, CK.int IntKind.i64] (List.take ((↑(n.3.length / 2) : Int).toNat * 2) n.3) (some (62, 124)))) = S.t (T.c (SC.sl [CK.int IntKind.u32, CK.int IntKind.i64] (List.take ((↑(n.3.length / 2) : Int).toNat * 2) n.3) (some (62, 124))))) False ∧ br (((List.take ((↑(n.3.length / 2) : Int).toNat * 2) n.3).length + 2).ble 1099511627776) ((m.1 = n.1 ∧ m.2 = n.2 ∧ m.3 = List.take ((↑(n.3.length / 2) : Int).toNat * 2) n.3 ++ [t, s] ∧ True) ∧ e = (0 : Int) ∧ True) False) False)))))) := by kernel_rfl
theorem one_res (rt : NF → Bool) (n m : NF) (t e : Int) : (callX Tryd.prog (hkO rt) xhA tab noL 10 16 [notV n] (fun u => subS (.tup [notT m, .c (.v (.int .i64 t)), .c (.v (.int .i64 e))]) u)) = (((n.1 = n.1 ∧ n.2 = n.2 ∧ n.3 = n.3 ∧ True) ∧ KeepWs { wt := n.1, td := n.2, ns := n.3 }) ∧ br (!rt (cN (S.t (T.agg [SC.v (Value.int IntKind.u32 n.wt), SC.v (Value.int IntKind.u32 n.td), SC.sl [CK.int IntKind.u32, CK.int IntKind.i64] n.ns none])))) ((m.1 = n.1 ∧ m.2 = n.2 ∧ m.3 = n.3 ∧ True) ∧ t = (0 : Int) ∧ e = (1 : Int) ∧ True) (br (decide (IntKind.u32.wrap (n.1 - n.2) = (0 : Int))) ((m.1 = n.1 ∧ m.2 = n.2 ∧ m.3 = n.3 ∧ True) ∧ t = (0 : Int) ∧ e = (7 : Int) ∧ True) (KeepLs n.3 ∧ br (decide (KeepIx n.3 n.2 ≥ (0 : Int))) (br (decide ((0 : Int) ≤ KeepIx n.3 n.2) && decide (KeepIx n.3 n.2 < (↑(n.3.length / 2) : Int))) (br (decide ((0 : Int) ≤ KeepIx n.3 n.2) && decide (KeepIx n.3 n.2 ≤ (↑(n.3.length / 2) : Int))) (br (decide ((0 : Int) ≤ IntKind.i64.wrap (KeepIx n.3 n.2 + (1 : Int))) && decide (IntKind.i64.wrap (KeepIx n.3 n.2 + (1 : Int)) ≤ (↑(n.3.length / 2) : Int))) ((List.take ((KeepIx n.3 n.2).toNat * 2) n.3 = List.take ((KeepIx n.3 n.2).toNat * 2) n.3 ∧ List.drop ((IntKind.i64.wrap (KeepIx n.3 n.2 + (1 : Int))).toNat * 2) n.3 = List.drop ((IntKind.i64.wrap (KeepIx n.3 n.2 + (1 : Int))).toNat * 2) n.3 ∧ KeepSh (List.take ((KeepIx n.3 n.2).toNat * 2) n.3) (List.drop ((IntKind.i64.wrap (KeepIx n.3 n.2 + (1 : Int))).toNat * 2) n.3)) ∧ (m.1 = n.1 ∧ m.2 = IntKind.u32.wrap (n.2 + (1 : Int)) ∧ m.3 = List.take ((KeepIx n.3 n.2).toNat * 2) n.3 ++ List.drop ((IntKind.i64.wrap (KeepIx n.3 n.2 + (1 : Int))).toNat * 2) n.3 ∧ True) ∧ t = gI n.3 ((KeepIx n.3 n.2).toNat * 2 + 1) ∧ e = (0 : Int) ∧ True) False) False) False) ((m.1 = n.1 ∧ m.2 = IntKind.u32.wrap (n.2 + (1 : Int)) ∧ m.3 = n.3 ∧ True) ∧ t = (-1 : Int) ∧ e = (0 : Int) ∧ True)))) := by kernel_rfl
theorem all_res (rt : NF → Bool) (n m : NF) (l : List Int) (e : Int) : (callT Tryd.prog (hkR rt) tab (lhL [(1, hintA n 15)]) 10 15 [notV n] (fun u => subS (.tup [notT m, .c (.sl [.int .i64] l none), .c (.v (.int .i64 e))]) u)) = (((n.1 = n.1 ∧ n.2 = n.2 ∧ n.3 = n.3 ∧ True) ∧ KeepWs { wt := n.1, td := n.2, ns := n.3 }) ∧ br (!rt (cN (S.t (T.agg [SC.v (Value.int IntKind.u32 n.wt), SC.v (Value.int IntKind.u32 n.td), SC.sl [CK.int IntKind.u32, CK.int IntKind.i64] n.ns none])))) ((m.1 = n.1 ∧ m.2 = n.2 ∧ m.3 = n.3 ∧ True) ∧ l = [] ∧ e = (1 : Int) ∧ True) ((∃ (x : NX), KeepA n x ∧ (True ∧ True ∧ KeepTs n.3 x.1 = [] ∧ (↑x.1 : Int) = (0 : Int) ∧ True) ∧ (n.1 = n.1 ∧ n.2 = n.2 ∧ n.3 = n.3 ∧ True) ∧ ((0 : Int) = (0 : Int) ∧ (0 : Int) = (0 : Int) ∧ Value.slice none 0 0 = Value.slice none 0 0 ∧ True) ∧ True ∧ True) ∧ ∀ (x : NX), KeepA n x → br (decide ((↑x.1 : Int) < (↑(n.3.length / 2) : Int))) (br (true && decide ((↑x.1 : Int) < (↑(n.3.length / 2) : Int))) (br (((KeepTs n.3 x.1).length + 1).ble 1099511627776) (∃ (x' : NX), KeepA n x' ∧ n.3.length - x'.1 < n.3.length - x.1 ∧ (True ∧ True ∧ KeepTs n.3 x'.1 = KeepTs n.3 x.1 ++ [gI n.3 ((↑x.1 : Int).toNat * 2 + 1)] ∧ (↑x'.1 : Int) = IntKind.i64.wrap ((↑x.1 : Int) + (1 : Int)) ∧ True) ∧ (n.1 = n.1 ∧ n.2 = n.2 ∧ n.3 = n.3 ∧ True) ∧ ((0 : Int) = (0 : Int) ∧ (0 : Int) = (0 : Int) ∧ Value.slice none 0 0 = Value.slice none 0 0 ∧ True) ∧ True ∧ True) False) False) ((m.1 = n.1 ∧ m.2 = n.1 ∧ m.3 = [] ∧ True) ∧ l = KeepTs n.3 x.1 ∧ e = (0 : Int) ∧ True))) := by kernel_rfl
end Go.Proofs.YtmmliaobjendoaaDoor
