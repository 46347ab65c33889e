/- A symbolic executor over compiled code, slices by their contents: its definitions. No condition. -/
import Derived.WalkKit
import Derived.Orders
import Derived.Below
import Derived.Laws.Rows
import Derived.Laws.Cells
import Derived.Laws.StructEq
import Derived.Laws.Tables
import Derived.Laws.AppendOwn
import Derived.Laws.FloatArith
namespace Go.Proofs.YtapjehgfekjdaaaDoor
open Go.RowKit
namespace SY
noncomputable section

/-! ### Places in a tree -/

inductive Pa where
  | e
  | l (p : Pa)
  | r (p : Pa)
inductive Tr (α : Type) where
  | lf
  | nd (l : Tr α) (v : α) (r : Tr α)

def Tr.get {α : Type} (d : α) (t : Tr α) : Pa → α :=
  Tr.rec (motive := fun _ => Pa → α) (fun _ => d) (fun _ v _ il ir p => Pa.casesOn (motive := fun _ => α) p v il ir) t
def Tr.set {α : Type} (d x : α) (p : Pa) : Tr α → Tr α :=
  Pa.rec (motive := fun _ => Tr α → Tr α)
    (fun t => Tr.casesOn (motive := fun _ => Tr α) t (.nd .lf x .lf) (fun l _ r => .nd l x r))
    (fun _ ih t => Tr.casesOn (motive := fun _ => Tr α) t (.nd (ih .lf) d .lf) (fun l v r => .nd (ih l) v r))
    (fun _ ih t => Tr.casesOn (motive := fun _ => Tr α) t (.nd .lf d (ih .lf)) (fun l v r => .nd l v (ih r))) p
def Tr.map {α : Type} (f : α → α) (t : Tr α) : Tr α :=
  Tr.rec (motive := fun _ => Tr α) .lf (fun _ v _ il ir => .nd il (f v) ir) t

def pthG (n : Nat) : Nat → Pa :=
  Nat.rec (motive := fun _ => Nat → Pa) (fun _ => .e) (fun _ ih m =>
    Bool.casesOn (motive := fun _ => Pa) (Nat.ble m 1)
      (Bool.casesOn (motive := fun _ => Pa) (Nat.beq (m % 2) 0) (.r (ih (m / 2))) (.l (ih (m / 2)))) .e) n
def pth (t : Nat) : Pa := pthG (t + 1) (t + 1)

/-! ### Values -/

inductive CK where
  | int (k : IntKind)
  | bool
inductive SC where
  | v (x : Value)
  | own (k off : Nat)
  | sl (ks : List CK) (xs : List Int) (tok : Option (Nat × Nat))
  | st (xs : List Int)
  | any
inductive T where
  | c (x : SC)
  | agg (l : List SC)
inductive S where
  | t (x : T)
  | tup (l : List T)
  | clo (f : Nat) (caps : List SC)
  | ea (cells : List SC)
  | nest (l : List SC)
  | fp (k : Nat) (o : Option (Nat × Nat)) (j : Nat)
  | any

inductive Blk where
  | cells (l : List SC) (t : TypeId)
  | flat (ks : List CK) (xs : List Int) (t : TypeId)
  | tok (e : TypeId) (g : Nat)

structure St where
  sl : Tr S
  bl : Tr (Option Blk)
  nx : Nat

def i2b (x : Int) : Bool := !(decide (x = 0))
def b2i (b : Bool) : Int := bif b then 1 else 0
def rdV : CK → Int → Value
  | .int k, x => .int k x
  | .bool, x => .bool (i2b x)
def kAt (ks : List CK) (i : Nat) : CK := match ks[i % ks.length]? with
  | some k => k
  | none => .bool
/-- Flat cells. -/
def encV (ks : List CK) (xs : List Int) : List Value := xs.mapIdx fun i x => rdV (kAt ks i) x
def bstr (xs : List Int) : ByteArray := ⟨(xs.map fun x => UInt8.ofNat x.toNat).toArray⟩
def ofStr (s : ByteArray) : List Int := s.data.toList.map fun b => (b.toNat : Int)

/-! The value that a cell is, where it is one -/
def cV : SC → Option Value
  | .v x => some x
  | .st xs => some (.string (bstr xs))
  | _ => none
def csV (l : List SC) : Option (List Value) :=
  List.rec (motive := fun _ => Option (List Value)) (some []) (fun c _ ih => match cV c with
    | some x => match ih with
      | some xs => some (x :: xs)
      | none => none
    | none => none) l
def tV : T → Option Value
  | .c x => cV x
  | .agg l => match csV l with
    | some vs => some (.agg vs.toArray)
    | none => none
def tsV (l : List T) : Option (List Value) :=
  List.rec (motive := fun _ => Option (List Value)) (some []) (fun c _ ih => match tV c with
    | some x => match ih with
      | some xs => some (x :: xs)
      | none => none
    | none => none) l
def sV : S → Option Value
  | .t x => tV x
  | .tup l => match tsV l with
    | some vs => some (.tuple vs.toArray)
    | none => none
  | _ => none

def ofC (v : Value) : SC :=
  match v with
  | .string s => .st (ofStr s)
  | x => .v x
def ofT (v : Value) : T :=
  match v with
  | .agg cs => .agg (cs.toList.map ofC)
  | x => .c (ofC x)
def ofV (v : Value) : S :=
  match v with
  | .tuple vs => .tup (vs.toList.map ofT)
  | x => .t (ofT x)
def undefS : S := .tup []

inductive Opd where
  | t (p : Pa)
  | k (s : S)
def opv (sl : Tr S) : Opd → S
  | .t p => sl.get undefS p
  | .k s => s
/-- Of the source's operands. -/
def opd (sl : Tr S) : Operand → S
  | .tmp t => sl.get undefS (pth t)
  | .const v => ofV v
  | .global g => ofV (.pointer (some ⟨g, 0, none⟩))
  | .func f => ofV (.func (.func f) #[] #[])

def boolS : S → Option Bool
  | .t (.c (.v (.bool b))) => some b
  | _ => none
def intS : S → Option (IntKind × Int)
  | .t (.c (.v (.int k n))) => some (k, n)
  | _ => none
def ofB (b : Bool) : S := .t (.c (.v (.bool b)))
def ofI (k : IntKind) (n : Int) : S := .t (.c (.v (.int k n)))
def sc (c : SC) : S := .t (.c c)

/-! ### Types -/

def szT (P : Program) (t : TypeId) : Option Nat :=
  match P.info? t with
  | some i => some i.size
  | none => none
def aggT (P : Program) (t : TypeId) : Option Bool :=
  match P.underlying t with
  | some (.struct _) => some true
  | some (.array _ _) => some true
  | some _ => some false
  | none => none
def flatFs (P : Program) (g : TypeId → Option (List CK)) : List Field → Nat → Option (List CK)
  | [], _ => some []
  | f :: r, off => match decide (f.name = "_") || !(Nat.beq f.offset off) with
    | true => none
    | false => match g f.type with
      | some ks => match szT P f.type with
        | some n => match Nat.beq n ks.length with
          | true => match flatFs P g r (off + n) with
            | some rest => some (ks ++ rest)
            | none => none
          | false => none
        | none => none
      | none => none
def reps (ks : List CK) : Nat → List CK
  | 0 => []
  | n + 1 => ks ++ reps ks n
/-- The cells' kinds of a type of plain whole numbers and bools. -/
def flatT (P : Program) : Nat → TypeId → Option (List CK)
  | 0, _ => none
  | d + 1, t =>
    match P.underlying t with
    | some .bool => some [.bool]
    | some (.int k) => some [.int k]
    | some (.struct fs) =>
      match P.stoodInHeld t with
      | true => none
      | false => flatFs P (flatT P d) fs.toList 0
    | some (.array len e) =>
      match flatT P d e with
      | some ks => match szT P e with
        | some n => match Nat.beq n ks.length with
          | true => some (reps ks len)
          | false => none
        | none => none
      | none => none
    | _ => none

def nOf (ag : Bool) (m : Nat) : Nat := match ag with
  | true => m
  | false => 1

/-! ### Compiled operations -/

inductive CO where
  | mv (x : Opd)
  | nilc (x : Opd)
  | ext (x : Opd) (i : Nat)
  | fadr (x : Opd) (off : Nat)
  | iadrA (x ix : Opd) (len m : Nat)
  | iadrS (x ix : Opd) (m : Nat)
  | fld (x : Opd) (off n : Nat) (ag : Bool)
  | idx (x ix : Opd) (len m : Nat) (ag : Bool)
  | sidx (x ix : Opd)
  | bin (op : BinOp) (x y : Opd)
  | eqb (neg : Bool) (x y : Opd)
  | eqa (neg : Bool) (ks : List CK) (x y : Opd)
  | un (op : UnOp) (x : Opd)
  | cvt (k : IntKind) (x : Opd)
  | b2s (x : Opd)
  | bld (zero : List SC) (parts : List (Nat × Nat × Opd))
  | alloc (z : List SC) (t : TypeId)
  | box (t : TypeId) (x : Opd)
  | load (n : Nat) (ag : Bool) (x : Opd)
  | store (n : Nat) (x y : Opd)
  | lens (str : Bool) (x : Opd)
  | app (ks : List CK) (e : TypeId) (x y : Opd)
  | bsl (ks : List CK) (e : TypeId) (zs : List Int) (parts : List (Nat × Nat × Opd))
  | bns (n : Nat) (parts : List (Nat × Nat × Opd))
  | slc (ks : List CK) (e : TypeId) (x : Opd) (lo hi mx : Option Opd)
  | mkf (f : Nat) (caps : List Opd)
  | mm (mx : Bool) (x y : Opd)
  | fa (op : BinOp) (x y : Opd)
  | flc (op : BinOp) (x y : Opd)
  | i2f (x : Opd)
  | f2i (k : IntKind) (x : Opd)
  | pick (c x y : Opd)
  | call (f : Opd) (args : List Opd)
  | callS (ks : List CK) (e : TypeId) (f : Opd) (args : List Opd)
  | gen (o : Oper)
  | bad

structure CR where
  dst : Option Pa
  g : Option (Option Pa × Bool)
  op : CO

/-! ### What an operation comes to -/

structure Ef where
  s : S
  u : Option (Nat × Blk)
  p : Bool

def pureRun (P : Program) {α : Type} : Sem α → Option α
  | .pure a => some a
  | .program k => pureRun P (k P)
  | .mark _ k => pureRun P k
  | _ => none
def allV (ρ : Operand → S) : List Operand → Bool
  | [] => true
  | x :: r => match sV (ρ x) with
    | some _ => allV ρ r
    | none => false
def rv (ρ : Operand → S) (x : Operand) : Value :=
  match sV (ρ x) with
  | some v => v
  | none => undef
def isSel : Op → Bool
  | .select _ _ => true
  | _ => false
def stepV (P : Program) (ρ : Operand → S) (o : Oper) : Option S :=
  match isSel o.op || !allV ρ o.op.operands.toList with
  | true => none
  | false => match pureRun P (execOp (rv ρ) o) with
    | some (.value v) => some (ofV v)
    | _ => none

/-! Numbers -/
def bAnd (k : IntKind) (a b : Int) : Int := k.wrap (BitVec.ofInt k.bits a &&& BitVec.ofInt k.bits b).toNat
def bOr (k : IntKind) (a b : Int) : Int := k.wrap (BitVec.ofInt k.bits a ||| BitVec.ofInt k.bits b).toNat
def bXor (k : IntKind) (a b : Int) : Int := k.wrap (BitVec.ofInt k.bits a ^^^ BitVec.ofInt k.bits b).toNat
def bAnn (k : IntKind) (a b : Int) : Int := k.wrap (BitVec.ofInt k.bits a &&& ~~~(BitVec.ofInt k.bits b)).toNat
def sShl (k : IntKind) (a b : Int) : Int := k.wrap (a * 2 ^ (min b.toNat k.bits))
def sShr (k : IntKind) (a b : Int) : Int := a.fdiv (2 ^ (min b.toNat k.bits))
def imax (a b : Int) : Int := if b > a then b else a
def imin (a b : Int) : Int := if b < a then b else a
def m8 (x : Int) : Nat := x.toNat % 256
def lbeq : List Nat → List Nat → Bool
  | [], [] => true
  | a :: l, b :: m => Nat.beq a b && lbeq l m
  | _, _ => false
def strEq (xs ys : List Int) : Bool := lbeq (xs.map m8) (ys.map m8)
def gI (xs : List Int) (i : Nat) : Int := xs.getD i 0
def big : Nat := 1099511627776

def binI (op : BinOp) (k : IntKind) (a b : Int) : Option (S × Bool) :=
  match op with
  | .add => some (ofI k (k.wrap (a + b)), true)
  | .sub => some (ofI k (k.wrap (a - b)), true)
  | .mul => some (ofI k (k.wrap (a * b)), true)
  | .quo => some (ofI k (k.wrap (a.tdiv b)), !(decide (b = 0)))
  | .rem => some (ofI k (a.tmod b), !(decide (b = 0)))
  | .and => some (ofI k (bAnd k a b), true)
  | .or => some (ofI k (bOr k a b), true)
  | .xor => some (ofI k (bXor k a b), true)
  | .andNot => some (ofI k (bAnn k a b), true)
  | .shl => some (ofI k (sShl k a b), decide (0 ≤ b))
  | .shr => some (ofI k (sShr k a b), decide (0 ≤ b))
  | .eql => some (ofB (decide (a = b)), true)
  | .neq => some (ofB (!(decide (a = b))), true)
  | .lss => some (ofB (decide (a < b)), true)
  | .leq => some (ofB (decide (a ≤ b)), true)
  | .gtr => some (ofB (decide (a > b)), true)
  | .geq => some (ofB (decide (a ≥ b)), true)
def isShift : BinOp → Bool
  | .shl => true
  | .shr => true
  | _ => false
def binT (op : BinOp) (xs ys : List Int) : Option (S × Bool) :=
  match op with
  | .add => some (sc (.st (xs ++ ys)), Nat.ble (xs.length + ys.length) big)
  | .eql => some (ofB (strEq xs ys), true)
  | .neq => some (ofB (!(strEq xs ys)), true)
  | _ => none
def kEq (a b : IntKind) : Bool := decide (a = b)
def unI (op : UnOp) (s : S) : Option S :=
  match op, s with
  | .not, .t (.c (.v (.bool b))) => some (ofB (!b))
  | .neg, .t (.c (.v (.int k n))) => some (ofI k (k.wrap (0 - n)))
  | .xor, .t (.c (.v (.int k n))) => some (ofI k (bXor k (match k.signed with
    | true => -1
    | false => k.max) n))
  | _, _ => none

/-! Floats, of 64 bits -/
inductive FQ where
  | ar (op : BinOp)
  | mx (m : Bool)
def fltS : S → Option Nat
  | .t (.c (.v (.float .f64 n))) => some n
  | _ => none
def ofF (n : Nat) : S := .t (.c (.v (.float .f64 n)))
def nanW (r : Nat) : Prop := 9218868437227405312 < r % 9223372036854775808 ∧ r < 18446744073709551616
def mmBits (m : Bool) (x y : Nat) : Option Nat := match Ieee.double.order x y with
  | none => none
  | some .lt => some (match m with
    | true => y
    | false => x)
  | some .gt => some (match m with
    | true => x
    | false => y)
  | some .eq => some (match m with
    | true => if (FloatKind.f64.decode x).neg then y else x
    | false => if (FloatKind.f64.decode x).neg then x else y)
def fqBits : FQ → Nat → Nat → Option Nat
  | .ar op, x, y => floatBits op .f64 x y
  | .mx m, x, y => mmBits m x y
/-- What may come of it: of what has no answer a word that is none. -/
def KeepFr (q : FQ) (a b r : Nat) : Prop := match fqBits q a b with
  | some v => r = v
  | none => nanW r
def isAr : BinOp → Bool
  | .add => true
  | .sub => true
  | .mul => true
  | .quo => true
  | _ => false
def isFc : BinOp → Bool
  | .eql => true
  | .neq => true
  | .lss => true
  | .leq => true
  | .gtr => true
  | .geq => true
  | _ => false
def KeepFo (op : BinOp) (x y : Nat) : Bool := match op with
  | .eql => Ieee.double.order x y == some .eq
  | .neq => Ieee.double.order x y != some .eq
  | .lss => Ieee.double.order x y == some .lt
  | .leq => Ieee.double.order x y == some .lt || Ieee.double.order x y == some .eq
  | .gtr => Ieee.double.order x y == some .gt
  | _ => Ieee.double.order x y == some .gt || Ieee.double.order x y == some .eq
def KeepI2F (n : Int) : Nat := FloatKind.f64.nearest n
def KeepF2I (k : IntKind) (x : Nat) : Int := (floatToIntVal .f64 x k).getD 0
def KeepF2Ik (k : IntKind) (x : Nat) : Bool := (floatToIntVal .f64 x k).isSome
def faK (det : Bool) (q : FQ) (x y : S) (k : S → Prop) : Prop := match det with
  | true => False
  | false => match fltS x with
    | some a => match fltS y with
      | some b => ∀ r, KeepFr q a b r → k (ofF r)
      | none => False
    | none => False

/-! Equality of structs and arrays of whole numbers and bools -/
def eqC (ks : List CK) : List SC → List SC → Option Bool :=
  List.rec (motive := fun _ => List SC → List SC → Option Bool)
    (fun l m => match l, m with
      | [], [] => some true
      | _, _ => none)
    (fun k _ ih l m => match k, l, m with
      | .int _, .v (.int k a) :: l, .v (.int k' b) :: m => match kEq k k' with
        | true => match ih l m with
          | some r => some (decide (a = b) && r)
          | none => none
        | false => none
      | .bool, .v (.bool a) :: l, .v (.bool b) :: m => match ih l m with
        | some r => some ((a == b) && r)
        | none => none
      | _, _, _ => none) ks

def splice {α : Type} (l : List α) (off : Nat) (m : List α) : List α := l.take off ++ (m ++ l.drop (off + m.length))
def cellsT : T → List SC
  | .c x => [x]
  | .agg l => l
def okC : SC → Bool
  | .v (.agg _) => false
  | .v (.tuple _) => false
  | .any => false
  | _ => true
def allC (l : List SC) : Bool := List.rec (motive := fun _ => Bool) true (fun c _ ih => match okC c with
  | true => ih
  | false => false) l
def nth {α : Type} (l : List α) : Nat → Option α :=
  List.rec (motive := fun _ => Nat → Option α) (fun _ => none) (fun a _ ih n => Nat.casesOn (motive := fun _ => Option α) n (some a) ih) l

def partS (l : List SC) (off n : Nat) (ag : Bool) : Option T :=
  match ag with
  | true => match Nat.ble (off + n) l.length with
    | true => some (.agg ((l.drop off).take n))
    | false => none
  | false => match nth l off with
    | some c => some (.c c)
    | none => none

def isNil : Value → Bool
  | .slice none n c => Nat.beq n 0 && Nat.beq c 0
  | _ => false
/-- What a slice holds. -/
def slS : S → Option (List CK × List Int)
  | .t (.c (.sl ks xs _)) => some (ks, xs)
  | _ => none
def ckEq : CK → CK → Bool
  | .int k, .int k' => kEq k k'
  | .bool, .bool => true
  | _, _ => false
def ksEq (l : List CK) : List CK → Bool :=
  List.rec (motive := fun _ => List CK → Bool) (fun m => match m with
    | [] => true
    | _ => false) (fun k _ ih m => match m with
    | [] => false
    | k' :: m => ckEq k k' && ih m) l
/-- How many there are. -/
def lenE (ks : List CK) (xs : List Int) : Nat :=
  match ks with
  | [_] => xs.length
  | _ => xs.length / ks.length
def mulE (m i : Nat) : Nat := match Nat.beq m 1 with
  | true => i
  | false => i * m
def offE (o : Option (Nat × Nat)) (j : Nat) : Nat :=
  match o with
  | none => j
  | some (i, m) => match Nat.beq j 0 with
    | true => mulE m i
    | false => mulE m i + j
def rdCells (ks : List CK) (xs : List Int) : Nat → List SC :=
  List.rec (motive := fun _ => Nat → List SC) (fun _ => []) (fun k _ ih i => .v (rdV k (gI xs i)) :: ih (i + 1)) ks
def toI : CK → SC → Option Int
  | .int k, .v (.int k' x) => match kEq k k' with
    | true => some x
    | false => none
  | .bool, .v (.bool b) => some (b2i b)
  | _, _ => none
def toIs (ks : List CK) : List SC → Option (List Int) :=
  List.rec (motive := fun _ => List SC → Option (List Int)) (fun l => match l with
    | [] => some []
    | _ => none) (fun k _ ih l => match l with
    | [] => none
    | c :: l => match toI k c with
      | some x => match ih l with
        | some xs => some (x :: xs)
        | none => none
      | none => none) ks
/-- The kinds from j on, n of them; within one element. -/
def ksFrom (ks : List CK) (j n : Nat) : Option (List CK) := match Nat.ble (j + n) ks.length with
  | true => some ((ks.drop j).take n)
  | false => none
def divB (o : Option (Nat × Nat)) (m : Nat) : Bool := match o with
  | none => false
  | some (_, w) => Nat.beq (w % m) 0

def lkB (bl : Tr (Option Blk)) (k : Nat) : Option Blk := bl.get none (pth k)

def cellsO (s : S) : Option (List SC) := match s with
  | .t (.c x) => some [x]
  | .t (.agg l) => some l
  | _ => none
/-- Parts put into cells. -/
def parts (ρ : Opd → S) (ps : List (Nat × Nat × Opd)) : List SC → Option (List SC) :=
  List.rec (motive := fun _ => List SC → Option (List SC)) (fun l => some l) (fun p _ ih l => match cellsO (ρ p.2.2) with
    | some m => match Nat.beq m.length p.2.1 && Nat.ble (p.1 + p.2.1) l.length with
      | true => match allC m with
        | true => ih (splice l p.1 m)
        | false => none
      | false => none
    | none => none) ps
def partsI (ρ : Opd → S) (ks : List CK) (ps : List (Nat × Nat × Opd)) : List Int → Option (List Int) :=
  List.rec (motive := fun _ => List Int → Option (List Int)) (fun l => some l) (fun p _ ih l => match cellsO (ρ p.2.2) with
    | some m => match toIs ks m with
      | some is => match Nat.beq is.length p.2.1 && Nat.ble (p.1 + p.2.1) l.length with
        | true => ih (splice l p.1 is)
        | false => none
      | none => none
    | none => none) ps
def optI (ρ : Opd → S) (o : Option Opd) : Option (Option Int) := match o with
  | none => some none
  | some x => match intS (ρ x) with
    | some (_, n) => some (some n)
    | none => none
/-- A part of a slice's cells. -/
def cutI (m : Nat) (xs : List Int) (lo hi : Option Int) : List Int :=
  match lo, hi with
  | none, none => xs
  | none, some h => xs.take (mulE m h.toNat)
  | some l, none => xs.drop (mulE m l.toNat)
  | some l, some h => (xs.take (mulE m h.toNat)).drop (mulE m l.toNat)
def cutOk (n : Nat) (lo hi mx : Option Int) : Bool :=
  match lo, hi, mx with
  | none, none, none => true
  | none, some h, none => decide (0 ≤ h) && decide (h ≤ n)
  | some l, none, none => decide (0 ≤ l) && decide (l ≤ n)
  | some l, some h, none => decide (0 ≤ l) && (decide (l ≤ h) && decide (h ≤ n))
  | none, some h, some m => decide (0 ≤ h) && (decide (h ≤ n) && decide (h = m))
  | some l, some h, some m => decide (0 ≤ l) && (decide (l ≤ h) && (decide (h ≤ n) && decide (h = m)))
  | _, none, some _ => false

def capsO (ρ : Opd → S) (l : List Opd) : Option (List SC) :=
  List.rec (motive := fun _ => Option (List SC)) (some []) (fun x _ ih => match ρ x with
    | .t (.c c) => match ih with
      | some r => some (c :: r)
      | none => none
    | _ => none) l

def one (s : S) : Option Ef := some ⟨s, none, true⟩

def effC (P : Program) (sl : Tr S) (bl : Tr (Option Blk)) (key : Nat) (o : CO) : Option Ef :=
  match o with
  | .mv x => one (opv sl x)
  | .nilc x => match opv sl x with
    | .t (.c (.own k off)) => one (sc (.own k off))
    | .fp k o j => one (.fp k o j)
    | .ea l => one (.ea l)
    | .clo f l => one (.clo f l)
    | .t (.c (.v (.func (.func f) a b))) => one (sc (.v (.func (.func f) a b)))
    | _ => none
  | .ext x i => match opv sl x with
    | .tup l => match nth l i with
      | some y => one (.t y)
      | none => none
    | _ => none
  | .fadr x f => match opv sl x with
    | .t (.c (.own k off)) => one (sc (.own k (off + f)))
    | .ea l => match Nat.blt f l.length with
      | true => one (.ea (l.drop f))
      | false => none
    | .fp k o j => one (.fp k o (j + f))
    | _ => none
  | .iadrA x ix len m => match intS (opv sl ix) with
    | some (_, n) => match opv sl x with
      | .t (.c (.own k off)) => some ⟨sc (.own k (off + n.toNat * m)), none, decide (0 ≤ n) && decide (n < len)⟩
      | .fp k none j => some ⟨.fp k (some (n.toNat, m)) j, none, decide (0 ≤ n) && decide (n < len)⟩
      | .fp k (some o) j => some ⟨.fp k (some o) (j + n.toNat * m), none, decide (0 ≤ n) && decide (n < len)⟩
      | _ => none
    | none => none
  | .iadrS x ix m => match intS (opv sl ix) with
    | some (_, n) => match slS (opv sl x) with
      | some (ks, xs) => match Nat.beq ks.length m with
        | true => some ⟨.ea (rdCells ks xs (mulE m n.toNat)), none, decide (0 ≤ n) && decide (n < (lenE ks xs : Nat))⟩
        | false => none
      | none => none
    | none => none
  | .fld x off n ag => match opv sl x with
    | .t (.agg l) => match partS l off n ag with
      | some y => one (.t y)
      | none => none
    | _ => none
  | .idx x ix len m ag => match intS (opv sl ix) with
    | some (_, n) => match opv sl x with
      | .t (.agg l) => match decide (0 ≤ n) && decide (n < len) with
        | true => match partS l (n.toNat * m) m ag with
          | some y => one (.t y)
          | none => none
        | false => none
      | _ => none
    | none => none
  | .sidx x ix => match intS (opv sl ix) with
    | some (_, n) => match opv sl x with
      | .t (.c (.st xs)) => some ⟨ofI .u8 (m8 (gI xs n.toNat)), none, decide (0 ≤ n) && decide (n < (xs.length : Nat))⟩
      | _ => none
    | none => none
  | .bin op x y => match opv sl x, opv sl y with
    | .t (.c (.v (.int k a))), .t (.c (.v (.int k' b))) => match isShift op || kEq k k' with
      | true => match binI op k a b with
        | some (s, p) => some ⟨s, none, p⟩
        | none => none
      | false => none
    | .t (.c (.st a)), .t (.c (.st b)) => match binT op a b with
      | some (s, p) => some ⟨s, none, p⟩
      | none => none
    | _, _ => none
  | .eqb neg x y => match boolS (opv sl x), boolS (opv sl y) with
    | some a, some b => one (ofB (match neg with
      | true => !(a == b)
      | false => a == b))
    | _, _ => none
  | .eqa neg ks x y => match opv sl x, opv sl y with
    | .t (.agg l), .t (.agg m) => match eqC ks l m with
      | some b => one (ofB (match neg with
        | true => !b
        | false => b))
      | none => none
    | _, _ => none
  | .un op x => match unI op (opv sl x) with
    | some s => one s
    | none => none
  | .cvt k x => match intS (opv sl x) with
    | some (_, n) => one (ofI k (k.wrap n))
    | none => none
  | .b2s x => match opv sl x with
    | .t (.c (.sl ks xs _)) => match ksEq ks [.int .u8] with
      | true => one (sc (.st xs))
      | false => none
    | .t (.c (.v v)) => match isNil v with
      | true => one (sc (.st []))
      | false => none
    | _ => none
  | .bld zero ps => match parts (opv sl) ps zero with
    | some l => one (.t (.agg l))
    | none => none
  | .alloc z t => match lkB bl key with
    | none => some ⟨sc (.own key 0), some (key, .cells z t), true⟩
    | some _ => none
  | .box t x => match cellsO (opv sl x) with
    | some l => match lkB bl key with
      | none => match allC l with
        | true => some ⟨sc (.own key 0), some (key, .cells l t), true⟩
        | false => none
      | some _ => none
    | none => none
  | .load n ag x => match opv sl x with
    | .t (.c (.own k off)) => match lkB bl k with
      | some (.cells l _) => match partS l off n ag with
        | some y => one (.t y)
        | none => none
      | _ => none
    | .ea l => match partS l 0 n ag with
      | some y => one (.t y)
      | none => none
    | .fp k o j => match lkB bl k with
      | some (.flat ks xs _) => match ksFrom ks j n, divB o ks.length with
        | some kk, true => match partS (rdCells kk xs (offE o j)) 0 n ag with
          | some y => some ⟨.t y, none, Nat.ble (offE o j + n) xs.length⟩
          | none => none
        | _, _ => none
      | _ => none
    | _ => none
  | .store n x y => match cellsO (opv sl y) with
    | some c => match Nat.beq c.length n && allC c with
      | true => match opv sl x with
        | .t (.c (.own k off)) => match lkB bl k with
          | some (.cells l t) => match Nat.ble (off + n) l.length with
            | true => some ⟨undefS, some (k, .cells (splice l off c) t), true⟩
            | false => none
          | _ => none
        | .fp k o j => match lkB bl k with
          | some (.flat ks xs t) => match ksFrom ks j n, divB o ks.length with
            | some kk, true => match toIs kk c with
              | some is => some ⟨undefS, some (k, .flat ks (splice xs (offE o j) is) t), Nat.ble (offE o j + n) xs.length⟩
              | none => none
            | _, _ => none
          | _ => none
        | _ => none
      | false => none
    | none => none
  | .lens str x => match str with
    | true => match opv sl x with
      | .t (.c (.st xs)) => one (ofI .i64 (xs.length : Nat))
      | _ => none
    | false => match opv sl x with
      | .t (.c (.sl ks xs _)) => one (ofI .i64 (lenE ks xs : Nat))
      | .t (.c (.v v)) => match isNil v with
        | true => one (ofI .i64 0)
        | false => none
      | _ => none
  | .app ks e x y => match (match opv sl y with
      | .t (.c (.sl ks' ys _)) => match ksEq ks ks' with
        | true => some ys
        | false => none
      | .t (.c (.v v)) => match isNil v with
        | true => some []
        | false => none
      | _ => none) with
    | some ys => match opv sl x with
      | .t (.c (.sl ks' xs (some (k, g)))) => match ksEq ks ks' with
        | true => match lkB bl k with
          | some (.tok e' g') => match Nat.beq e e' && (Nat.beq g g' && Nat.blt g (key + key + 1)) with
            | true => some ⟨sc (.sl ks (xs ++ ys) (some (k, key + key + 1))), some (k, .tok e (key + key + 1)), Nat.ble (xs.length + ys.length) big⟩
            | false => none
          | _ => none
        | false => none
      | .t (.c (.v v)) => match isNil v with
        | true => match lkB bl key with
          | none => some ⟨sc (.sl ks ys (some (key, key + key + 1))), some (key, .tok e (key + key + 1)), Nat.ble ys.length big⟩
          | some _ => none
        | false => none
      | _ => none
    | none => none
  | .bsl ks e zs ps => match partsI (opv sl) ks ps zs with
    | some xs => match lkB bl key with
      | none => some ⟨sc (.sl ks xs (some (key, key + key))), some (key, .tok e (key + key)), true⟩
      | some _ => none
    | none => none
  | .bns n ps => match Nat.blt 0 n && Nat.ble n 16777216 with
    | true => match parts (opv sl) ps (List.replicate n (.v (.slice none 0 0))) with
      | some l => one (.nest l)
      | none => none
    | false => none
  | .slc ks e x lo hi mx => match (match opv sl x with
      | .t (.c (.sl ks' xs _)) => match ksEq ks ks' with
        | true => some xs
        | false => none
      | .t (.c (.v v)) => match isNil v with
        | true => some []
        | false => none
      | _ => none) with
    | some xs => match optI (opv sl) lo, optI (opv sl) hi, optI (opv sl) mx with
      | some lo, some hi, some mx => match mx with
        | none => some ⟨sc (.sl ks (cutI ks.length xs lo hi) none), none, cutOk (lenE ks xs) lo hi mx⟩
        | some _ => match lkB bl key with
          | none => some ⟨sc (.sl ks (cutI ks.length xs lo hi) (some (key, key + key))), some (key, .tok e (key + key)), cutOk (lenE ks xs) lo hi mx⟩
          | some _ => none
      | _, _, _ => none
    | none => none
  | .mkf f caps => match caps with
    | [] => one (sc (.v (.func (.func f) #[] #[])))
    | _ => match capsO (opv sl) caps with
      | some l => one (.clo f l)
      | none => none
  | .mm mx x y => match intS (opv sl x), intS (opv sl y) with
    | some (k, a), some (_, b) => one (ofI k (match mx with
      | true => imax a b
      | false => imin a b))
    | _, _ => none
  | .flc op x y => match fltS (opv sl x), fltS (opv sl y) with
    | some a, some b => one (ofB (KeepFo op a b))
    | _, _ => none
  | .i2f x => match intS (opv sl x) with
    | some (_, n) => one (ofF (KeepI2F n))
    | none => none
  | .f2i k x => match fltS (opv sl x) with
    | some a => some ⟨ofI k (KeepF2I k a), none, KeepF2Ik k a⟩
    | none => none
  | .gen o => match stepV P (opd sl) o with
    | some s => one s
    | none => none
  | _ => none

end
end SY
end Go.Proofs.YtapjehgfekjdaaaDoor
