/- A symbolic executor for the loaded program's code, over any program: its definitions. No condition. -/
import Derived.WalkKit
import Derived.Orders
import Derived.Below
import Derived.Laws.Rows
import Derived.Laws.Cells
import Derived.Laws.StructEq
namespace Go.Proofs.Ytegdbpbafdpkfaa
open Go.RowKit
namespace SX

inductive SC where
  | v (x : Value)
  | own (i off : Nat)
  | any
inductive T where
  | c (x : SC)
  | agg (l : List SC)
inductive S where
  | t (x : T)
  | tup (l : List T)
  | any

structure Blk where
  cells : List SC
  t : TypeId

structure St where
  slots : List S
  blocks : Nat → Option Blk
  next : Nat

/-! ### Values as they are -/

def cV : SC → Option Value
  | .v x => some x
  | _ => none
def csV : List SC → Option (List Value)
  | [] => some []
  | c :: r => match cV c with
    | some x => match csV r with
      | some xs => some (x :: xs)
      | none => none
    | none => none
def tV : T → Option Value
  | .c x => cV x
  | .agg l => match csV l with
    | some vs => some (.agg vs.toArray)
    | none => none
def tsV : List T → Option (List Value)
  | [] => some []
  | c :: r => match tV c with
    | some x => match tsV r with
      | some xs => some (x :: xs)
      | none => none
    | none => none
def sV : S → Option Value
  | .t x => tV x
  | .tup l => match tsV l with
    | some vs => some (.tuple vs.toArray)
    | none => none
  | .any => none

def ofT (v : Value) : T :=
  match v with
  | .agg cs => .agg (cs.toList.map .v)
  | x => .c (.v x)
def ofV (v : Value) : S :=
  match v with
  | .tuple vs => .tup (vs.toList.map ofT)
  | x => .t (ofT x)
def undefS : S := .tup []

def opd (slots : List S) : Operand → S
  | .tmp t => match slots[t]? with
    | some s => s
    | none => undefS
  | .const v => ofV v
  | .global g => ofV (.pointer (some ⟨g, 0, none⟩))
  | .func f => ofV (.func (.func f) #[] #[])

def pureRun (P : Program) {α : Type} : Sem α → Option α
  | .pure a => some a
  | .program k => pureRun P (k P)
  | .mark _ k => pureRun P k
  | _ => none

def allV (ρ : Operand → S) : List Operand → Bool
  | [] => true
  | x :: r => match sV (ρ x) with
    | some _ => allV ρ r
    | none => false

def rv (ρ : Operand → S) (x : Operand) : Value :=
  match sV (ρ x) with
  | some v => v
  | none => undef

def isSel : Op → Bool
  | .select _ _ => true
  | _ => false

def stepV (P : Program) (ρ : Operand → S) (o : Oper) : Option S :=
  match isSel o.op || !allV ρ o.op.operands.toList with
  | true => none
  | false => match pureRun P (execOp (rv ρ) o) with
    | some (.value v) => some (ofV v)
    | _ => none


/-! ### Types -/

def szT (P : Program) (t : TypeId) : Option Nat :=
  match P.info? t with
  | some i => some i.size
  | none => none
def aggT (P : Program) (t : TypeId) : Option Bool :=
  match P.underlying t with
  | some (.struct _) => some true
  | some (.array _ _) => some true
  | some _ => some false
  | none => none

/-! ### Equality of structs and arrays of whole numbers and bools -/

/-- kinds: true: a bool, false: a whole number -/
def eqC : List Bool → List SC → List SC → Option Bool
  | [], [], [] => some true
  | false :: ks, .v (.int k a) :: l, .v (.int k' b) :: m => match decide (k = k') with
    | true => match eqC ks l m with
      | some r => some ((a == b) && r)
      | none => none
    | false => none
  | true :: ks, .v (.bool a) :: l, .v (.bool b) :: m => match eqC ks l m with
    | some r => some ((a == b) && r)
    | none => none
  | _, _, _ => none

def flatFs (P : Program) (g : TypeId → Option (List Bool)) : List Field → Nat → Option (List Bool)
  | [], _ => some []
  | f :: r, off => match decide (f.name = "_") || !(Nat.beq f.offset off) with
    | true => none
    | false => match g f.type with
      | some ks => match szT P f.type with
        | some n => match Nat.beq n ks.length with
          | true => match flatFs P g r (off + n) with
            | some rest => some (ks ++ rest)
            | none => none
          | false => none
        | none => none
      | none => none

def reps (ks : List Bool) : Nat → List Bool
  | 0 => []
  | n + 1 => ks ++ reps ks n

/-- The cells' kinds of a type of plain whole numbers and bools. -/
def flatT (P : Program) : Nat → TypeId → Option (List Bool)
  | 0, _ => none
  | d + 1, t =>
    match P.underlying t with
    | some .bool => some [true]
    | some (.int _) => some [false]
    | some (.struct fs) =>
      match P.stoodInHeld t with
      | true => none
      | false => flatFs P (flatT P d) fs.toList 0
    | some (.array len e) =>
      match flatT P d e with
      | some ks => match szT P e with
        | some n => match Nat.beq n ks.length with
          | true => some (reps ks len)
          | false => none
        | none => none
      | none => none
    | _ => none

/-! ### One operation -/

structure Ef where
  s : S
  u : Option (Nat × Blk)
  p : Option Prop := none

/-! ### Memory that was there -/

def rdI (W : World) (a : Addr) : Int :=
  match W.cell? a with
  | some (.int _ n) => n
  | _ => 0
structure IsI (W : World) (k : IntKind) (a : Addr) : Prop where
  is : ∃ n, W.cell? a = some (.int k n)

def layFs (P : Program) (g : TypeId → Option (List IntKind)) : List Field → Nat → Option (List IntKind)
  | [], _ => some []
  | f :: r, off => match !(Nat.beq f.offset off) with
    | true => none
    | false => match g f.type with
      | some ks => match szT P f.type with
        | some n => match Nat.beq n ks.length with
          | true => match layFs P g r (off + n) with
            | some rest => some (ks ++ rest)
            | none => none
          | false => none
        | none => none
      | none => none
/-- The cells' kinds of a type of whole numbers. -/
def layT (P : Program) : Nat → TypeId → Option (List IntKind)
  | 0, _ => none
  | d + 1, t =>
    match P.underlying t with
    | some (.int k) => some [k]
    | some (.struct fs) => layFs P (layT P d) fs.toList 0
    | _ => none
def rdCells (W : World) (a : Addr) : Nat → List IntKind → List SC
  | _, [] => []
  | i, k :: r => .v (.int k (rdI W (a.add i))) :: rdCells W a (i + 1) r
def rdSide (W : World) (a : Addr) : Nat → List IntKind → Prop
  | _, [] => True
  | i, [k] => IsI W k (a.add i)
  | i, k :: r => IsI W k (a.add i) ∧ rdSide W a (i + 1) r
def atO (a : Option Addr) : Addr := match a with
  | some a => a
  | none => ⟨0, 0, none⟩

def splice (l : List SC) (off : Nat) (m : List SC) : List SC := l.take off ++ (m ++ l.drop (off + m.length))

def cellsT : T → List SC
  | .c x => [x]
  | .agg l => l
def okC : SC → Bool
  | .v (.agg _) => false
  | .v (.tuple _) => false
  | .any => false
  | _ => true
def allC : List SC → Bool
  | [] => true
  | c :: r => match okC c with
    | true => allC r
    | false => false

def loadS (P : Program) (t : TypeId) (B : List SC) (off : Nat) : Option T :=
  match aggT P t with
  | some true => match szT P t with
    | some n => match Nat.ble (off + n) B.length with
      | true => some (.agg ((B.drop off).take n))
      | false => none
    | none => none
  | some false => match B[off]? with
    | some c => some (.c c)
    | none => none
  | none => none

def storeS (P : Program) (t : TypeId) (B : List SC) (off : Nat) (x : T) : Option (List SC) :=
  match szT P t with
  | some n => match Nat.beq (cellsT x).length n && (Nat.ble (off + n) B.length && allC (cellsT x)) with
    | true => some (splice B off (cellsT x))
    | false => none
  | none => none

def stepW (P : Program) (ρ : Operand → S) (o : Oper) : Option S :=
  match o.op with
  | .move x => some (ρ x)
  | .assign x => some (ρ x)
  | .extract x i => match ρ x with
    | .tup l => match l[i]? with
      | some y => some (.t y)
      | none => none
    | _ => none
  | .fieldAddr t x f => match ρ x with
    | .t (.c (.own k off)) => match P.underlying t with
      | some (.struct fs) => match fs[f]? with
        | some fl => match szT P fl.type with
          | some (_ + 1) => some (.t (.c (.own k (off + fl.offset))))
          | _ => none
        | none => none
      | _ => none
    | _ => none
  | .indexAddr t x ix => match ρ x with
    | .t (.c (.own k off)) => match ρ ix with
      | .t (.c (.v (.int _ n))) => match P.underlying t with
        | some (.array len e) => match decide (0 ≤ n) && decide (n < len) with
          | true => match szT P e with
            | some m => some (.t (.c (.own k (off + n.toNat * m))))
            | none => none
          | false => none
        | _ => none
      | _ => none
    | _ => none
  | .field t x f => match ρ x with
    | .t (.agg l) => match P.underlying t with
      | some (.struct fs) => match fs[f]? with
        | some fl => match aggT P fl.type with
          | some true => match szT P fl.type with
            | some n => some (.t (.agg ((l.drop fl.offset).take n)))
            | none => none
          | some false => match l[fl.offset]? with
            | some c => some (.t (.c c))
            | none => none
          | none => none
        | none => none
      | _ => none
    | _ => none
  | .index t x ix => match ρ x with
    | .t (.agg l) => match ρ ix with
      | .t (.c (.v (.int _ n))) => match P.underlying t with
        | some (.array len e) => match decide (0 ≤ n) && decide (n < len) with
          | true => match szT P e with
            | some m => match aggT P e with
              | some true => some (.t (.agg ((l.drop (n.toNat * m)).take m)))
              | some false => match l[n.toNat * m]? with
                | some c => some (.t (.c c))
                | none => none
              | none => none
            | none => none
          | false => none
        | _ => none
      | _ => none
    | _ => stepV P ρ o
  | .nilCheck x => match ρ x with
    | .t (.c (.own k off)) => some (.t (.c (.own k off)))
    | _ => stepV P ρ o
  | .binOp .eql t x y _ => match ρ x, ρ y with
    | .t (.agg l), .t (.agg m) => match flatT P 20 t with
      | some ks => match P.eqGuardType P.depth t || !(match aggT P t with
        | some true => true
        | _ => false) with
        | false => match eqC ks l m with
          | some b => some (.t (.c (.v (.bool b))))
          | none => none
        | true => none
      | none => none
    | _, _ => stepV P ρ o
  | .binOp .neq t x y _ => match ρ x, ρ y with
    | .t (.agg l), .t (.agg m) => match flatT P 20 t with
      | some ks => match P.eqGuardType P.depth t || !(match aggT P t with
        | some true => true
        | _ => false) with
        | false => match eqC ks l m with
          | some b => some (.t (.c (.v (.bool (!b)))))
          | none => none
        | true => none
      | none => none
    | _, _ => stepV P ρ o
  | _ => stepV P ρ o

def effS (P : Program) (W : World) (ρ : Operand → S) (bl : Nat → Option Blk) (key : Nat) (o : Oper) : Option Ef :=
  match o.op with
  | .alloc t => match P.info? t with
    | some i => match i.zero with
      | some z => match bl key with
        | none => match allC (cellsT (ofT z)) with
          | true => some ⟨.t (.c (.own key 0)), some (key, ⟨cellsT (ofT z), t⟩), none⟩
          | false => none
        | some _ => none
      | none => none
    | none => none
  | .box t x => match ρ x with
    | .t y => match bl key with
      | none => match allC (cellsT y) with
        | true => some ⟨.t (.c (.own key 0)), some (key, ⟨cellsT y, t⟩), none⟩
        | false => none
      | some _ => none
    | _ => none
  | .load t x => match ρ x with
    | .t (.c (.own k off)) => match bl k with
      | some B => match loadS P t B.cells off with
        | some y => some ⟨.t y, none, none⟩
        | none => none
      | none => none
    | .t (.c (.v (.pointer (some a)))) => match layT P 20 t with
      | some ks => match szT P t with
        | some n => match Nat.beq n ks.length with
          | true => match aggT P t with
            | some true => some ⟨.t (.agg (rdCells W a 0 ks)), none, some (rdSide W a 0 ks)⟩
            | some false => match ks with
              | [k] => some ⟨.t (.c (.v (.int k (rdI W a)))), none, some (IsI W k a)⟩
              | _ => none
            | none => none
          | false => none
        | none => none
      | none => none
    | _ => none
  | .indexAddr t x ix => match ρ x with
    | .t (.c (.v (.slice a n _))) => match ρ ix with
      | .t (.c (.v (.int _ i))) => match P.underlying t with
        | some (.slice e) => match szT P e with
          | some m => some ⟨.t (.c (.v (.pointer (some ((atO a).add (i.toNat * m)))))), none, some (a.isSome = true ∧ 0 ≤ i ∧ i < n)⟩
          | none => none
        | _ => none
      | _ => none
    | _ => match stepW P ρ o with
      | some s => some ⟨s, none, none⟩
      | none => none
  | .store t x y => match ρ x with
    | .t (.c (.own k off)) => match ρ y with
      | .t z => match bl k with
        | some B => match storeS P t B.cells off z with
          | some l => some ⟨undefS, some (k, ⟨l, B.t⟩), none⟩
          | none => none
        | none => none
      | _ => none
    | _ => none
  | _ => match stepW P ρ o with
    | some s => some ⟨s, none, none⟩
    | none => none

def sideP (p : Option Prop) (k : Prop) : Prop := match p with
  | none => k
  | some p => p ∧ k
def sideH (p : Option Prop) : Prop := match p with
  | none => True
  | some p => p

def putO (slots : List S) (d : Option Nat) (s : S) : List S :=
  match d with
  | some d => slots.set d s
  | none => slots
def updB (bl : Nat → Option Blk) (u : Option (Nat × Blk)) : Nat → Option Blk :=
  match u with
  | none => bl
  | some (k, B) => fun i => match Nat.beq i k with
    | true => some B
    | false => bl i
def appE (d : Option Nat) (ef : Ef) (st : St) : St := ⟨putO st.slots d ef.s, updB st.blocks ef.u, st.next⟩

def br (b : Bool) (t e : Prop) : Prop := match b with
  | true => t
  | false => e

def argsV (ρ : Operand → S) : List Operand → Option (List Value)
  | [] => some []
  | x :: r => match sV (ρ x) with
    | some v => match argsV ρ r with
      | some vs => some (v :: vs)
      | none => none
    | none => none

def target (ρ : Operand → S) (c : Call) : Option (FuncId × List Value) :=
  match c.callee with
  | .value x => match sV (ρ x) with
    | some (.func (.func f) first captured) => match argsV ρ c.args.toList with
      | some vs => some (f, first.toList ++ (vs ++ captured.toList))
      | none => none
    | _ => none
  | _ => none

def boolS : S → Option Bool
  | .t (.c (.v (.bool b))) => some b
  | _ => none
def ofB (b : Bool) : S := .t (.c (.v (.bool b)))

def doC (P : Program) (W : World) (call : FuncId → List Value → (Value → Prop) → Prop) (det : Bool) (o : Oper) (j : Nat) (st : St) (k : St → Prop) : Prop :=
  match o.op with
  | .pick c x y => match boolS (opd st.slots c) with
    | some b => br b (k ⟨putO st.slots o.dst (opd st.slots x), st.blocks, st.next⟩) (k ⟨putO st.slots o.dst (opd st.slots y), st.blocks, st.next⟩)
    | none => False
  | .call c => match target (opd st.slots) c with
    | some (f, vs) => match det with
      | true => call f vs (fun v => call f vs (fun v' => v' = v) ∧ k ⟨putO st.slots o.dst (ofV v), st.blocks, st.next⟩)
      | false => call f vs (fun v => k ⟨putO st.slots o.dst (ofV v), st.blocks, st.next⟩)
    | none => match effS P W (opd st.slots) st.blocks (st.next + j) o with
      | some ef => sideP ef.p (k (appE o.dst ef st))
      | none => False
  | _ => match effS P W (opd st.slots) st.blocks (st.next + j) o with
    | some ef => sideP ef.p (k (appE o.dst ef st))
    | none => False

def guardOf (ops : List Oper) (o : Oper) : Option (Option Nat × Bool) :=
  match o.guard with
  | none => none
  | some (g, want) => match ops[g]? with
    | some og => some (og.dst, want)
    | none => some (none, want)

def stepC (P : Program) (W : World) (call : FuncId → List Value → (Value → Prop) → Prop) (det : Bool) (ops : List Oper) (j : Nat) (o : Oper) (st : St) (k : St → Prop) : Prop :=
  match guardOf ops o with
  | none => doC P W call det o j st k
  | some (none, _) => False
  | some (some d, want) => match st.slots[d]? with
    | some s => match boolS s with
      | some b => br b
        (match want with
          | true => doC P W call det o j ⟨st.slots.set d (ofB true), st.blocks, st.next⟩ k
          | false => k ⟨putO (st.slots.set d (ofB true)) o.dst undefS, st.blocks, st.next⟩)
        (match want with
          | true => k ⟨putO (st.slots.set d (ofB false)) o.dst undefS, st.blocks, st.next⟩
          | false => doC P W call det o j ⟨st.slots.set d (ofB false), st.blocks, st.next⟩ k)
      | none => match s with
        | .tup [] => k ⟨putO st.slots o.dst undefS, st.blocks, st.next⟩
        | _ => False
    | none => False

def runC (P : Program) (W : World) (call : FuncId → List Value → (Value → Prop) → Prop) (det : Bool) (ops : List Oper) : Nat → List Oper → St → (St → Prop) → Prop
  | _, [], st, k => k st
  | j, o :: l, st, k => stepC P W call det ops j o st (fun st' => runC P W call det ops (j + 1) l st' k)

/-! ### A region that draws its order: nothing hangs on it, if each two operations that aren't ordered touch nothing in common -/

inductive Mk where
  | no
  | rd (k : Nat)
  | ru
  | wr (k : Nat)
  | al (k : Nat)
  | un

def wrtn (ops : List Oper) (t : Nat) : Bool := ops.any fun o => match o.dst with
  | some d => Nat.beq d t
  | none => false

def ownK : S → Option Nat
  | .t (.c (.own k _)) => some k
  | _ => none
def slotOk (s : S) (k : Nat) : Bool := match ownK s with
  | none => true
  | some k' => Nat.beq k' k
/-- Each operation that writes slot t takes the address of a part of what f tells, or makes block k. q: the number of the block that the first would make. -/
def writersOk (t k : Nat) (f : Operand → Option Nat) : Nat → List Oper → Bool
  | _, [] => true
  | q, o :: r => match o.dst with
    | none => writersOk t k f (q + 1) r
    | some d => match Nat.beq d t with
      | false => writersOk t k f (q + 1) r
      | true => match o.op with
        | .fieldAddr _ y _ => match f y with
          | some k' => Nat.beq k' k && writersOk t k f (q + 1) r
          | none => false
        | .indexAddr _ y _ => match f y with
          | some k' => Nat.beq k' k && writersOk t k f (q + 1) r
          | none => false
        | .alloc _ => Nat.beq q k && writersOk t k f (q + 1) r
        | .box _ _ => Nat.beq q k && writersOk t k f (q + 1) r
        | _ => false
def firstW (t : Nat) : Nat → List Oper → Option (Option Operand × Nat)
  | _, [] => none
  | q, o :: r => match o.dst with
    | none => firstW t (q + 1) r
    | some d => match Nat.beq d t with
      | false => firstW t (q + 1) r
      | true => match o.op with
        | .fieldAddr _ y _ => some (some y, 0)
        | .indexAddr _ y _ => some (some y, 0)
        | .alloc _ => some (none, q)
        | .box _ _ => some (none, q)
        | _ => none
/-- The block of which an address can only be, at any place of the region. -/
def keyO (ops : List Oper) (slots : List S) (next : Nat) : Nat → Operand → Option Nat
  | 0, _ => none
  | n + 1, x => match x with
    | .tmp t => match wrtn ops t with
      | false => ownK (opd slots (.tmp t))
      | true => match firstW t next ops with
        | none => none
        | some (y, q) => match (match y with
            | some y => keyO ops slots next n y
            | none => some q) with
          | none => none
          | some k => match writersOk t k (keyO ops slots next n) next ops && slotOk (opd slots (.tmp t)) k with
            | true => some k
            | false => none
    | _ => none

def markO (ops : List Oper) (slots : List S) (next : Nat) (j : Nat) (o : Oper) : Mk :=
  match o.op with
  | .alloc _ => .al (next + j)
  | .box _ _ => .al (next + j)
  | .load _ x => match keyO ops slots next 6 x with
    | some k => .rd k
    | none => .ru
  | .store _ x _ => match keyO ops slots next 6 x with
    | some k => .wr k
    | none => .un
  | _ => .no

def mkApart : Mk → Mk → Bool
  | .no, _ => true
  | _, .no => true
  | .rd _, .rd _ => true
  | .ru, .rd _ => true
  | .rd _, .ru => true
  | .ru, .ru => true
  | .rd a, .wr b => !(Nat.beq a b)
  | .wr a, .rd b => !(Nat.beq a b)
  | .wr a, .wr b => !(Nat.beq a b)
  | .al a, .al b => !(Nat.beq a b)
  | .al a, .rd b => !(Nat.beq a b)
  | .al a, .wr b => !(Nat.beq a b)
  | .rd _, .al _ => true
  | .ru, .al _ => true
  | .wr _, .al _ => true
  | .un, .al _ => true
  | _, _ => false

def edge (o : Oper) (j : Nat) : Bool := o.after.toList.any fun e => Region.binds .any e && Nat.beq e.on j

def pairOk (ops : Array Oper) (slots : List S) (next : Nat) (i : Nat) (oi : Oper) (j : Nat) (oj : Oper) : Bool :=
  edge oi j || (oj.apart ops oi && mkApart (markO ops.toList slots next j oj) (markO ops.toList slots next i oi))

/-- Each operation ahead of operation i. -/
def aheadOk (ops : Array Oper) (slots : List S) (next : Nat) (i : Nat) (oi : Oper) : Nat → List Oper → Bool
  | _, [] => true
  | j, oj :: l => match Nat.blt j i with
    | true => match pairOk ops slots next i oi j oj with
      | true => aheadOk ops slots next i oi (j + 1) l
      | false => false
    | false => true

def backOk (i : Nat) (o : Oper) : Bool := o.after.toList.all fun e => !Region.binds .any e || Nat.blt e.on i

def allOk (ops : Array Oper) (slots : List S) (next : Nat) : Nat → List Oper → Bool
  | _, [] => true
  | i, oi :: l => match backOk i oi && aheadOk ops slots next i oi 0 ops.toList with
    | true => allOk ops slots next (i + 1) l
    | false => false

/-! ### Code, and calls -/

def isRet : Exit → Bool
  | .normal => true
  | .ret => true
  | _ => false

def resT (P : Program) (st : St) : List ResultVar → Option (List T)
  | [] => some []
  | .tmp t :: r => match opd st.slots (.tmp t) with
    | .t x => match resT P st r with
      | some l => some (x :: l)
      | none => none
    | _ => none
  | .cell a t :: r => match opd st.slots (.tmp a) with
    | .t (.c (.own k off)) => match st.blocks k with
      | some B => match loadS P t B.cells off with
        | some x => match resT P st r with
          | some l => some (x :: l)
          | none => none
        | none => none
      | none => none
    | _ => none
def resV (P : Program) (fn : Func) (st : St) : Option Value :=
  match resT P st fn.results.toList with
  | some [x] => tV x
  | some l => match tsV l with
    | some vs => some (.tuple vs.toArray)
    | none => none
  | none => none

def litO (st : St) (c : Operand) (b : Bool) : St :=
  match c with
  | .tmp t => ⟨st.slots.set t (ofB b), st.blocks, st.next⟩
  | _ => st

def loopX (ihb : St → (Exit → St → Prop) → Prop) (k : Exit → St → Prop) (r : Nat) : St → Prop :=
  Nat.rec (motive := fun _ => St → Prop) (fun _ => False) (fun _ more st => ihb st (fun e st' => match e with
    | .normal => more st'
    | e => k e st')) r

/-! ### A loop whose rounds are not counted: what holds at its head is told -/

def lkp : List (Nat × Blk) → Nat → Option Blk
  | [], _ => none
  | (k, B) :: r, i => match Nat.beq i k with
    | true => some B
    | false => lkp r i

structure Hint where
  X : Type
  sl : X → List S
  bl : X → List (Nat × Blk)
  nx : Nat
  I : X → Prop
  mu : X → Nat

def Hint.st (h : Hint) (x : h.X) : St := ⟨h.sl x, lkp (h.bl x), h.nx⟩

def weakC : List SC → List SC → Prop
  | [], [] => True
  | .any :: l, _ :: m => weakC l m
  | c :: l, d :: m => c = d ∧ weakC l m
  | _, _ => False
def weakS : List S → List S → Prop
  | [], [] => True
  | .any :: l, _ :: m => weakS l m
  | c :: l, d :: m => c = d ∧ weakS l m
  | _, _ => False
def weakB : List (Nat × Blk) → (Nat → Option Blk) → Prop
  | [], _ => True
  | (k, B) :: r, bl => match bl k with
    | some B' => weakC B.cells B'.cells ∧ B.t = B'.t ∧ weakB r bl
    | none => False

def hasK (keys : List (Nat × Blk)) (k : Nat) : Bool := match lkp keys k with
  | some _ => true
  | none => false
def refC (keys : List (Nat × Blk)) : List SC → Bool
  | [] => true
  | .own k _ :: r => match hasK keys k with
    | true => refC keys r
    | false => false
  | _ :: r => refC keys r
def refTs (keys : List (Nat × Blk)) : List T → Bool
  | [] => true
  | .c c :: r => match refC keys [c] with
    | true => refTs keys r
    | false => false
  | .agg l :: r => match refC keys l with
    | true => refTs keys r
    | false => false
def refS (keys : List (Nat × Blk)) : List S → Bool
  | [] => true
  | .any :: r => refS keys r
  | .t x :: r => match refTs keys [x] with
    | true => refS keys r
    | false => false
  | .tup l :: r => match refTs keys l with
    | true => refS keys r
    | false => false
def refB (keys : List (Nat × Blk)) : List (Nat × Blk) → Bool
  | [] => true
  | (_, B) :: r => match refC keys B.cells with
    | true => refB keys r
    | false => false

/-- The state s1 is one of those that the hint tells at x. -/
def weakP (h : Hint) (x : h.X) (s1 : St) : Prop :=
  match refS (h.bl x) (h.sl x) && refB (h.bl x) (h.bl x) with
  | true => weakS (h.sl x) s1.slots ∧ weakB (h.bl x) s1.blocks
  | false => False

def loopH (h : Hint) (ihc : St → (Exit → St → Prop) → Prop) (k : Exit → St → Prop) (st : St) : Prop :=
  (∃ x, h.I x ∧ weakP h x st) ∧ ∀ x, h.I x → ihc (h.st x) (fun e st' => match e with
    | .normal => ∃ x', h.I x' ∧ h.mu x' < h.mu x ∧ weakP h x' st'
    | e => k e st')

def blockK (id : Nat) (k : Exit → St → Prop) (e : Exit) (st : St) : Prop :=
  match e with
  | .exit i => match Nat.beq i id with
    | true => k .normal st
    | false => k (.exit i) st
  | e => k e st

/-! ### A state made plain, for the kernel's sake: it is the same state -/

def forceC (x : SC) (k : SC → Prop) : Prop := match x with
  | .v v => k (.v v)
  | .own i o => k (.own i o)
  | .any => k .any
def forceCs : List SC → (List SC → Prop) → Prop
  | [], k => k []
  | c :: r, k => forceC c fun c' => forceCs r fun r' => k (c' :: r')
def forceT (x : T) (k : T → Prop) : Prop := match x with
  | .c c => forceC c fun c' => k (.c c')
  | .agg l => forceCs l fun l' => k (.agg l')
def forceTs : List T → (List T → Prop) → Prop
  | [], k => k []
  | c :: r, k => forceT c fun c' => forceTs r fun r' => k (c' :: r')
def forceS (x : S) (k : S → Prop) : Prop := match x with
  | .t x => forceT x fun x' => k (.t x')
  | .tup l => forceTs l fun l' => k (.tup l')
  | .any => k .any
def forceL : List S → (List S → Prop) → Prop
  | [], k => k []
  | c :: r, k => forceS c fun c' => forceL r fun r' => k (c' :: r')
def forceSt (st : St) (k : St → Prop) : Prop := forceL st.slots fun l => k ⟨l, st.blocks, st.next⟩

def execB (P : Program) (W : World) (lh : Nat → Option Hint) (ih : Code → St → (Exit → St → Prop) → Prop) (call : FuncId → List Value → (Value → Prop) → Prop) (c : Code) (st : St) (k : Exit → St → Prop) : Prop :=
  match c with
  | .skip => k .normal st
  | .ret => k .ret st
  | .exit id => k (.exit id) st
  | .seq a b => ih a st (fun e st' => match e with
    | .normal => ih b st' k
    | e => k e st')
  | .block id b => match lh id with
    | none => ih b st (blockK id k)
    | some h => match b with
      | .loop c => loopH h (ih c) (blockK id k) st
      | _ => False
  | .loop b => loopX (ih b) k 1000 st
  | .cond c t e => match boolS (opd st.slots c) with
    | some b => br b (ih t (litO st c true) k) (ih e (litO st c false) k)
    | none => False
  | .region _ ops draw => forceSt st fun st => match draw with
    | false => runC P W call false ops.toList 0 ops.toList st (fun st' => k .normal ⟨st'.slots, st'.blocks, st'.next + ops.size⟩)
    | true => match Region.noSelect ops && allOk ops st.slots st.next 0 ops.toList with
      | true => runC P W call true ops.toList 0 ops.toList st (fun st' => k .normal ⟨st'.slots, st'.blocks, st'.next + ops.size⟩)
      | false => False
  | _ => False

abbrev Hooks := FuncId → Option (List Value → Option (Prop × Value))

/-- Two facts of the program: it draws its orders mixed, and no function of it is the one that counts goroutines. -/
structure ProgOK (P : Program) : Prop where
  mixed : P.follows .mixedOrders = true
  quiet : (P.funcs.toList.all fun fn => !(fn.name == "runtime.NumGoroutine")) = true

def callW (P : Program) (hk : Hooks) (ex : Code → St → (Exit → St → Prop) → Prop) (f : FuncId) (vs : List Value) (k : Value → Prop) : Prop :=
  match P.funcs.toList[f]? with
  | some fn => match fn.body with
    | some c => match hk f with
      | some g => match g vs with
        | some (s, v) => s ∧ k v
        | none => False
      | none => ex c ⟨vs.map ofV ++ List.replicate (fn.ntmps - vs.length) undefS, fun _ => none, 0⟩ (fun e st' => match isRet e with
        | true => match resV P fn st' with
          | some v => k v
          | none => False
        | false => False)
    | none => False
  | none => False

def execN (P : Program) (W : World) (hk : Hooks) (n : Nat) : Code → St → (Exit → St → Prop) → Prop :=
  Nat.rec (motive := fun _ => Code → St → (Exit → St → Prop) → Prop) (fun _ _ _ => False) (fun _ ih => execB P W (fun _ => none) ih (callW P hk ih)) n

def execL (P : Program) (W : World) (hk : Hooks) (lh : Nat → Option Hint) (n : Nat) : Code → St → (Exit → St → Prop) → Prop :=
  Nat.rec (motive := fun _ => Code → St → (Exit → St → Prop) → Prop) (fun _ _ _ => False) (fun m ih => execB P W lh ih (callW P hk (execN P W hk m))) n

/-- The call of function f. lh: what is told of the loops of f itself. -/
def callL (P : Program) (W : World) (hk : Hooks) (lh : Nat → Option Hint) (n : Nat) : FuncId → List Value → (Value → Prop) → Prop := callW P hk (execL P W hk lh n)

end SX
end Go.Proofs.Ytegdbpbafdpkfaa
