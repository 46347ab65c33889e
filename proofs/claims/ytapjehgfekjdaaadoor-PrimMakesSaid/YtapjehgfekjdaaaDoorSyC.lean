/- A symbolic executor over compiled code: the compiling of the source's code. No condition. -/
import Derived.Test.YtapjehgfekjdaaaDoorSyB
namespace Go.Proofs.YtapjehgfekjdaaaDoor
open Go.RowKit
namespace SY
noncomputable section

def cpo (n : Nat) : Operand → Option Opd
  | .tmp t => match Nat.blt t n with
    | true => some (.t (pth t))
    | false => none
  | .const v => some (.k (ofV v))
  | .global g => some (.k (ofV (.pointer (some ⟨g, 0, none⟩))))
  | .func f => some (.k (ofV (.func (.func f) #[] #[])))
def cpl (n : Nat) : List Operand → Option (List Opd)
  | [] => some []
  | x :: l => match cpo n x with
    | some y => match cpl n l with
      | some r => some (y :: r)
      | none => none
    | none => none
def c1 (n : Nat) (x : Operand) (f : Opd → CO) : CO := match cpo n x with
  | some x => f x
  | none => .bad
def c2 (n : Nat) (x y : Operand) (f : Opd → Opd → CO) : CO := match cpo n x with
  | some x => match cpo n y with
    | some y => f x y
    | none => .bad
  | none => .bad
def cO (n : Nat) (x : Option Operand) (f : Option Opd → CO) : CO := match x with
  | none => f none
  | some x => match cpo n x with
    | some x => f (some x)
    | none => .bad
/-- The kinds of an element's cells. -/
def ksT (P : Program) (e : TypeId) : Option (List CK) := match flatT P 20 e with
  | some ks => match szT P e with
    | some m => match Nat.beq m ks.length && Nat.blt 0 m with
      | true => some ks
      | false => none
    | none => none
  | none => none
/-- The zero of a type of plain cells: all cells 0. -/
def zeroI (P : Program) (ks : List CK) (e : TypeId) : Bool := match P.info? e with
  | some i => match i.zero with
    | some z => match toIs ks (cellsT (ofT z)) with
      | some l => l.all fun x => decide (x = 0)
      | none => false
    | none => false
  | none => false
def smallE (P : Program) (e : TypeId) : Bool := match P.info? e with
  | some i => Nat.ble i.bytes 128 && (match i.zero with
    | some z => Nat.beq z.cells.size i.size
    | none => false)
  | none => false
def zeroC (P : Program) (t : TypeId) : Option (List SC) := match P.info? t with
  | some i => match i.zero with
    | some z => match allC (cellsT (ofT z)) with
      | true => some (cellsT (ofT z))
      | false => none
    | none => none
  | none => none
def placesF (P : Program) : List Field → Option (List (Nat × Nat))
  | [] => some []
  | f :: r => match szT P f.type with
    | some n => match placesF P r with
      | some l => some ((f.offset, n) :: l)
      | none => none
    | none => none
def cparts (n : Nat) (pl : Nat → Option (Nat × Nat)) : List (Nat × Operand) → Option (List (Nat × Nat × Opd))
  | [] => some []
  | (i, x) :: r => match pl i, cpo n x with
    | some (o, m), some x => match cparts n pl r with
      | some l => some ((o, m, x) :: l)
      | none => none
    | _, _ => none

def cgen (n : Nat) (o : Oper) : CO := match cpl n o.op.operands.toList with
  | some _ => .gen o
  | none => .bad

/-- A type of one cell whose zero is a nil slice. -/
def nilE (P : Program) (e : TypeId) : Bool := match P.info? e with
  | some i => match i.zero with
    | some v => isNil v && Nat.beq i.size 1
    | none => false
  | none => false
/-- What a call that answers a slice answers. -/
def slTy (P : Program) (t : TypeId) : Option (List CK × TypeId) := match P.underlying t with
  | some (.slice e) => match ksT P e with
    | some ks => some (ks, e)
    | none => none
  | _ => none

def cop (P : Program) (n : Nat) (o : Oper) : CO :=
  match o.op with
  | .move x => c1 n x .mv
  | .assign x => c1 n x .mv
  | .nilCheck x => c1 n x .nilc
  | .extract x i => c1 n x (.ext · i)
  | .fieldAddr t x f => match P.underlying t with
    | some (.struct fs) => match fs[f]? with
      | some fl => match szT P fl.type with
        | some (_ + 1) => c1 n x (.fadr · fl.offset)
        | _ => .bad
      | none => .bad
    | _ => .bad
  | .indexAddr t x ix => match P.underlying t with
    | some (.array len e) => match szT P e with
      | some m => c2 n x ix (.iadrA · · len m)
      | none => .bad
    | some (.slice e) => match szT P e with
      | some m => c2 n x ix (.iadrS · · m)
      | none => .bad
    | _ => .bad
  | .field t x f => match P.underlying t with
    | some (.struct fs) => match fs[f]? with
      | some fl => match aggT P fl.type, szT P fl.type with
        | some ag, some m => c1 n x (.fld · fl.offset m ag)
        | _, _ => .bad
      | none => .bad
    | _ => .bad
  | .index t x ix => match P.underlying t with
    | some (.array len e) => match aggT P e, szT P e with
      | some ag, some m => c2 n x ix (.idx · · len m ag)
      | _, _ => .bad
    | some .string => c2 n x ix .sidx
    | _ => .bad
  | .binOp op t x y _ => match P.underlying t with
    | some (.int _) => c2 n x y (.bin op)
    | some .string => c2 n x y (.bin op)
    | some .bool => match op with
      | .eql => c2 n x y (.eqb false)
      | .neq => c2 n x y (.eqb true)
      | _ => .bad
    | some (.float .f64) => match isAr op with
      | true => c2 n x y (.fa op)
      | false => match isFc op with
        | true => c2 n x y (.flc op)
        | false => .bad
    | _ => match aggT P t with
      | some true => match flatT P 20 t, P.eqGuardType P.depth t with
        | some ks, false => match op with
          | .eql => c2 n x y (.eqa false ks)
          | .neq => c2 n x y (.eqa true ks)
          | _ => .bad
        | _, _ => .bad
      | _ => .bad
  | .unOp op t x => match P.underlying t with
    | some (.int _) => c1 n x (.un op)
    | some .bool => c1 n x (.un op)
    | some (.float _) => cgen n o
    | _ => .bad
  | .convert s d x => match P.underlying s, P.underlying d with
    | some (.int _), some (.int k) => c1 n x (.cvt k)
    | some (.slice e), some .string => match P.underlying e with
      | some (.int .u8) => c1 n x .b2s
      | _ => .bad
    | some (.int _), some (.float .f64) => c1 n x .i2f
    | some (.float .f64), some (.int k) => c1 n x (.f2i k)
    | some _, some _ => cgen n o
    | _, _ => .bad
  | .build t ps => match zeroC P t with
    | some z => match P.underlying t with
      | some (.struct fs) => match placesF P fs.toList with
        | some pl => match cparts n (nth pl) ps.toList with
          | some l => .bld z l
          | none => .bad
        | none => .bad
      | some (.array _ e) => match szT P e with
        | some m => match cparts n (fun i => some (i * m, m)) ps.toList with
          | some l => .bld z l
          | none => .bad
        | none => .bad
      | _ => .bad
    | none => .bad
  | .alloc t => match zeroC P t with
    | some z => .alloc z t
    | none => .bad
  | .box t x => c1 n x (.box t)
  | .load t x => match aggT P t, szT P t with
    | some ag, some m => c1 n x (.load (nOf ag m) ag)
    | _, _ => .bad
  | .store t x y => match szT P t with
    | some m => c2 n x y (.store m)
    | none => .bad
  | .pick c x y => match cpo n c with
    | some c => c2 n x y (.pick c)
    | none => .bad
  | .makeFunc (.func f) first caps => match first.toList with
    | [] => match cpl n caps.toList with
      | some l => .mkf f l
      | none => .bad
    | _ => .bad
  | .buildSlice t len ps => match P.underlying t with
    | some (.slice e) => match ksT P e with
      | some ks => match zeroI P ks e && Nat.ble (len * ks.length) 16777216 with
        | true => match cparts n (fun i => some (i * ks.length, ks.length)) ps.toList with
          | some l => .bsl ks e (List.replicate (len * ks.length) 0) l
          | none => .bad
        | false => .bad
      | none => match nilE P e with
        | true => match cparts n (fun i => some (i, 1)) ps.toList with
          | some l => .bns len l
          | none => .bad
        | false => .bad
    | _ => .bad
  | .slice t x lo hi mx => match P.underlying t with
    | some (.slice e) => match ksT P e with
      | some ks => c1 n x fun x => cO n lo fun lo => cO n hi fun hi => cO n mx fun mx => .slc ks e x lo hi mx
      | none => .bad
    | _ => .bad
  | .call c => match c.callee with
    | .builtin .len => match c.args.toList, c.argTypes.toList with
      | [x], [t] => match P.underlying t with
        | some (.slice _) => c1 n x (.lens false)
        | some .string => c1 n x (.lens true)
        | _ => .bad
      | _, _ => .bad
    | .builtin .append => match c.args.toList, c.argTypes.toList with
      | [x, y], [t, t'] => match P.underlying t with
        | some (.slice e) => match ksT P e with
          | some ks => match Nat.beq t t' && smallE P e with
            | true => c2 n x y (.app ks e)
            | false => .bad
          | none => .bad
        | _ => .bad
      | _, _ => .bad
    | .builtin .max => match c.args.toList with
      | [x, y] => c2 n x y (.mm true)
      | _ => .bad
    | .builtin .min => match c.args.toList with
      | [x, y] => c2 n x y (.mm false)
      | _ => .bad
    | .value f => match cpo n f with
      | some f => match cpl n c.args.toList with
        | some l => match slTy P o.type with
          | some (ks, e) => .callS ks e f l
          | none => .call f l
        | none => .bad
      | none => .bad
    | _ => .bad
  | _ => .bad

/-! ### Regions that draw their order -/

def paEq : Pa → Pa → Bool
  | .e, .e => true
  | .l p, .l q => paEq p q
  | .r p, .r q => paEq p q
  | _, _ => false
def rtEq : Rt → Rt → Bool
  | .sl p, .sl q => paEq p q
  | .mk p, .mk q => Nat.beq p q
  | _, _ => false
def wrtn (ops : List Oper) (t : Nat) : Bool := ops.any fun o => match o.dst with
  | some d => Nat.beq d t
  | none => false
/-- Each operation that writes slot t takes the address of a part of what f tells, or makes block k. q: the number of the block that the first would make. -/
def writersOk (t : Nat) (r : Rt) (f : Operand → Option Rt) : Nat → List Oper → Bool
  | _, [] => true
  | q, o :: l => match o.dst with
    | none => writersOk t r f (q + 1) l
    | some d => match Nat.beq d t with
      | false => writersOk t r f (q + 1) l
      | true => match o.op with
        | .fieldAddr _ y _ => match f y with
          | some r' => rtEq r' r && writersOk t r f (q + 1) l
          | none => false
        | .indexAddr _ y _ => match f y with
          | some r' => rtEq r' r && writersOk t r f (q + 1) l
          | none => false
        | .move y => match f y with
          | some r' => rtEq r' r && writersOk t r f (q + 1) l
          | none => false
        | .nilCheck y => match f y with
          | some r' => rtEq r' r && writersOk t r f (q + 1) l
          | none => false
        | .alloc _ => rtEq (.mk q) r && writersOk t r f (q + 1) l
        | .box _ _ => rtEq (.mk q) r && writersOk t r f (q + 1) l
        | _ => false
def firstW (t : Nat) : Nat → List Oper → Option (Option Operand × Nat)
  | _, [] => none
  | q, o :: r => match o.dst with
    | none => firstW t (q + 1) r
    | some d => match Nat.beq d t with
      | false => firstW t (q + 1) r
      | true => match o.op with
        | .fieldAddr _ y _ => some (some y, 0)
        | .indexAddr _ y _ => some (some y, 0)
        | .move y => some (some y, 0)
        | .nilCheck y => some (some y, 0)
        | .alloc _ => some (none, q)
        | .box _ _ => some (none, q)
        | _ => none
/-- The block of which an address can only be, at any place of the region. -/
def rootO (ops : List Oper) : Nat → Operand → Option Rt
  | 0, _ => none
  | n + 1, x => match x with
    | .tmp t => match wrtn ops t with
      | false => some (.sl (pth t))
      | true => match firstW t 0 ops with
        | none => none
        | some (y, q) => match (match y with
            | some y => rootO ops n y
            | none => some (.mk q)) with
          | none => none
          | some r => match writersOk t r (rootO ops n) 0 ops with
            | true => some r
            | false => none
    | _ => none

inductive Mk where
  | no
  | rd (r : Rt)
  | ru
  | wr (r : Rt)
  | al (q : Nat)
  | un
  | tk
  | nt
def markO (P : Program) (ops : List Oper) (j : Nat) (o : Oper) : Mk :=
  match o.op with
  | .alloc _ => .al j
  | .box _ _ => .al j
  | .load _ x => match rootO ops 6 x with
    | some r => .rd r
    | none => .ru
  | .store _ x _ => match rootO ops 6 x with
    | some r => .wr r
    | none => .un
  | .buildSlice _ _ _ => .nt
  | .slice _ _ _ _ (some _) => .nt
  | .call c => match c.callee with
    | .builtin .append => .tk
    | .value _ => match slTy P o.type with
      | some _ => .nt
      | none => .no
    | _ => .no
  | _ => .no
def needNe (a b : Rt) : Option (List (Rt × Rt)) := match a, b with
  | .mk p, .mk q => match Nat.beq p q with
    | true => none
    | false => some []
  | a, b => some [(a, b)]
/-- What two operations that aren't ordered ask of the state. -/
def mkNeed : Mk → Mk → Option (List (Rt × Rt))
  | .no, _ => some []
  | _, .no => some []
  | .rd _, .rd _ => some []
  | .ru, .rd _ => some []
  | .rd _, .ru => some []
  | .ru, .ru => some []
  | .rd a, .wr b => needNe a b
  | .wr a, .rd b => needNe a b
  | .wr a, .wr b => needNe a b
  | .al a, .al b => needNe (.mk a) (.mk b)
  | .al a, .rd b => needNe (.mk a) b
  | .al a, .wr b => needNe (.mk a) b
  | .rd _, .al _ => some []
  | .ru, .al _ => some []
  | .wr _, .al _ => some []
  | .un, .al _ => some []
  | .tk, .tk => none
  | .nt, .tk => none
  | .tk, _ => some []
  | _, .tk => some []
  | .nt, _ => some []
  | _, .nt => some []
  | _, _ => none
def edge (o : Oper) (j : Nat) : Bool := o.after.toList.any fun e => Region.binds .any e && Nat.beq e.on j
def backOk (i : Nat) (o : Oper) : Bool := o.after.toList.all fun e => !Region.binds .any e || Nat.blt e.on i
/-- Is j bound to come before o, by some steps? -/
def reachO (ops : Array Oper) : Nat → Oper → Nat → Bool
  | 0, o, j => edge o j
  | f + 1, o, j => edge o j || o.after.toList.any fun e => Region.binds .any e && (match ops[e.on]? with
    | some o' => reachO ops f o' j
    | none => false)
def needO (P : Program) (ops : Array Oper) (i : Nat) (oi : Oper) (j : Nat) (oj : Oper) : Option (List (Rt × Rt)) := match oj.apart ops oi with
  | true => mkNeed (markO P ops.toList j oj) (markO P ops.toList i oi)
  | false => none
def aheadP (P : Program) (ops : Array Oper) (i : Nat) (oi : Oper) : Nat → List Oper → Option (List (Rt × Rt))
  | _, [] => some []
  | j, oj :: l => match Nat.blt j i with
    | true => match edge oi j with
      | true => aheadP P ops i oi (j + 1) l
      | false => match needO P ops i oi j oj with
        | some q => match aheadP P ops i oi (j + 1) l with
          | some r => some (q ++ r)
          | none => none
        | none => match reachO ops 3 oi j with
          | true => aheadP P ops i oi (j + 1) l
          | false => none
    | false => some []
def allP (P : Program) (ops : Array Oper) : Nat → List Oper → Option (List (Rt × Rt))
  | _, [] => some []
  | i, oi :: l => match backOk i oi with
    | true => match aheadP P ops i oi 0 ops.toList with
      | some r => match allP P ops (i + 1) l with
        | some r' => some (r ++ r')
        | none => none
      | none => none
    | false => none
def slotsD (ops : List Oper) : List Oper → List (Pa × Rt)
  | [] => []
  | o :: l => match o.dst with
    | none => slotsD ops l
    | some t => match rootO ops 6 (.tmp t) with
      | some r => (pth t, r) :: slotsD ops l
      | none => slotsD ops l
def dynOf (P : Program) (ops : Array Oper) : Option Dyn := match Region.noSelect ops with
  | true => match allP P ops 0 ops.toList with
    | some ps => some ⟨slotsD ops.toList ops.toList, ps⟩
    | none => none
  | false => none

/-! ### Code -/

def dstsOk (n : Nat) (ops : List Oper) : Bool := ops.all fun o => match o.dst with
  | some d => Nat.blt d n
  | none => true
def guardOf (ops : List Oper) (o : Oper) : Option (Option Nat × Bool) :=
  match o.guard with
  | none => none
  | some (g, want) => match ops[g]? with
    | some og => some (og.dst, want)
    | none => some (none, want)
def optP : Option Nat → Option Pa
  | some d => some (pth d)
  | none => none
def cguard : Option (Option Nat × Bool) → Option (Option Pa × Bool)
  | none => none
  | some (g, w) => some (optP g, w)
def cr (P : Program) (n : Nat) (ops : List Oper) (o : Oper) : CR := ⟨optP o.dst, cguard (guardOf ops o), cop P n o⟩
def crs (P : Program) (n : Nat) (ops : List Oper) : List Oper → List CR
  | [] => []
  | o :: l => cr P n ops o :: crs P n ops l
def region (P : Program) (n : Nat) (ops : Array Oper) (draw : Bool) : CC :=
  match dstsOk n ops.toList with
  | true => match draw with
    | false => .rg (crs P n ops.toList ops.toList) ops.toList.length none
    | true => match dynOf P ops with
      | some d => .rg (crs P n ops.toList ops.toList) ops.toList.length (some d)
      | none => .bad
  | false => .bad

/-- The slots that code writes. -/
def wrO : List Oper → List Nat
  | [] => []
  | o :: l => match o.dst with
    | some d => d :: wrO l
    | none => wrO l
def wrC : Code → List Nat
  | .region _ ops _ => wrO ops.toList
  | .seq a b => wrC a ++ wrC b
  | .cond _ a b => wrC a ++ wrC b
  | .block _ b => wrC b
  | .loop b => wrC b
  | _ => []
/-- The number of a place between two parts: by the first slot that the first one writes. -/
def jid (c : Code) : List Nat → Nat
  | t :: _ => match c with
    | .seq _ _ => t + 20000
    | _ => t + 10000
  | [] => 0
def dedup : List Nat → List Nat
  | [] => []
  | a :: l => match (dedup l).any (Nat.beq a) with
    | true => dedup l
    | false => a :: dedup l

def cc (P : Program) (n : Nat) (pid : Nat) : Code → CC
  | .skip => .skip
  | .region _ ops draw => region P n ops draw
  | .seq a b => .seq (jid a (wrC a)) ((dedup (wrC a)).map pth) (cc P n 0 a) (cc P n 0 b)
  | .cond c a b => match cpo n c with
    | some c => .cond c (cc P n 0 a) (cc P n 0 b)
    | none => .bad
  | .block id b => .block id (cc P n (id + 1) b)
  | .loop b => .loop pid ((dedup (wrC b)).map pth) (cc P n 0 b)
  | .exit id => .exit id
  | .ret => .ret
  | _ => .bad

def cres (P : Program) (n : Nat) : List ResultVar → Option (List CRes)
  | [] => some []
  | .tmp t :: l => match Nat.blt t n with
    | true => match cres P n l with
      | some r => some (.tmp (pth t) :: r)
      | none => none
    | false => none
  | .cell a t :: l => match Nat.blt a n with
    | true => match aggT P t, szT P t with
      | some ag, some m => match cres P n l with
        | some r => some (.cell (pth a) (nOf ag m) ag :: r)
        | none => none
      | _, _ => none
    | false => none
def cfOf (P : Program) (fn : Func) : Option CF := match fn.body with
  | some c => match cres P fn.ntmps fn.results.toList with
    | some r => some ⟨fn.ntmps, r, cc P fn.ntmps 0 c⟩
    | none => none
  | none => none

end
end SY
end Go.Proofs.YtapjehgfekjdaaaDoor
