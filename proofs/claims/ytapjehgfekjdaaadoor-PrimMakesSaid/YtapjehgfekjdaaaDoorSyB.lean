/- A symbolic executor over compiled code: code, calls, loops with hints; the compiling of the source's code. No condition. -/
import Derived.Test.YtapjehgfekjdaaaDoorSyA
namespace Go.Proofs.YtapjehgfekjdaaaDoor
open Go.RowKit
namespace SY
noncomputable section

def br (b : Bool) (t e : Prop) : Prop := match b with
  | true => t
  | false => e

/-! A value made plain, for the kernel's sake: it is the same value -/
def forceC (x : SC) (k : SC → Prop) : Prop := match x with
  | .v v => k (.v v)
  | .own i o => k (.own i o)
  | .sl ks xs t => k (.sl ks xs t)
  | .st xs => k (.st xs)
  | .any => k .any
def forceCs (l : List SC) : (List SC → Prop) → Prop :=
  List.rec (motive := fun _ => (List SC → Prop) → Prop) (fun k => k []) (fun c _ ih k => forceC c fun c' => ih fun r' => k (c' :: r')) l
def forceT (x : T) (k : T → Prop) : Prop := match x with
  | .c c => forceC c fun c' => k (.c c')
  | .agg l => forceCs l fun l' => k (.agg l')
def forceTs (l : List T) : (List T → Prop) → Prop :=
  List.rec (motive := fun _ => (List T → Prop) → Prop) (fun k => k []) (fun c _ ih k => forceT c fun c' => ih fun r' => k (c' :: r')) l
def forceS (x : S) (k : S → Prop) : Prop := match x with
  | .t x => forceT x fun x' => k (.t x')
  | .tup l => forceTs l fun l' => k (.tup l')
  | .clo f l => forceCs l fun l' => k (.clo f l')
  | .ea l => forceCs l fun l' => k (.ea l')
  | .nest l => forceCs l fun l' => k (.nest l')
  | .fp i o j => k (.fp i o j)
  | .any => k .any
def forceB (x : Blk) (k : Blk → Prop) : Prop := match x with
  | .cells l t => forceCs l fun l' => k (.cells l' t)
  | .flat ks xs t => k (.flat ks xs t)
  | .tok e g => k (.tok e g)

def putO (sl : Tr S) (d : Option Pa) (s : S) : Tr S := match d with
  | some p => sl.set undefS s p
  | none => sl
def updB (bl : Tr (Option Blk)) (u : Option (Nat × Blk)) : Tr (Option Blk) := match u with
  | none => bl
  | some (k, B) => bl.set none (some B) (pth k)
def appE (d : Option Pa) (ef : Ef) (st : St) : St := ⟨putO st.sl d ef.s, updB st.bl ef.u, st.nx⟩
/-- The state behind an effect, made plain. -/
def appK (d : Option Pa) (ef : Ef) (st : St) (k : St → Prop) : Prop :=
  forceS ef.s fun s => match ef.u with
    | none => k ⟨putO st.sl d s, st.bl, st.nx⟩
    | some (i, B) => forceB B fun B => k ⟨putO st.sl d s, st.bl.set none (some B) (pth i), st.nx⟩

/-! ### Calls -/

/-- A value without addresses of the call's own; nothing to be put behind its slices. -/
def pureC : SC → Option SC
  | .v x => some (.v x)
  | .own _ _ => none
  | .sl ks xs _ => some (.sl ks xs none)
  | .st xs => some (.st xs)
  | .any => some .any
def pureCs (l : List SC) : Option (List SC) :=
  List.rec (motive := fun _ => Option (List SC)) (some []) (fun c _ ih => match pureC c with
    | some x => match ih with
      | some xs => some (x :: xs)
      | none => none
    | none => none) l
def pureT : T → Option T
  | .c x => match pureC x with
    | some y => some (.c y)
    | none => none
  | .agg l => match pureCs l with
    | some m => some (.agg m)
    | none => none
def pureTs (l : List T) : Option (List T) :=
  List.rec (motive := fun _ => Option (List T)) (some []) (fun c _ ih => match pureT c with
    | some x => match ih with
      | some xs => some (x :: xs)
      | none => none
    | none => none) l
def pureS : S → Option S
  | .t x => match pureT x with
    | some y => some (.t y)
    | none => none
  | .tup l => match pureTs l with
    | some m => some (.tup m)
    | none => none
  | .nest l => match pureCs l with
    | some m => some (.nest m)
    | none => none
  | _ => none
def pureL (l : List S) : Option (List S) :=
  List.rec (motive := fun _ => Option (List S)) (some []) (fun c _ ih => match pureS c with
    | some x => match ih with
      | some xs => some (x :: xs)
      | none => none
    | none => none) l

abbrev Hk := List S → Option (Prop × S)
abbrev Hooks := Nat → Option Hk
/-- A call in the caller's memory: what it returns, the memory, the next number. -/
abbrev Inl := Nat → List S → Tr (Option Blk) → Nat → (S → Tr (Option Blk) → Nat → Prop) → Prop

def iso (inl : Inl) (f : Nat) (args : List S) (k : S → Prop) : Prop :=
  match pureL args with
  | some as => inl f as .lf 0 fun r _ _ => match pureS r with
    | some r => k r
    | none => False
  | none => False

/-- A slice that a callee made, with a number of the caller's. -/
def rebase (ks : List CK) (e : TypeId) (key : Nat) (r : S) (bl : Tr (Option Blk)) : Option S :=
  match r with
  | .t (.c (.sl ks' xs (some (k, g)))) => match lkB bl k with
    | some (.tok e' g') => match Nat.beq e e' && (Nat.beq g g' && ksEq ks ks') with
      | true => some (sc (.sl ks xs (some (key, key + key))))
      | false => some (sc (.sl ks' xs none))
    | _ => some (sc (.sl ks' xs none))
  | r => pureS r
def isoT (inl : Inl) (f : Nat) (args : List S) (ks : List CK) (e : TypeId) (key : Nat) (k : S → Prop) : Prop :=
  match pureL args with
  | some as => inl f as .lf 0 fun r bl _ => match rebase ks e key r bl with
    | some r => k r
    | none => False
  | none => False

def target (sl : Tr S) (f : Opd) (args : List Opd) : Option (Nat × List S) :=
  match opv sl f with
  | .t (.c (.v (.func (.func f) first captured))) => some (f, first.toList.map ofV ++ (args.map (opv sl) ++ captured.toList.map ofV))
  | .clo f caps => some (f, args.map (opv sl) ++ caps.map sc)
  | _ => none

/-! ### Regions -/

def hookC (hk : Hooks) (f : Nat) (args : List S) (k : S → Prop) (other : Prop) : Prop :=
  match hk f with
  | some g => match pureL args with
    | some as => match g as with
      | some (s, r) => match pureS r with
        | some r => s ∧ k r
        | none => False
      | none => False
    | none => False
  | none => other

def doC (P : Program) (hk : Hooks) (inl : Inl) (det : Bool) (n : Nat) (o : CR) (j : Nat) (st : St) (k : St → Prop) : Prop :=
  match o.op with
  | .pick c x y => match boolS (opv st.sl c) with
    | some b => br b (forceS (opv st.sl x) fun s => k ⟨putO st.sl o.dst s, st.bl, st.nx⟩) (forceS (opv st.sl y) fun s => k ⟨putO st.sl o.dst s, st.bl, st.nx⟩)
    | none => False
  | .call f args => match target st.sl f args with
    | some (f, as) => hookC hk f as (fun r => forceS r fun r => k ⟨putO st.sl o.dst r, st.bl, st.nx⟩) (match det with
      | true => iso inl f as (fun r => iso inl f as (fun r' => r' = r) ∧ forceS r fun r => k ⟨putO st.sl o.dst r, st.bl, st.nx⟩)
      | false => inl f as st.bl (st.nx + n) (fun r bl nx => forceS r fun r => k ⟨putO st.sl o.dst r, bl, nx⟩))
    | none => False
  | .callS ks e f args => match target st.sl f args with
    | some (f, as) => match det with
      | false => hookC hk f as (fun r => forceS r fun r => k ⟨putO st.sl o.dst r, st.bl, st.nx⟩) (inl f as st.bl (st.nx + n) (fun r bl nx => forceS r fun r => k ⟨putO st.sl o.dst r, bl, nx⟩))
      | true => match lkB st.bl (st.nx + j) with
        | none => hookC hk f as (fun r => appK o.dst ⟨r, some (st.nx + j, .tok e (st.nx + j + (st.nx + j))), true⟩ st k)
            (isoT inl f as ks e (st.nx + j) (fun r => isoT inl f as ks e (st.nx + j) (fun r' => r' = r) ∧ appK o.dst ⟨r, some (st.nx + j, .tok e (st.nx + j + (st.nx + j))), true⟩ st k))
        | some _ => False
    | none => False
  | .fa op x y => faK det (.ar op) (opv st.sl x) (opv st.sl y) (fun s => k ⟨putO st.sl o.dst s, st.bl, st.nx⟩)
  | .mm m x y => match fltS (opv st.sl x) with
    | some _ => faK det (.mx m) (opv st.sl x) (opv st.sl y) (fun s => k ⟨putO st.sl o.dst s, st.bl, st.nx⟩)
    | none => match effC P st.sl st.bl (st.nx + j) (.mm m x y) with
      | some ef => br ef.p (appK o.dst ef st k) False
      | none => False
  | op => match effC P st.sl st.bl (st.nx + j) op with
    | some ef => br ef.p (appK o.dst ef st k) False
    | none => False

def stepC (P : Program) (hk : Hooks) (inl : Inl) (det : Bool) (n : Nat) (o : CR) (j : Nat) (st : St) (k : St → Prop) : Prop :=
  match o.g with
  | none => doC P hk inl det n o j st k
  | some (none, _) => False
  | some (some p, want) => match st.sl.get undefS p with
    | .t (.c (.v (.bool b))) => br b
        (match want with
          | true => doC P hk inl det n o j ⟨st.sl.set undefS (ofB true) p, st.bl, st.nx⟩ k
          | false => k ⟨putO (st.sl.set undefS (ofB true) p) o.dst undefS, st.bl, st.nx⟩)
        (match want with
          | true => k ⟨putO (st.sl.set undefS (ofB false) p) o.dst undefS, st.bl, st.nx⟩
          | false => doC P hk inl det n o j ⟨st.sl.set undefS (ofB false) p, st.bl, st.nx⟩ k)
    | .tup [] => k ⟨putO st.sl o.dst undefS, st.bl, st.nx⟩
    | _ => False

def runC (P : Program) (hk : Hooks) (inl : Inl) (det : Bool) (n : Nat) (ops : List CR) : Nat → St → (St → Prop) → Prop :=
  List.rec (motive := fun _ => Nat → St → (St → Prop) → Prop) (fun _ st k => k st) (fun o _ ih j st k => stepC P hk inl det n o j st (fun st' => ih (j + 1) st' k)) ops

/-! ### A region that draws its order: what of it hangs on the state -/

/-- Of which block an address is: of the one that a slot tells at the region's begin, or of the one that operation q makes. -/
inductive Rt where
  | sl (p : Pa)
  | mk (q : Nat)
structure Dyn where
  slots : List (Pa × Rt)
  apart : List (Rt × Rt)

def ownK : S → Option Nat
  | .t (.c (.own k _)) => some k
  | .fp k _ _ => some k
  | _ => none
def krt (st : St) : Rt → Option Nat
  | .sl p => ownK (st.sl.get undefS p)
  | .mk q => some (st.nx + q)
def neO (a b : Option Nat) : Bool := match a with
  | none => true
  | some a => match b with
    | none => true
    | some b => !(Nat.beq a b)
def eqO (a b : Option Nat) : Bool := match a with
  | none => true
  | some a => match b with
    | none => false
    | some b => Nat.beq a b
def slotsOk (st : St) (l : List (Pa × Rt)) : Bool :=
  List.rec (motive := fun _ => Bool) true (fun x _ ih => eqO (ownK (st.sl.get undefS x.1)) (krt st x.2) && ih) l
def apartOk (st : St) (l : List (Rt × Rt)) : Bool :=
  List.rec (motive := fun _ => Bool) true (fun x _ ih => neO (krt st x.1) (krt st x.2) && ih) l
def dynOk (st : St) (d : Dyn) : Bool := slotsOk st d.slots && apartOk st d.apart
/-- Slots that hold what an earlier round left are read as anything. -/
def staleL (st : St) (l : List (Pa × Rt)) : Tr S :=
  List.rec (motive := fun _ => Tr S) st.sl (fun x _ ih => match eqO (ownK (st.sl.get undefS x.1)) (krt st x.2) with
    | true => ih
    | false => ih.set undefS .any x.1) l
def dynSt (st : St) (d : Dyn) : St := ⟨staleL st d.slots, st.bl, st.nx⟩

/-! ### Code -/

inductive CC where
  | skip
  | rg (ops : List CR) (n : Nat) (d : Option Dyn)
  | seq (id : Nat) (wr : List Pa) (a b : CC)
  | cond (c : Opd) (a b : CC)
  | block (id : Nat) (b : CC)
  | loop (id : Nat) (wr : List Pa) (b : CC)
  | exit (id : Nat)
  | ret
  | bad

inductive CRes where
  | tmp (p : Pa)
  | cell (p : Pa) (n : Nat) (ag : Bool)

structure CF where
  nt : Nat
  res : List CRes
  code : CC

def isRet : Exit → Bool
  | .normal => true
  | .ret => true
  | _ => false
def resT (st : St) (l : List CRes) : Option (List T) :=
  List.rec (motive := fun _ => Option (List T)) (some []) (fun r _ ih => match r with
    | .tmp p => match st.sl.get undefS p with
      | .t x => match ih with
        | some l => some (x :: l)
        | none => none
      | _ => none
    | .cell p n ag => match st.sl.get undefS p with
      | .t (.c (.own k off)) => match lkB st.bl k with
        | some (.cells B _) => match partS B off n ag with
          | some x => match ih with
            | some l => some (x :: l)
            | none => none
          | none => none
        | _ => none
      | _ => none) l
def resS (st : St) (l : List CRes) : Option S :=
  match resT st l with
  | some [x] => some (.t x)
  | some l => some (.tup l)
  | none => none

def litO (st : St) (c : Opd) (b : Bool) : St :=
  match c with
  | .t p => ⟨st.sl.set undefS (ofB b) p, st.bl, st.nx⟩
  | _ => st

def loopX (ihb : St → (Exit → St → Prop) → Prop) (k : Exit → St → Prop) (r : Nat) : St → Prop :=
  Nat.rec (motive := fun _ => St → Prop) (fun _ => False) (fun _ more st => ihb st (fun e st' => match e with
    | .normal => more st'
    | e => k e st')) r

/-! ### A loop whose rounds are not counted: what holds at its head is told -/

def lkp (l : List (Nat × Blk)) : Nat → Option Blk :=
  List.rec (motive := fun _ => Nat → Option Blk) (fun _ => none) (fun x _ ih i => match Nat.beq i x.1 with
    | true => some x.2
    | false => ih i) l
def trB (l : List (Nat × Blk)) : Tr (Option Blk) :=
  List.rec (motive := fun _ => Tr (Option Blk)) .lf (fun x _ ih => ih.set none (some x.2) (pth x.1)) l

/-- sl: the slots that a round turns and that are read later, and those that name blocks; bl: the memory that is read later; tp: where the slices lie behind which something may be put: their number, and the slot, or the block and the place in it. -/
structure Hint where
  X : Type
  sl : X → List (Pa × S)
  bl : X → List (Nat × Blk)
  tp : List (Nat × (Pa ⊕ (Nat × Nat)))
  nx : Nat
  I : X → Prop
  mu : X → Nat

def kills (wr : List Pa) (sl : Tr S) : Tr S := List.rec (motive := fun _ => Tr S) sl (fun p _ ih => ih.set undefS .any p) wr
def overs (l : List (Pa × S)) (sl : Tr S) : Tr S := List.rec (motive := fun _ => Tr S) sl (fun x _ ih => ih.set undefS x.2 x.1) l

def hasB (bl : List (Nat × Blk)) (k : Nat) : Bool := match lkp bl k with
  | some (.cells _ _) => true
  | some (.flat _ _ _) => true
  | _ => false
def saneS (s : S) : S := match pureS s with
  | some r => r
  | none => .any

/-- The state at a loop's head. -/
def Hint.st (h : Hint) (wr : List Pa) (st0 : St) (x : h.X) : St := ⟨overs (h.sl x) (kills wr (st0.sl.map saneS)), trB (h.bl x), h.nx⟩

/-- The slice that lies somewhere. -/
def slAt (st : St) (w : Pa ⊕ (Nat × Nat)) : Option SC :=
  match w with
  | .inl p => match st.sl.get undefS p with
    | .t (.c c) => some c
    | _ => none
  | .inr (k, o) => match lkB st.bl k with
    | some (.cells l _) => nth l o
    | _ => none
/-- The number under which a slice may be put behind: none: there is no memory of it yet. -/
def srcC (st : St) (c : SC) : Option (Option Nat) :=
  match c with
  | .v v => match isNil v with
    | true => some none
    | false => none
  | .sl _ _ (some (k, g)) => match lkB st.bl k with
    | some (.tok _ g') => match Nat.beq g g' with
      | true => some (some k)
      | false => none
    | _ => none
  | _ => none
def srcs (st : St) (l : List (Nat × (Pa ⊕ (Nat × Nat)))) : Option (List (Nat × Option Nat)) :=
  List.rec (motive := fun _ => Option (List (Nat × Option Nat))) (some []) (fun x _ ih => match slAt st x.2 with
    | some c => match srcC st c with
      | some s => match ih with
        | some r => some ((x.1, s) :: r)
        | none => none
      | none => none
    | none => none) l
def lks (l : List (Nat × Option Nat)) : Nat → Option (Option Nat) :=
  List.rec (motive := fun _ => Nat → Option (Option Nat)) (fun _ => none) (fun x _ ih i => match Nat.beq i x.1 with
    | true => some x.2
    | false => ih i) l
/-- No two of one block. -/
def notIn (k : Nat) (l : List (Nat × Option Nat)) : Bool :=
  List.rec (motive := fun _ => Bool) true (fun x _ ih => (match x.2 with
    | some k' => !(Nat.beq k k')
    | none => true) && ih) l
def srcsOk (l : List (Nat × Option Nat)) : Bool :=
  List.rec (motive := fun _ => Bool) true (fun x r ih => (match x.2 with
    | some k => notIn k r
    | none => true) && ih) l

def weakC (st : St) (so : List (Nat × Option Nat)) (c d : SC) : Prop :=
  match c with
  | .any => True
  | .sl ks xs none => match d with
    | .sl ks' ys _ => match ksEq ks ks' with
      | true => xs = ys
      | false => False
    | .v v => match isNil v with
      | true => match Nat.blt 0 ks.length with
        | true => xs = []
        | false => False
      | false => False
    | _ => False
  | .sl ks xs (some (k, _)) => match d with
    | .sl ks' ys (some (k', g')) => match ksEq ks ks', lks so k, lkB st.bl k' with
      | true, some (some k1), some (.tok _ g1) => match Nat.beq k1 k' && Nat.beq g' g1 with
        | true => xs = ys
        | false => False
      | _, _, _ => False
    | .v v => match isNil v && Nat.blt 0 ks.length, lks so k with
      | true, some none => xs = []
      | _, _ => False
    | _ => False
  | .own k o => match d with
    | .own k' o' => match Nat.beq k k' && Nat.beq o o' with
      | true => True
      | false => False
    | _ => False
  | .st xs => match d with
    | .st ys => xs = ys
    | _ => False
  | .v (.int k a) => match d with
    | .v (.int k' b) => match kEq k k' with
      | true => a = b
      | false => False
    | _ => False
  | .v (.bool a) => match d with
    | .v (.bool b) => a = b
    | _ => False
  | .v x => match d with
    | .v y => x = y
    | _ => False
def weakCs (st : St) (so : List (Nat × Option Nat)) (l : List SC) : List SC → Prop :=
  List.rec (motive := fun _ => List SC → Prop) (fun m => match m with
    | [] => True
    | _ => False) (fun c _ ih m => match m with
    | [] => False
    | d :: m => weakC st so c d ∧ ih m) l
def weakT (st : St) (so : List (Nat × Option Nat)) (c d : T) : Prop :=
  match c, d with
  | .c c, .c d => weakC st so c d
  | .agg l, .agg m => weakCs st so l m
  | _, _ => False
def weakTs (st : St) (so : List (Nat × Option Nat)) (l : List T) : List T → Prop :=
  List.rec (motive := fun _ => List T → Prop) (fun m => match m with
    | [] => True
    | _ => False) (fun c _ ih m => match m with
    | [] => False
    | d :: m => weakT st so c d ∧ ih m) l
def weakS (st : St) (so : List (Nat × Option Nat)) (c d : S) : Prop :=
  match c with
  | .any => True
  | .t c => match d with
    | .t d => weakT st so c d
    | _ => False
  | .tup l => match d with
    | .tup m => weakTs st so l m
    | _ => False
  | .fp k none j => match d with
    | .t (.c (.own k' o)) => match Nat.beq k k' && Nat.beq j o with
      | true => True
      | false => False
    | .fp k' none o => match Nat.beq k k' && Nat.beq j o with
      | true => True
      | false => False
    | _ => False
  | _ => False
def weakO (st : St) (so : List (Nat × Option Nat)) (l : List (Pa × S)) : Prop :=
  List.rec (motive := fun _ => Prop) True (fun x _ ih => weakS st so x.2 (st.sl.get undefS x.1) ∧ ih) l
/-- Flat cells, read as cells. -/
def flatC (ks : List CK) (xs : List Int) (l : List SC) : Prop := match toIs (reps ks (l.length / ks.length)) l with
  | some ys => xs = ys
  | none => False
def tokIn (k : Nat) (so : List (Nat × Option Nat)) : Bool := match lks so k with
  | some _ => true
  | none => false
def tokAs (st : St) (e k : Nat) (so : List (Nat × Option Nat)) : Bool := match lks so k with
  | some none => true
  | some (some k') => match lkB st.bl k' with
    | some (.tok e' _) => Nat.beq e e'
    | _ => false
  | none => false
def weakB (st : St) (so : List (Nat × Option Nat)) (l : List (Nat × Blk)) : Prop :=
  List.rec (motive := fun _ => Prop) True (fun x _ ih => (match x.2 with
    | .cells c t => match lkB st.bl x.1 with
      | some (.cells d t') => match Nat.beq t t' with
        | true => weakCs st so c d
        | false => False
      | _ => False
    | .flat ks xs t => match lkB st.bl x.1 with
      | some (.flat ks' ys t') => match ksEq ks ks' && Nat.beq t t' with
        | true => xs = ys
        | false => False
      | some (.cells d t') => match Nat.beq t t' && (Nat.blt 0 ks.length && Nat.beq (d.length % ks.length) 0) with
        | true => flatC ks xs d
        | false => False
      | _ => False
    | .tok e _ => match tokAs st e x.1 so with
      | true => True
      | false => False) ∧ ih) l
/-- Numbers and slices that are told name only blocks that are told. -/
def refC (bl : List (Nat × Blk)) : SC → Bool
  | .own k _ => hasB bl k
  | .sl _ _ (some (k, g)) => match lkp bl k with
    | some (.tok _ g') => Nat.beq g g'
    | _ => false
  | _ => true
def refCs (bl : List (Nat × Blk)) (l : List SC) : Bool := List.rec (motive := fun _ => Bool) true (fun c _ ih => refC bl c && ih) l
def refT (bl : List (Nat × Blk)) : T → Bool
  | .c x => refC bl x
  | .agg l => refCs bl l
def refTs (bl : List (Nat × Blk)) (l : List T) : Bool := List.rec (motive := fun _ => Bool) true (fun c _ ih => refT bl c && ih) l
def refS (bl : List (Nat × Blk)) : S → Bool
  | .t x => refT bl x
  | .tup l => refTs bl l
  | .fp k _ _ => hasB bl k
  | _ => true
def refO (bl : List (Nat × Blk)) (l : List (Pa × S)) : Bool := List.rec (motive := fun _ => Bool) true (fun x _ ih => refS bl x.2 && ih) l
def refB (bl : List (Nat × Blk)) (l : List (Nat × Blk)) : Bool := List.rec (motive := fun _ => Bool) true (fun x _ ih => (match x.2 with
  | .cells c _ => refCs bl c
  | .flat ks _ _ => Nat.blt 0 ks.length
  | .tok _ _ => true) && ih) l
/-- Each number once. -/
def onceB (l : List (Nat × Blk)) : Bool := List.rec (motive := fun _ => Bool) true (fun x r ih => (match lkp r x.1 with
  | some _ => false
  | none => true) && ih) l
def toksIn (bl : List (Nat × Blk)) (so : List (Nat × Option Nat)) : Bool := List.rec (motive := fun _ => Bool) true (fun x _ ih => (match lkp bl x.1 with
  | some (.tok _ _) => true
  | _ => false) && ih) so

/-- The state s1 is one of those that the hint tells at x. -/
def weakP (h : Hint) (x : h.X) (s1 : St) : Prop :=
  match srcs s1 h.tp with
  | some so => match srcsOk so && (toksIn (h.bl x) so && (refO (h.bl x) (h.sl x) && (refB (h.bl x) (h.bl x) && onceB (h.bl x)))) with
    | true => weakO s1 so (h.sl x) ∧ weakB s1 so (h.bl x)
    | false => False
  | none => False

def loopH (h : Hint) (wr : List Pa) (ihc : St → (Exit → St → Prop) → Prop) (k : Exit → St → Prop) (st : St) : Prop :=
  (∃ x, h.I x ∧ weakP h x st) ∧ ∀ x, h.I x → ihc (h.st wr st x) (fun e st' => match e with
    | .normal => ∃ x', h.I x' ∧ h.mu x' < h.mu x ∧ weakP h x' st'
    | e => k e st')

/-- One part behind the other; where a hint is told for the place between, what holds there is told. -/
def joinH (h : Hint) (wr : List Pa) (iha ihb : St → (Exit → St → Prop) → Prop) (k : Exit → St → Prop) (st : St) : Prop :=
  iha st (fun e st' => match e with
    | .normal => ∃ x, h.I x ∧ weakP h x st'
    | e => k e st') ∧ ∀ x, h.I x → ihb (h.st wr st x) k
/-- What is told of the loops, and of places between two parts: it may hang on the state there. -/
abbrev LH := Nat → Option (St → Hint)
def seqK (o : Option (St → Hint)) (wr : List Pa) (iha ihb : St → (Exit → St → Prop) → Prop) (st : St) (k : Exit → St → Prop) : Prop := match o with
  | none => iha st (fun e st' => match e with
    | .normal => ihb st' k
    | e => k e st')
  | some h => joinH (h st) wr iha ihb k st

def blockK (id : Nat) (k : Exit → St → Prop) (e : Exit) (st : St) : Prop :=
  match e with
  | .exit i => match Nat.beq i id with
    | true => k .normal st
    | false => k (.exit i) st
  | e => k e st

def exec (P : Program) (hk : Hooks) (lh : LH) (inl : Inl) (c : CC) : St → (Exit → St → Prop) → Prop :=
  CC.rec (motive := fun _ => St → (Exit → St → Prop) → Prop)
    (fun st k => k .normal st)
    (fun ops n d st k => match d with
      | none => runC P hk inl false n ops 0 st (fun st' => k .normal ⟨st'.sl, st'.bl, st'.nx + n⟩)
      | some d => match dynOk (dynSt st d) d with
        | true => runC P hk inl true n ops 0 (dynSt st d) (fun st' => k .normal ⟨st'.sl, st'.bl, st'.nx + n⟩)
        | false => False)
    (fun id wr _ _ iha ihb st k => seqK (lh id) wr iha ihb st k)
    (fun c _ _ iha ihb st k => match boolS (opv st.sl c) with
      | some b => br b (iha (litO st c true) k) (ihb (litO st c false) k)
      | none => False)
    (fun id _ ih st k => ih st (blockK id k))
    (fun id wr _ ih st k => match lh id with
      | none => loopX ih k 1000 st
      | some h => loopH (h st) wr ih k st)
    (fun id st k => k (.exit id) st)
    (fun st k => k .ret st)
    (fun _ _ => False) c

def lkF (l : List (Nat × CF)) : Nat → Option CF :=
  List.rec (motive := fun _ => Nat → Option CF) (fun _ => none) (fun x _ ih i => match Nat.beq i x.1 with
    | true => some x.2
    | false => ih i) l

def setArgs (args : List S) : Nat → Tr S → Tr S :=
  List.rec (motive := fun _ => Nat → Tr S → Tr S) (fun _ t => t) (fun a _ ih i t => ih (i + 1) (t.set undefS a (pth i))) args

def callB (ex : CC → St → (Exit → St → Prop) → Prop) (tab : List (Nat × CF)) (f : Nat) (args : List S) (bl : Tr (Option Blk)) (nx : Nat) (k : S → Tr (Option Blk) → Nat → Prop) : Prop :=
  match lkF tab f with
  | some cf => match Nat.ble args.length cf.nt with
    | true => ex cf.code ⟨setArgs args 0 .lf, bl, nx⟩ (fun e st' => match isRet e with
      | true => match resS st' cf.res with
        | some r => k r st'.bl st'.nx
        | none => False
      | false => False)
    | false => False
  | none => False

def inlN (P : Program) (hk : Hooks) (tab : List (Nat × CF)) (n : Nat) : Inl :=
  Nat.rec (motive := fun _ => Inl) (fun _ _ _ _ _ => False) (fun _ ih => callB (exec P hk (fun _ => none) ih) tab) n

/-- The call of function f. lh: what is told of the loops of f itself. -/
def callT (P : Program) (hk : Hooks) (tab : List (Nat × CF)) (lh : LH) (n : Nat) (f : Nat) (args : List S) (k : S → Prop) : Prop :=
  iso (callB (exec P hk lh (inlN P hk tab n)) tab) f args k

end
end SY
end Go.Proofs.YtapjehgfekjdaaaDoor
