/- Printed by a program of ours (gen.py): what the symbolic executor comes to. No condition. -/
import Derived.Test.YtegdbpbafdpkfaaCF
import Derived.Test.YtegdbpbafdpkfaaSyV
import Derived.KernelRfl
set_option linter.unusedVariables false
open Go Go.Proofs
namespace Go.Proofs.Ytegdbpbafdpkfaa
open SY
abbrev iS (x : Int) : S := .t (.c (.v (.int .i64 x)))
abbrev tru (s : S) : Prop := s = .t (.c (.v (.bool true)))
abbrev bS (b : Bool) : S := .t (.c (.v (.bool b)))
noncomputable def cs (a : S) : List SC := match a with
  | .t (.agg l) => l
  | .t (.c x) => [x]
  | _ => []
noncomputable def cI (a : S) (i : Nat) : Int := match nth (cs a) i with
  | some c => (match asI c with
    | some n => n
    | none => 0)
  | none => 0
noncomputable def cB (a : S) (i : Nat) : Bool := match nth (cs a) i with
  | some c => (match asB c with
    | some n => n
    | none => false)
  | none => false
noncomputable def cL (a : S) (i : Nat) : List Int := match nth (cs a) i with
  | some c => (match asL c with
    | some n => n
    | none => [])
  | none => []
abbrev slI (xs : List Int) : SC := .sl [.int .i64] xs none
abbrev slC (xs : List Int) : SC := .sl [.int .i64, .int .i64] xs none
abbrev slW (xs : List Int) : SC := .sl [.int .u32, .int .i64] xs none
abbrev cInt (x : Int) : SC := .v (.int .i64 x)
noncomputable def KeepFew (m : Nat) (xs : List Int) : Prop := xs.length ≤ 100000 ∧ xs.length % m = 0
structure O where
  k : Int
  w0 : Int
  w1 : Int
  w2 : Int
  w3 : Int
  w4 : Int
  w5 : Int
  wt : Int
  td : Int
  ns : List Int
  ls : List Int
def objL (x : O) : List SC := [cInt x.k, cInt x.w0, cInt x.w1, cInt x.w2, cInt x.w3, cInt x.w4, cInt x.w5, .v (.int .u32 x.wt), .v (.int .u32 x.td), slW x.ns, slC x.ls]
abbrev objS (x : O) : S := .t (.agg (objL x))
noncomputable def objOf (a : S) : O := ⟨cI a 0, cI a 1, cI a 2, cI a 3, cI a 4, cI a 5, cI a 6, cI a 7, cI a 8, cL a 9, cL a 10⟩
structure Nt where
  wt : Int
  td : Int
  ns : List Int
def ntL (x : Nt) : List SC := [.v (.int .u32 x.wt), .v (.int .u32 x.td), slW x.ns]
abbrev ntS (x : Nt) : S := .t (.agg (ntL x))
noncomputable def ntOf (a : S) : Nt := ⟨cI a 0, cI a 1, cL a 2⟩
structure A7 where
  dn : Bool
  pk : Bool
  hd : Bool
  gv : Int
  ft : Int
  vl : Int
  wk : List Int
def actL (x : A7) : List SC := [.v (.bool x.dn), .v (.bool x.pk), .v (.bool x.hd), cInt x.gv, cInt x.ft, .v (.int .u64 x.vl), slI x.wk]
abbrev actS (x : A7) : S := .t (.agg (actL x))
noncomputable def actOf (a : S) : A7 := ⟨cB a 0, cB a 1, cB a 2, cI a 3, cI a 4, cI a 5, cL a 6⟩
structure Fr where
  op : Int
  st : Int
  ph : Int
  od : Int
  si : Int
  le : Int
  aw : Bool
  sv : Bool
  ne : Int
  fr : Bool
def frL (f : Fr) : List SC := [cInt f.op, cInt f.st, cInt f.ph, cInt f.od, cInt f.si, cInt f.le, .v (.bool f.aw), .v (.bool f.sv), cInt f.ne, .v (.bool f.fr)]
abbrev frS (x : Fr) : S := .t (.agg (frL x))
noncomputable def frOf (a : S) : Fr := ⟨cI a 0, cI a 1, cI a 2, cI a 3, cI a 4, cI a 5, cB a 6, cB a 7, cI a 8, cB a 9⟩
noncomputable def eqL (xs ys : List Int) : Bool := decide (xs = ys)
noncomputable def eqN (x y : Nt) : Bool := decide (x.wt = y.wt) && (decide (x.td = y.td) && eqL x.ns y.ns)
noncomputable def eqO' (x y : O) : Bool := decide (x.k = y.k) && (decide (x.w0 = y.w0) && (decide (x.w1 = y.w1) && (decide (x.w2 = y.w2) && (decide (x.w3 = y.w3) && (decide (x.w4 = y.w4) && (decide (x.w5 = y.w5) && (decide (x.wt = y.wt) && (decide (x.td = y.td) && (eqL x.ns y.ns && eqL x.ls y.ls)))))))))
noncomputable def eqA (x y : A7) : Bool := (x.dn == y.dn) && ((x.pk == y.pk) && ((x.hd == y.hd) && (decide (x.gv = y.gv) && (decide (x.ft = y.ft) && (decide (x.vl = y.vl) && eqL x.wk y.wk)))))
noncomputable def hInts : Hk := fun vs => match vs with
  | [a, b] => some (subS (.t (.c (slI (cL a 0)))) a ∧ subS (.t (.c (slI (cL b 0)))) b ∧ KeepFew 1 (cL a 0), bS (eqL (cL a 0) (cL b 0)))
  | _ => none
noncomputable def hSame : Hk := fun vs => match vs with
  | [a, b] => some (subS (ntS (ntOf a)) a ∧ subS (ntS (ntOf b)) b ∧ KeepFew 2 (ntOf a).ns ∧ KeepFew 2 (ntOf b).ns, bS (eqN (ntOf a) (ntOf b)))
  | _ => none
noncomputable def hObj : Hk := fun vs => match vs with
  | [a, b] => some (subS (objS (objOf a)) a ∧ subS (objS (objOf b)) b ∧ KeepFew 2 (objOf a).ns ∧ KeepFew 2 (objOf b).ns ∧ KeepFew 2 (objOf a).ls ∧ KeepFew 2 (objOf b).ls, bS (eqO' (objOf a) (objOf b)))
  | _ => none
noncomputable def hAct : Hk := fun vs => match vs with
  | [a, b] => some (subS (actS (actOf a)) a ∧ subS (actS (actOf b)) b ∧ KeepFew 1 (actOf a).wk, bS (eqA (actOf a) (actOf b)))
  | _ => none
noncomputable def KeepAg (m : Nat) (xs ys : List Int) (i : Nat) : Prop := m * i ≤ xs.length ∧ xs.length = ys.length ∧ ∀ j, j < m * i → gI xs j = gI ys j
noncomputable def hintInts (xs ys : List Int) : Hint where
  X := Nat
  sl := fun i => [(pth 5, iS i)]
  bl := fun i => []
  tp := []
  nx := 7
  I := fun i => KeepAg 1 xs ys i
  mu := fun i => xs.length - i
noncomputable def hintSame (x y : Nt) : Hint where
  X := Nat
  sl := fun i => [(pth 2, .t (.c (.own 0 0))), (pth 3, .t (.c (.own 1 0))), (pth 5, iS i)]
  bl := fun i => [(0, .cells (ntL x) 26), (1, .cells (ntL y) 26)]
  tp := []
  nx := 25
  I := fun i => KeepAg 2 x.ns y.ns i
  mu := fun i => x.ns.length / 2 - i
noncomputable def hintObj (x y : O) : Hint where
  X := Nat
  sl := fun i => [(pth 2, .t (.c (.own 0 0))), (pth 3, .t (.c (.own 1 0))), (pth 5, iS i)]
  bl := fun i => [(0, .cells (objL x) 29), (1, .cells (objL y) 29)]
  tp := []
  nx := 33
  I := fun i => KeepAg 2 x.ls y.ls i
  mu := fun i => x.ls.length / 2 - i

set_option maxRecDepth 100000
set_option linter.all false
theorem ints_res (xs ys : List Int) : (callT Try.prog (hkL []) tab (lhL [(1, hintInts xs ys)]) 10 24 [.t (.c (slI xs)), .t (.c (slI ys))] (fun u => subS (bS (eqL xs ys)) u)) = (br (!decide ((↑xs.length : Int) = (↑ys.length : Int))) (decide (xs = ys) = false) ((∃ (x : Nat), KeepAg 1 xs ys x ∧ ((↑x : Int) = (0 : Int) ∧ True) ∧ True) ∧ ∀ (x : Nat), KeepAg 1 xs ys x → br (decide ((↑x : Int) < (↑xs.length : Int))) (br (true && decide ((↑x : Int) < (↑xs.length : Int))) (br (true && decide ((↑x : Int) < (↑ys.length : Int))) (br (!decide (gI xs (↑x : Int).toNat = gI ys (↑x : Int).toNat)) (decide (xs = ys) = false) (∃ (x' : Nat), KeepAg 1 xs ys x' ∧ xs.length - x' < xs.length - x ∧ ((↑x' : Int) = IntKind.i64.wrap ((↑x : Int) + (1 : Int)) ∧ True) ∧ True)) False) False) (decide (xs = ys) = true))) := by kernel_rfl
theorem same_res (x y : Nt) : (callT Try.prog (hkL []) tab (lhL [(1, hintSame x y)]) 10 23 [ntS x, ntS y] (fun u => subS (bS (eqN x y)) u)) = (br (!decide (x.1 = y.1)) ((decide (x.1 = y.1) && (decide (x.2 = y.2) && decide (x.3 = y.3))) = false) (br (!decide (x.2 = y.2)) ((decide (x.1 = y.1) && (decide (x.2 = y.2) && decide (x.3 = y.3))) = false) (br (!decide ((↑(x.3.length / 2) : Int) = (↑(y.3.length / 2) : Int))) ((decide (x.1 = y.1) && (decide (x.2 = y.2) && decide (x.3 = y.3))) = false) ((∃ (x_1 : Nat), KeepAg 2 x.3 y.3 x_1 ∧ (True ∧ True ∧ (↑x_1 : Int) = (0 : Int) ∧ True) ∧ (x.1 = x.1 ∧ x.2 = x.2 ∧ x.3 = x.3 ∧ True) ∧ (y.1 = y.1 ∧ y.2 = y.2 ∧ y.3 = y.3 ∧ True) ∧ True) ∧ ∀ (x_1 : Nat), KeepAg 2 x.3 y.3 x_1 → br (decide ((↑x_1 : Int) < (↑(x.3.length / 2) : Int))) (br (true && decide ((↑x_1 : Int) < (↑(x.3.length / 2) : Int))) (br (true && decide ((↑x_1 : Int) < (↑(y.3.length / 2) : Int))) (br (!(decide (gI x.3 ((↑x_1 : Int).toNat * 2) = gI y.3 ((↑x_1 : Int).toNat * 2)) && (decide (gI x.3 ((↑x_1 : Int).toNat * 2 + 1) = gI y.3 ((↑x_1 : Int).toNat * 2 + 1)) && true))) ((decide (x.1 = y.1) && (decide (x.2 = y.2) && decide (x.3 = y.3))) = false) (∃ (x' : Nat), KeepAg 2 x.3 y.3 x' ∧ x.3.length / 2 - x' < x.3.length / 2 - x_1 ∧ (True ∧ True ∧ (↑x' : Int) = IntKind.i64.wrap ((↑x_1 : Int) + (1 : Int)) ∧ True) ∧ (x.1 = x.1 ∧ x.2 = x.2 ∧ x.3 = x.3 ∧ True) ∧ (y.1 = y.1 ∧ y.2 = y.2 ∧ y.3 = y.3 ∧ True) ∧ True)) False) False) ((decide (x.1 = y.1) && (decide (x.2 = y.2) && decide (x.3 = y.3))) = true))))) := by kernel_rfl
theorem obj_res (x y : O) : (callT Try.prog (hkL [(23, hSame)]) tab (lhL [(1, hintObj x y)]) 10 11 [objS x, objS y] (fun u => subS (bS (eqO' x y)) u)) = (br (!decide (x.1 = y.1)) ((decide (x.1 = y.1) && (decide (x.2 = y.2) && (decide (x.3 = y.3) && (decide (x.4 = y.4) && (decide (x.5 = y.5) && (decide (x.6 = y.6) && (decide (x.7 = y.7) && (decide (x.8 = y.8) && (decide (x.9 = y.9) && (decide (x.10 = y.10) && decide (x.11 = y.11))))))))))) = false) (br (!(decide (x.2 = y.2) && (decide (x.3 = y.3) && (decide (x.4 = y.4) && (decide (x.5 = y.5) && (decide (x.6 = y.6) && (decide (x.7 = y.7) && true))))))) ((decide (x.1 = y.1) && (decide (x.2 = y.2) && (decide (x.3 = y.3) && (decide (x.4 = y.4) && (decide (x.5 = y.5) && (decide (x.6 = y.6) && (decide (x.7 = y.7) && (decide (x.8 = y.8) && (decide (x.9 = y.9) && (decide (x.10 = y.10) && decide (x.11 = y.11))))))))))) = false) (((x.8 = x.8 ∧ x.9 = x.9 ∧ x.10 = x.10 ∧ True) ∧ (y.8 = y.8 ∧ y.9 = y.9 ∧ y.10 = y.10 ∧ True) ∧ KeepFew 2 x.10 ∧ KeepFew 2 y.10) ∧ br (!(decide (x.8 = y.8) && (decide (x.9 = y.9) && decide (x.10 = y.10)))) ((decide (x.1 = y.1) && (decide (x.2 = y.2) && (decide (x.3 = y.3) && (decide (x.4 = y.4) && (decide (x.5 = y.5) && (decide (x.6 = y.6) && (decide (x.7 = y.7) && (decide (x.8 = y.8) && (decide (x.9 = y.9) && (decide (x.10 = y.10) && decide (x.11 = y.11))))))))))) = false) (br (!decide ((↑(x.11.length / 2) : Int) = (↑(y.11.length / 2) : Int))) ((decide (x.1 = y.1) && (decide (x.2 = y.2) && (decide (x.3 = y.3) && (decide (x.4 = y.4) && (decide (x.5 = y.5) && (decide (x.6 = y.6) && (decide (x.7 = y.7) && (decide (x.8 = y.8) && (decide (x.9 = y.9) && (decide (x.10 = y.10) && decide (x.11 = y.11))))))))))) = false) ((∃ (x_1 : Nat), KeepAg 2 x.11 y.11 x_1 ∧ (True ∧ True ∧ (↑x_1 : Int) = (0 : Int) ∧ True) ∧ (x.1 = x.1 ∧ x.2 = x.2 ∧ x.3 = x.3 ∧ x.4 = x.4 ∧ x.5 = x.5 ∧ x.6 = x.6 ∧ x.7 = x.7 ∧ x.8 = x.8 ∧ x.9 = x.9 ∧ x.10 = x.10 ∧ x.11 = x.11 ∧ True) ∧ (y.1 = y.1 ∧ y.2 = y.2 ∧ y.3 = y.3 ∧ y.4 = y.4 ∧ y.5 = y.5 ∧ y.6 = y.6 ∧ y.7 = y.7 ∧ y.8 = y.8 ∧ y.9 = y.9 ∧ y.10 = y.10 ∧ y.11 = y.11 ∧ True) ∧ True) ∧ ∀ (x_1 : Nat), KeepAg 2 x.11 y.11 x_1 → br (decide ((↑x_1 : Int) < (↑(x.11.length / 2) : Int))) (br (true && decide ((↑x_1 : Int) < (↑(x.11.length / 2) : Int))) (br (true && decide ((↑x_1 : Int) < (↑(y.11.length / 2) : Int))) (br (!(decide (gI x.11 ((↑x_1 : Int).toNat * 2) = gI y.11 ((↑x_1 : Int).toNat * 2)) && (decide (gI x.11 ((↑x_1 : Int).toNat * 2 + 1) = gI y.11 ((↑x_1 : Int).toNat * 2 + 1)) && true))) ((decide (x.1 = y.1) && (decide (x.2 = y.2) && (decide (x.3 = y.3) && (decide (x.4 = y.4) && (decide (x.5 = y.5) && (decide (x.6 = y.6) && (decide (x.7 = y.7) && (decide (x.8 = y.8) && (decide (x.9 = y.9) && (decide (x.10 = y.10) && decide (x.11 = y.11))))))))))) = false) (∃ (x' : Nat), KeepAg 2 x.11 y.11 x' ∧ x.11.length / 2 - x' < x.11.length / 2 - x_1 ∧ (True ∧ True ∧ (↑x' : Int) = IntKind.i64.wrap ((↑x_1 : Int) + (1 : Int)) ∧ True) ∧ (x.1 = x.1 ∧ x.2 = x.2 ∧ x.3 = x.3 ∧ x.4 = x.4 ∧ x.5 = x.5 ∧ x.6 = x.6 ∧ x.7 = x.7 ∧ x.8 = x.8 ∧ x.9 = x.9 ∧ x.10 = x.10 ∧ x.11 = x.11 ∧ True) ∧ (y.1 = y.1 ∧ y.2 = y.2 ∧ y.3 = y.3 ∧ y.4 = y.4 ∧ y.5 = y.5 ∧ y.6 = y.6 ∧ y.7 = y.7 ∧ y.8 = y.8 ∧ y.9 = y.9 ∧ y.10 = y.10 ∧ y.11 = y.11 ∧ True) ∧ True)) False) False) ((decide (x.1 = y.1) && (decide (x.2 = y.2) && (decide (x.3 = y.3) && (decide (x.4 = y.4) && (decide (x.5 = y.5) && (decide (x.6 = y.6) && (decide (x.7 = y.7) && (decide (x.8 = y.8) && (decide (x.9 = y.9) && (decide (x.10 = y.10) && decide (x.11 = y.11))))))))))) = true)))))) := by kernel_rfl
theorem act_res (x y : A7) : (callT Try.prog (hkL [(24, hInts)]) tab noL 10 12 [actS x, actS y] (fun u => subS (bS (eqA x y)) u)) = (br (x.1 == y.1) (br (x.2 == y.2) (br (x.3 == y.3) (br (decide (x.4 = y.4)) (br (decide (x.5 = y.5)) (br (decide (x.6 = y.6)) ((x.7 = x.7 ∧ y.7 = y.7 ∧ KeepFew 1 x.7) ∧ (x.1 == y.1 && (x.2 == y.2 && (x.3 == y.3 && (decide (x.4 = y.4) && (decide (x.5 = y.5) && (decide (x.6 = y.6) && decide (x.7 = y.7))))))) = decide (x.7 = y.7)) ((x.1 == y.1 && (x.2 == y.2 && (x.3 == y.3 && (decide (x.4 = y.4) && (decide (x.5 = y.5) && (decide (x.6 = y.6) && decide (x.7 = y.7))))))) = false)) ((x.1 == y.1 && (x.2 == y.2 && (x.3 == y.3 && (decide (x.4 = y.4) && (decide (x.5 = y.5) && (decide (x.6 = y.6) && decide (x.7 = y.7))))))) = false)) ((x.1 == y.1 && (x.2 == y.2 && (x.3 == y.3 && (decide (x.4 = y.4) && (decide (x.5 = y.5) && (decide (x.6 = y.6) && decide (x.7 = y.7))))))) = false)) ((x.1 == y.1 && (x.2 == y.2 && (x.3 == y.3 && (decide (x.4 = y.4) && (decide (x.5 = y.5) && (decide (x.6 = y.6) && decide (x.7 = y.7))))))) = false)) ((x.1 == y.1 && (x.2 == y.2 && (x.3 == y.3 && (decide (x.4 = y.4) && (decide (x.5 = y.5) && (decide (x.6 = y.6) && decide (x.7 = y.7))))))) = false)) ((x.1 == y.1 && (x.2 == y.2 && (x.3 == y.3 && (decide (x.4 = y.4) && (decide (x.5 = y.5) && (decide (x.6 = y.6) && decide (x.7 = y.7))))))) = false)) := by kernel_rfl
end Go.Proofs.Ytegdbpbafdpkfaa
