/- Printed by a program of ours (gen.py): what the symbolic executor comes to. No condition. -/
import Derived.Test.YtlckkciicchneaaCF
import Derived.Test.YtlckkciicchneaaLK5
import Derived.Test.YtlckkciicchneaaSyX
import Derived.KernelRfl
set_option linter.unusedVariables false
open Go Go.Proofs
namespace Go.Proofs.Ytlckkciicchneaa
open SY
noncomputable def KeepEf (ns : List Int) : List Int := ns.flatMap fun v => V.KeepVb (V.KeepZig v)
def KeepIt (ks sz : List Int) : Nat → List Int
  | 0 => []
  | k + 1 => KeepIt ks sz k ++ [gI ks k, gI sz k]
noncomputable def KeepB1 (b : List Int) (p : PF) (i : Nat) : List Int := b ++ KeepEf ([((p.cd.length / 4 : Nat) : Int)] ++ p.cd.take (4 * i))
noncomputable def KeepB2 (b : List Int) (p : PF) (i : Nat) : List Int := b ++ KeepEf ([((p.cd.length / 4 : Nat) : Int)] ++ p.cd ++ [(p.ks.length : Int)] ++ KeepIt p.ks p.sz i)
def KeepJ (n : Nat) (z : NX) : Prop := z.i ≤ n
noncomputable def hkA (rt : PF → Bool) (en : List Int → List Int) : Hooks := hkL [(13, hPr rt), (19, hPut en)]
noncomputable def hintA1 (b : List Int) (p : PF) : Hint where
  X := NX
  sl := fun z => [(pth 0, slB (KeepB1 b p z.i)), (pth 3, .t (.c (.own 0 0))), (pth 22, iS z.i)]
  bl := fun _ => [(0, .cells (prgL p) 25)]
  tp := []
  nx := 100
  I := fun z => KeepJ (p.cd.length / 4) z
  mu := fun z => p.cd.length - z.i
noncomputable def hintA3 (b : List Int) (p : PF) : Hint where
  X := NX
  sl := fun z => [(pth 0, slB (KeepB2 b p z.i)), (pth 3, .t (.c (.own 0 0))), (pth 47, iS z.i)]
  bl := fun _ => [(0, .cells (prgL p) 25)]
  tp := []
  nx := 300
  I := fun z => KeepJ p.ks.length z
  mu := fun z => p.ks.length - z.i

set_option maxRecDepth 100000
set_option linter.all false
theorem append_res (b : List Int) (p : PF) (rt : PF → Bool) (en : List Int → List Int) (r : List Int) (e : Int) : (callT Try.prog (hkA rt en) tab (lhL [(1, hintA1 b p), (3, hintA3 b p)]) 10 9 [slB b, prgV p] (fun u => subS (.tup [.c (.sl [.int .u8] r none), .c (.v (.int .i64 e))]) u)) = (((p.1 = p.1 ∧ p.2 = p.2 ∧ p.3 = p.3 ∧ p.4 = p.4 ∧ p.5 = p.5 ∧ p.6 = p.6 ∧ True) ∧ p.2.length < 1000000 ∧ p.1.length < 1000000) ∧ br (!rt (cP (S.t (T.agg [SC.sl [CK.int IntKind.i64, CK.int IntKind.i64, CK.int IntKind.i64, CK.int IntKind.i64] p.cd none, SC.sl [CK.int IntKind.i64] p.ks none, SC.sl [CK.int IntKind.i64] p.sz none, SC.v (Value.int IntKind.i64 p.cl), SC.v (Value.int IntKind.i64 p.rc), SC.v (Value.int IntKind.i64 p.pt)])))) (r = [] ∧ e = (1 : Int) ∧ True) ((b = b ∧ [(↑(p.1.length / 4) : Int)] = [(↑(p.1.length / 4) : Int)] ∧ KeepPu b [(↑(p.1.length / 4) : Int)]) ∧ (∃ (x : NX), KeepJ (p.1.length / 4) x ∧ (KeepB1 b p x.1 = b ++ en (cL (S.t (T.c (SC.sl [CK.int IntKind.i64] (splice [(0 : Int)] (0, 1, Opd.t Pa.e.l.l.l.r).fst [(↑(lenE [CK.int IntKind.i64, CK.int IntKind.i64, CK.int IntKind.i64, CK.int IntKind.i64] p.cd) : Int)]) none)))) ∧ True ∧ (↑x.1 : Int) = (0 : Int) ∧ True) ∧ (p.1 = p.1 ∧ p.2 = p.2 ∧ p.3 = p.3 ∧ p.4 = p.4 ∧ p.5 = p.5 ∧ p.6 = p.6 ∧ True) ∧ True) ∧ ∀ (x : NX), KeepJ (p.1.length / 4) x → br (decide ((↑x.1 : Int) < (↑(p.1.length / 4) : Int))) (br (true && decide ((↑x.1 : Int) < (↑(p.1.length / 4) : Int))) ((KeepB1 b p x.1 = KeepB1 b p x.1 ∧ [gI p.1 ((↑x.1 : Int).toNat * 4), gI p.1 ((↑x.1 : Int).toNat * 4 + 1), gI p.1 ((↑x.1 : Int).toNat * 4 + 1 + 1), gI p.1 ((↑x.1 : Int).toNat * 4 + 1 + 1 + 1)] = [gI p.1 ((↑x.1 : Int).toNat * 4), gI p.1 ((↑x.1 : Int).toNat * 4 + 1), gI p.1 ((↑x.1 : Int).toNat * 4 + 1 + 1), gI p.1 ((↑x.1 : Int).toNat * 4 + 1 + 1 + 1)] ∧ KeepPu (KeepB1 b p x.1) [gI p.1 ((↑x.1 : Int).toNat * 4), gI p.1 ((↑x.1 : Int).toNat * 4 + 1), gI p.1 ((↑x.1 : Int).toNat * 4 + 1 + 1), gI p.1 ((↑x.1 : Int).toNat * 4 + 1 + 1 + 1)]) ∧ ∃ (x' : NX), KeepJ (p.1.length / 4) x' ∧ p.1.length - x'.1 < p.1.length - x.1 ∧ (KeepB1 b p x'.1 = KeepB1 b p x.1 ++ en (cL (S.t (T.c (SC.sl [CK.int IntKind.i64] (splice (splice (splice (splice [(0 : Int), (0 : Int), (0 : Int), (0 : Int)] (0, 1, Opd.t Pa.e.r.r.l.r).fst [gI p.cd (mulE 4 (↑x.i : Int).toNat)]) (1, 1, Opd.t Pa.e.r.r.r.r).fst [gI p.cd (mulE 4 (↑x.i : Int).toNat + 1)]) (2, 1, Opd.t Pa.e.l.l.l.l.r).fst [gI p.cd (mulE 4 (↑x.i : Int).toNat + 1 + 1)]) (3, 1, Opd.t Pa.e.l.l.l.r.r).fst [gI p.cd (mulE 4 (↑x.i : Int).toNat + 1 + 1 + 1)]) none)))) ∧ True ∧ (↑x'.1 : Int) = IntKind.i64.wrap ((↑x.1 : Int) + (1 : Int)) ∧ True) ∧ (p.1 = p.1 ∧ p.2 = p.2 ∧ p.3 = p.3 ∧ p.4 = p.4 ∧ p.5 = p.5 ∧ p.6 = p.6 ∧ True) ∧ True) False) ((KeepB1 b p x.1 = KeepB1 b p x.1 ∧ [(↑p.2.length : Int)] = [(↑p.2.length : Int)] ∧ KeepPu (KeepB1 b p x.1) [(↑p.2.length : Int)]) ∧ (∃ (x_1 : NX), KeepJ p.2.length x_1 ∧ (KeepB2 b p x_1.1 = KeepB1 b p x.1 ++ en (cL (S.t (T.c (SC.sl [CK.int IntKind.i64] (splice [(0 : Int)] (0, 1, Opd.t Pa.e.l.r.l.r.l).fst [(↑(lenE [CK.int IntKind.i64] p.ks) : Int)]) none)))) ∧ True ∧ (↑x_1.1 : Int) = (0 : Int) ∧ True) ∧ (p.1 = p.1 ∧ p.2 = p.2 ∧ p.3 = p.3 ∧ p.4 = p.4 ∧ p.5 = p.5 ∧ p.6 = p.6 ∧ True) ∧ True) ∧ ∀ (x : NX), KeepJ p.2.length x → br (decide ((↑x.1 : Int) < (↑p.2.length : Int))) (br (true && decide ((↑x.1 : Int) < (↑p.2.length : Int))) (br (true && decide ((↑x.1 : Int) < (↑p.3.length : Int))) ((KeepB2 b p x.1 = KeepB2 b p x.1 ∧ [gI p.2 (↑x.1 : Int).toNat, gI p.3 (↑x.1 : Int).toNat] = [gI p.2 (↑x.1 : Int).toNat, gI p.3 (↑x.1 : Int).toNat] ∧ KeepPu (KeepB2 b p x.1) [gI p.2 (↑x.1 : Int).toNat, gI p.3 (↑x.1 : Int).toNat]) ∧ ∃ (x' : NX), KeepJ p.2.length x' ∧ p.2.length - x'.1 < p.2.length - x.1 ∧ (KeepB2 b p x'.1 = KeepB2 b p x.1 ++ en (cL (S.t (T.c (SC.sl [CK.int IntKind.i64] (splice (splice [(0 : Int), (0 : Int)] (0, 1, Opd.t Pa.e.r.l.r.r.l).fst [gI p.ks (mulE 1 (↑x.i : Int).toNat)]) (1, 1, Opd.t Pa.e.r.r.l.r.r).fst [gI p.sz (mulE 1 (↑x.i : Int).toNat)]) none)))) ∧ True ∧ (↑x'.1 : Int) = IntKind.i64.wrap ((↑x.1 : Int) + (1 : Int)) ∧ True) ∧ (p.1 = p.1 ∧ p.2 = p.2 ∧ p.3 = p.3 ∧ p.4 = p.4 ∧ p.5 = p.5 ∧ p.6 = p.6 ∧ True) ∧ True) False) False) ((KeepB2 b p x.1 = KeepB2 b p x.1 ∧ [p.4, p.5, p.6] = [p.4, p.5, p.6] ∧ KeepPu (KeepB2 b p x.1) [p.4, p.5, p.6]) ∧ r = KeepB2 b p x.1 ++ en (cL (S.t (T.c (SC.sl [CK.int IntKind.i64] (splice (splice (splice [(0 : Int), (0 : Int), (0 : Int)] (0, 1, Opd.t Pa.e.l.l.l.l.l.r).fst [p.cl]) (1, 1, Opd.t Pa.e.l.l.l.l.r.r).fst [p.rc]) (2, 1, Opd.t Pa.e.l.l.l.r.l.r).fst [p.pt]) none)))) ∧ e = (0 : Int) ∧ True)))) := by kernel_rfl
end Go.Proofs.Ytlckkciicchneaa
