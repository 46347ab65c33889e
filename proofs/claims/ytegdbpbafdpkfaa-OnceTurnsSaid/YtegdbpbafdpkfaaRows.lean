/-
  No cell of these rows narrows 'for every input' (looked for: loops, veiled, ifaces, maps, wideKeys, modest, calm, conditions, laid).
  DERIVED. THE GIVEN ROWS OF THIS SEAT. 2 by the template 'for every input the law returns true; each argument reads behind the call as it read before'; 0 by the template 'total and deterministic' (their statements: YtegdbpbafdpkfaaTotals.lean).
  GIVEN WITH THE SEED: the statements are not yours to turn. If you find one false, say at which input.
  Laid BY PROGRAM, IN A SANDBOX (cutbox-rows.mjs): the forced cells as the released guide's own fill.sh prints them over the translation 57ed08a051573a26… (all of the seat's roots in one cut). By AI agents, Wed Nov 11 2026. No macro, syntax, notation, axiom, sorry.
-/
import Derived.Test.YtegdbpbafdpkfaaChecked
import GoSem.Claim
import GoSem.ClaimJoined
import GoSem.ClaimMapViews
import Derived.JoinedTies
import Derived.KernelRfl
namespace Go.Proofs.Ytegdbpbafdpkfaa
/- THE CELL 'sum', in the pinned program and in every row, IS THE sha256 OF THE DUMP (.gsa) THAT YtegdbpbafdpkfaaProg.lean LOADS. Nothing in Lean hashes anything: it is a label: what it is worth is what the hold of that sum in a sandbox is worth. -/
noncomputable def Try.pinned : Pinned := { name := "ytegdbpbafdpkfaa", sum := "57ed08a051573a26dd5bea67998a7aae402cfb5bde3dcc7f5a99f9df9fca89e4", checked := Try.checked }
namespace Rows
def none {H : Type} : Left H := { results := [], args := [] }

/-- 'torporlaw18.OnceSteps': WHATEVER THE INPUT: true; the input reads as it did. -/
def onceStepsSpec : ChangeSpec := { name := "onceSteps", fn := fun _ => fun
  | [d1, d2, d3] => { results := [.lit (.bool true)], args := [d1, d2, d3] }
  | _ => none }
def onceStepsRow : OpenClaim := { program := "ytegdbpbafdpkfaa", sum := "57ed08a051573a26dd5bea67998a7aae402cfb5bde3dcc7f5a99f9df9fca89e4", func := "torpor/torporlaw18.OnceSteps", spec := "onceSteps", apart := false }
def OnceStepsSaid : Prop := onceStepsRow.holds Try.pinned (OpenSpec.ofChange onceStepsSpec)

/-- ITS FALSE NEIGHBOUR: 'it returns false'. Refute it at one input. -/
def onceStepsWrong : ChangeSpec := { name := "onceSteps", fn := fun _ => fun
  | [d1, d2, d3] => { results := [.lit (.bool false)], args := [d1, d2, d3] }
  | _ => none }
def OnceStepsWrongFalsely : Prop := onceStepsRow.holds Try.pinned (OpenSpec.ofChange onceStepsWrong)

/-- 'torporlaw18.OnceTurns': WHATEVER THE INPUT: true; the input reads as it did. -/
def onceTurnsSpec : ChangeSpec := { name := "onceTurns", fn := fun _ => fun
  | [d1, d2, d3] => { results := [.lit (.bool true)], args := [d1, d2, d3] }
  | _ => none }
def onceTurnsRow : OpenClaim := { program := "ytegdbpbafdpkfaa", sum := "57ed08a051573a26dd5bea67998a7aae402cfb5bde3dcc7f5a99f9df9fca89e4", func := "torpor/torporlaw18.OnceTurns", spec := "onceTurns", apart := false }
def OnceTurnsSaid : Prop := onceTurnsRow.holds Try.pinned (OpenSpec.ofChange onceTurnsSpec)

/-- ITS FALSE NEIGHBOUR: 'it returns false'. Refute it at one input. -/
def onceTurnsWrong : ChangeSpec := { name := "onceTurns", fn := fun _ => fun
  | [d1, d2, d3] => { results := [.lit (.bool false)], args := [d1, d2, d3] }
  | _ => none }
def OnceTurnsWrongFalsely : Prop := onceTurnsRow.holds Try.pinned (OpenSpec.ofChange onceTurnsWrong)

/- THE SECOND FORM. 'bulk': how many values and letters a reading holds, each counted each time it is reached (what is shared counts as often as it is met; a slice's spare places count too). A statement '..UptoSaid' is the law's where the arguments, and the package variables that the reading takes, are together of bulk at most 1048576: NARROWER than '..Said'. Prove '..Said' where nothing that the law and all that it calls make is longer than what came in: it says more and counts as full. Else prove '..UptoSaid'. A law counts once. -/
mutual
def uptoBulk {H : Type} : DataW H → Nat
  | .lit (.string bytes) => bytes.length + 1
  | .lit _ => 1
  | .nil => 1
  | .ptr d => uptoBulk d + 1
  | .slice elems spare => uptoBulkAll elems + uptoBulkAll spare + 1
  | .agg parts => uptoBulkAll parts + 1
  | .iface _ d => uptoBulk d + 1
  | .map entries => uptoBulkEntries entries + 1
  | .held _ => 1
def uptoBulkAll {H : Type} : List (DataW H) → Nat
  | [] => 0
  | d :: r => uptoBulk d + uptoBulkAll r
def uptoBulkEntries {H : Type} : List (Lit × DataW H) → Nat
  | [] => 0
  | x :: r => uptoBulkEntry x + uptoBulkEntries r
def uptoBulkEntry {H : Type} : Lit × DataW H → Nat
  | (.string bytes, d) => bytes.length + uptoBulk d + 1
  | (_, d) => uptoBulk d + 1
 end
def uptoSmall : (H : Type) → List (DataW H) → Bool := fun _ ds => decide (uptoBulkAll ds ≤ 1048576)
def OpenSpec.upto (s : _root_.Go.ChangeSpec) : _root_.Go.OpenSpec := { _root_.Go.OpenSpec.ofChange s with cond := some uptoSmall }

/-- 'torporlaw18.OnceSteps', WHERE WHAT IT READS IS OF BULK AT MOST 1048576: true; the input reads as it did. -/
def onceStepsUptoRow : OpenClaim := { program := "ytegdbpbafdpkfaa", sum := "57ed08a051573a26dd5bea67998a7aae402cfb5bde3dcc7f5a99f9df9fca89e4", func := "torpor/torporlaw18.OnceSteps", spec := "onceSteps", apart := false, narrowed := true }
def OnceStepsUptoSaid : Prop := onceStepsUptoRow.holds Try.pinned (OpenSpec.upto onceStepsSpec)

/-- 'torporlaw18.OnceTurns', WHERE WHAT IT READS IS OF BULK AT MOST 1048576: true; the input reads as it did. -/
def onceTurnsUptoRow : OpenClaim := { program := "ytegdbpbafdpkfaa", sum := "57ed08a051573a26dd5bea67998a7aae402cfb5bde3dcc7f5a99f9df9fca89e4", func := "torpor/torporlaw18.OnceTurns", spec := "onceTurns", apart := false, narrowed := true }
def OnceTurnsUptoSaid : Prop := onceTurnsUptoRow.holds Try.pinned (OpenSpec.upto onceTurnsSpec)

end Rows
end Go.Proofs.Ytegdbpbafdpkfaa
