/-
  No cell of these rows narrows 'for every input' (looked for: loops, veiled, ifaces, maps, wideKeys, modest, calm, conditions, laid).
  DERIVED. THE GIVEN ROWS OF THIS SEAT. 6 by the template 'for every input the law returns true; each argument reads behind the call as it read before'; 0 by the template 'total and deterministic' (their statements: YthjbgidnoiedmaaTotals.lean).
  GIVEN WITH THE SEED: the statements are not yours to turn. If you find one false, say at which input.
  Laid BY PROGRAM, IN A SANDBOX (cutbox-rows.mjs): the forced cells as the released guide's own fill.sh prints them over the translation 9708b9c69879f5bc… (all of the seat's roots in one cut). By AI agents, Wed Nov 11 2026. No macro, syntax, notation, axiom, sorry.
-/
import Derived.Test.YthjbgidnoiedmaaChecked
import GoSem.Claim
import GoSem.ClaimJoined
import GoSem.ClaimMapViews
import Derived.JoinedTies
import Derived.KernelRfl
namespace Go.Proofs.Ythjbgidnoiedmaa
/- THE CELL 'sum', in the pinned program and in every row, IS THE sha256 OF THE DUMP (.gsa) THAT YthjbgidnoiedmaaProg.lean LOADS. Nothing in Lean hashes anything: it is a label: what it is worth is what the hold of that sum in a sandbox is worth. -/
noncomputable def Try.pinned : Pinned := { name := "ythjbgidnoiedmaa", sum := "9708b9c69879f5bcf56fa741c5812da142a43655dc44f85c4dcfa973bcd6ecc2", checked := Try.checked }
namespace Rows
def none {H : Type} : Left H := { results := [], args := [] }

/-- 'torporlaw06.DrawAnswers': WHATEVER THE INPUT: true; the input reads as it did. -/
def drawAnswersSpec : ChangeSpec := { name := "drawAnswers", fn := fun _ => fun
  | [d1, d2, d3] => { results := [.lit (.bool true)], args := [d1, d2, d3] }
  | _ => none }
def drawAnswersRow : OpenClaim := { program := "ythjbgidnoiedmaa", sum := "9708b9c69879f5bcf56fa741c5812da142a43655dc44f85c4dcfa973bcd6ecc2", func := "torpor/torporlaw06.DrawAnswers", spec := "drawAnswers", inPlace := ["math.Float64bits", "math.Float64frombits"], apart := false }
def DrawAnswersSaid : Prop := drawAnswersRow.holds Try.pinned (OpenSpec.ofChange drawAnswersSpec)

/-- ITS FALSE NEIGHBOUR: 'it returns false'. Refute it at one input. -/
def drawAnswersWrong : ChangeSpec := { name := "drawAnswers", fn := fun _ => fun
  | [d1, d2, d3] => { results := [.lit (.bool false)], args := [d1, d2, d3] }
  | _ => none }
def DrawAnswersWrongFalsely : Prop := drawAnswersRow.holds Try.pinned (OpenSpec.ofChange drawAnswersWrong)

/-- 'torporlaw06.DrawWords': WHATEVER THE INPUT: true; the input reads as it did. -/
def drawWordsSpec : ChangeSpec := { name := "drawWords", fn := fun _ => fun
  | [d1, d2, d3] => { results := [.lit (.bool true)], args := [d1, d2, d3] }
  | _ => none }
def drawWordsRow : OpenClaim := { program := "ythjbgidnoiedmaa", sum := "9708b9c69879f5bcf56fa741c5812da142a43655dc44f85c4dcfa973bcd6ecc2", func := "torpor/torporlaw06.DrawWords", spec := "drawWords", inPlace := ["math.Float64bits", "math.Float64frombits"], apart := false }
def DrawWordsSaid : Prop := drawWordsRow.holds Try.pinned (OpenSpec.ofChange drawWordsSpec)

/-- ITS FALSE NEIGHBOUR: 'it returns false'. Refute it at one input. -/
def drawWordsWrong : ChangeSpec := { name := "drawWords", fn := fun _ => fun
  | [d1, d2, d3] => { results := [.lit (.bool false)], args := [d1, d2, d3] }
  | _ => none }
def DrawWordsWrongFalsely : Prop := drawWordsRow.holds Try.pinned (OpenSpec.ofChange drawWordsWrong)

/-- 'torporlaw06.DrawUnlike': WHATEVER THE INPUT: true; the input reads as it did. -/
def drawUnlikeSpec : ChangeSpec := { name := "drawUnlike", fn := fun _ => fun
  | [d1, d2] => { results := [.lit (.bool true)], args := [d1, d2] }
  | _ => none }
def drawUnlikeRow : OpenClaim := { program := "ythjbgidnoiedmaa", sum := "9708b9c69879f5bcf56fa741c5812da142a43655dc44f85c4dcfa973bcd6ecc2", func := "torpor/torporlaw06.DrawUnlike", spec := "drawUnlike", inPlace := ["math.Float64bits", "math.Float64frombits"], apart := false }
def DrawUnlikeSaid : Prop := drawUnlikeRow.holds Try.pinned (OpenSpec.ofChange drawUnlikeSpec)

/-- ITS FALSE NEIGHBOUR: 'it returns false'. Refute it at one input. -/
def drawUnlikeWrong : ChangeSpec := { name := "drawUnlike", fn := fun _ => fun
  | [d1, d2] => { results := [.lit (.bool false)], args := [d1, d2] }
  | _ => none }
def DrawUnlikeWrongFalsely : Prop := drawUnlikeRow.holds Try.pinned (OpenSpec.ofChange drawUnlikeWrong)

/-- 'torporlaw06.DrawBelow': WHATEVER THE INPUT: true; the input reads as it did. -/
def drawBelowSpec : ChangeSpec := { name := "drawBelow", fn := fun _ => fun
  | [d1, d2, d3] => { results := [.lit (.bool true)], args := [d1, d2, d3] }
  | _ => none }
def drawBelowRow : OpenClaim := { program := "ythjbgidnoiedmaa", sum := "9708b9c69879f5bcf56fa741c5812da142a43655dc44f85c4dcfa973bcd6ecc2", func := "torpor/torporlaw06.DrawBelow", spec := "drawBelow", inPlace := ["math.Float64bits", "math.Float64frombits"], apart := false }
def DrawBelowSaid : Prop := drawBelowRow.holds Try.pinned (OpenSpec.ofChange drawBelowSpec)

/-- ITS FALSE NEIGHBOUR: 'it returns false'. Refute it at one input. -/
def drawBelowWrong : ChangeSpec := { name := "drawBelow", fn := fun _ => fun
  | [d1, d2, d3] => { results := [.lit (.bool false)], args := [d1, d2, d3] }
  | _ => none }
def DrawBelowWrongFalsely : Prop := drawBelowRow.holds Try.pinned (OpenSpec.ofChange drawBelowWrong)

/-- 'torporlaw06.DrawMany': WHATEVER THE INPUT: true; the input reads as it did. -/
def drawManySpec : ChangeSpec := { name := "drawMany", fn := fun _ => fun
  | [d1, d2] => { results := [.lit (.bool true)], args := [d1, d2] }
  | _ => none }
def drawManyRow : OpenClaim := { program := "ythjbgidnoiedmaa", sum := "9708b9c69879f5bcf56fa741c5812da142a43655dc44f85c4dcfa973bcd6ecc2", func := "torpor/torporlaw06.DrawMany", spec := "drawMany", inPlace := ["math.Float64bits", "math.Float64frombits"], apart := false }
def DrawManySaid : Prop := drawManyRow.holds Try.pinned (OpenSpec.ofChange drawManySpec)

/-- ITS FALSE NEIGHBOUR: 'it returns false'. Refute it at one input. -/
def drawManyWrong : ChangeSpec := { name := "drawMany", fn := fun _ => fun
  | [d1, d2] => { results := [.lit (.bool false)], args := [d1, d2] }
  | _ => none }
def DrawManyWrongFalsely : Prop := drawManyRow.holds Try.pinned (OpenSpec.ofChange drawManyWrong)

/-- 'torporlaw06.DrawUnits': WHATEVER THE INPUT: true; the input reads as it did. -/
def drawUnitsSpec : ChangeSpec := { name := "drawUnits", fn := fun _ => fun
  | [d1, d2, d3] => { results := [.lit (.bool true)], args := [d1, d2, d3] }
  | _ => none }
def drawUnitsRow : OpenClaim := { program := "ythjbgidnoiedmaa", sum := "9708b9c69879f5bcf56fa741c5812da142a43655dc44f85c4dcfa973bcd6ecc2", func := "torpor/torporlaw06.DrawUnits", spec := "drawUnits", inPlace := ["math.Float64bits", "math.Float64frombits"], apart := false }
def DrawUnitsSaid : Prop := drawUnitsRow.holds Try.pinned (OpenSpec.ofChange drawUnitsSpec)

/-- ITS FALSE NEIGHBOUR: 'it returns false'. Refute it at one input. -/
def drawUnitsWrong : ChangeSpec := { name := "drawUnits", fn := fun _ => fun
  | [d1, d2, d3] => { results := [.lit (.bool false)], args := [d1, d2, d3] }
  | _ => none }
def DrawUnitsWrongFalsely : Prop := drawUnitsRow.holds Try.pinned (OpenSpec.ofChange drawUnitsWrong)

/- THE SECOND FORM. 'bulk': how many values and letters a reading holds, each counted each time it is reached (what is shared counts as often as it is met; a slice's spare places count too). A statement '..UptoSaid' is the law's where the arguments, and the package variables that the reading takes, are together of bulk at most 1048576: NARROWER than '..Said'. Prove '..Said' where nothing that the law and all that it calls make is longer than what came in: it says more and counts as full. Else prove '..UptoSaid'. A law counts once. -/
mutual
def uptoBulk {H : Type} : DataW H → Nat
  | .lit (.string bytes) => bytes.length + 1
  | .lit _ => 1
  | .nil => 1
  | .ptr d => uptoBulk d + 1
  | .slice elems spare => uptoBulkAll elems + uptoBulkAll spare + 1
  | .agg parts => uptoBulkAll parts + 1
  | .iface _ d => uptoBulk d + 1
  | .map entries => uptoBulkEntries entries + 1
  | .held _ => 1
def uptoBulkAll {H : Type} : List (DataW H) → Nat
  | [] => 0
  | d :: r => uptoBulk d + uptoBulkAll r
def uptoBulkEntries {H : Type} : List (Lit × DataW H) → Nat
  | [] => 0
  | x :: r => uptoBulkEntry x + uptoBulkEntries r
def uptoBulkEntry {H : Type} : Lit × DataW H → Nat
  | (.string bytes, d) => bytes.length + uptoBulk d + 1
  | (_, d) => uptoBulk d + 1
 end
def uptoSmall : (H : Type) → List (DataW H) → Bool := fun _ ds => decide (uptoBulkAll ds ≤ 1048576)
def OpenSpec.upto (s : _root_.Go.ChangeSpec) : _root_.Go.OpenSpec := { _root_.Go.OpenSpec.ofChange s with cond := some uptoSmall }

/-- 'torporlaw06.DrawAnswers', WHERE WHAT IT READS IS OF BULK AT MOST 1048576: true; the input reads as it did. -/
def drawAnswersUptoRow : OpenClaim := { program := "ythjbgidnoiedmaa", sum := "9708b9c69879f5bcf56fa741c5812da142a43655dc44f85c4dcfa973bcd6ecc2", func := "torpor/torporlaw06.DrawAnswers", spec := "drawAnswers", inPlace := ["math.Float64bits", "math.Float64frombits"], apart := false, narrowed := true }
def DrawAnswersUptoSaid : Prop := drawAnswersUptoRow.holds Try.pinned (OpenSpec.upto drawAnswersSpec)

/-- 'torporlaw06.DrawWords', WHERE WHAT IT READS IS OF BULK AT MOST 1048576: true; the input reads as it did. -/
def drawWordsUptoRow : OpenClaim := { program := "ythjbgidnoiedmaa", sum := "9708b9c69879f5bcf56fa741c5812da142a43655dc44f85c4dcfa973bcd6ecc2", func := "torpor/torporlaw06.DrawWords", spec := "drawWords", inPlace := ["math.Float64bits", "math.Float64frombits"], apart := false, narrowed := true }
def DrawWordsUptoSaid : Prop := drawWordsUptoRow.holds Try.pinned (OpenSpec.upto drawWordsSpec)

/-- 'torporlaw06.DrawUnlike', WHERE WHAT IT READS IS OF BULK AT MOST 1048576: true; the input reads as it did. -/
def drawUnlikeUptoRow : OpenClaim := { program := "ythjbgidnoiedmaa", sum := "9708b9c69879f5bcf56fa741c5812da142a43655dc44f85c4dcfa973bcd6ecc2", func := "torpor/torporlaw06.DrawUnlike", spec := "drawUnlike", inPlace := ["math.Float64bits", "math.Float64frombits"], apart := false, narrowed := true }
def DrawUnlikeUptoSaid : Prop := drawUnlikeUptoRow.holds Try.pinned (OpenSpec.upto drawUnlikeSpec)

/-- 'torporlaw06.DrawBelow', WHERE WHAT IT READS IS OF BULK AT MOST 1048576: true; the input reads as it did. -/
def drawBelowUptoRow : OpenClaim := { program := "ythjbgidnoiedmaa", sum := "9708b9c69879f5bcf56fa741c5812da142a43655dc44f85c4dcfa973bcd6ecc2", func := "torpor/torporlaw06.DrawBelow", spec := "drawBelow", inPlace := ["math.Float64bits", "math.Float64frombits"], apart := false, narrowed := true }
def DrawBelowUptoSaid : Prop := drawBelowUptoRow.holds Try.pinned (OpenSpec.upto drawBelowSpec)

/-- 'torporlaw06.DrawMany', WHERE WHAT IT READS IS OF BULK AT MOST 1048576: true; the input reads as it did. -/
def drawManyUptoRow : OpenClaim := { program := "ythjbgidnoiedmaa", sum := "9708b9c69879f5bcf56fa741c5812da142a43655dc44f85c4dcfa973bcd6ecc2", func := "torpor/torporlaw06.DrawMany", spec := "drawMany", inPlace := ["math.Float64bits", "math.Float64frombits"], apart := false, narrowed := true }
def DrawManyUptoSaid : Prop := drawManyUptoRow.holds Try.pinned (OpenSpec.upto drawManySpec)

/-- 'torporlaw06.DrawUnits', WHERE WHAT IT READS IS OF BULK AT MOST 1048576: true; the input reads as it did. -/
def drawUnitsUptoRow : OpenClaim := { program := "ythjbgidnoiedmaa", sum := "9708b9c69879f5bcf56fa741c5812da142a43655dc44f85c4dcfa973bcd6ecc2", func := "torpor/torporlaw06.DrawUnits", spec := "drawUnits", inPlace := ["math.Float64bits", "math.Float64frombits"], apart := false, narrowed := true }
def DrawUnitsUptoSaid : Prop := drawUnitsUptoRow.holds Try.pinned (OpenSpec.upto drawUnitsSpec)

end Rows
end Go.Proofs.Ythjbgidnoiedmaa
