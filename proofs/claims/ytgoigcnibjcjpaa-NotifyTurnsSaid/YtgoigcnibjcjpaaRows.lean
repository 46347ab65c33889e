/-
  No cell of these rows narrows 'for every input' (looked for: loops, veiled, ifaces, maps, wideKeys, modest, calm, conditions, laid).
  DERIVED. THE GIVEN ROWS OF THIS SEAT. 4 by the template 'for every input the law returns true; each argument reads behind the call as it read before'; 0 by the template 'total and deterministic' (their statements: YtgoigcnibjcjpaaTotals.lean).
  GIVEN WITH THE SEED: the statements are not yours to turn. If you find one false, say at which input.
  Laid BY PROGRAM, IN A SANDBOX (cutbox-rows.mjs): the forced cells as the released guide's own fill.sh prints them over the translation 6431905f0dc3922a… (all of the seat's roots in one cut). By AI agents, Wed Nov 11 2026. No macro, syntax, notation, axiom, sorry.
-/
import Derived.Test.YtgoigcnibjcjpaaChecked
import GoSem.Claim
import GoSem.ClaimJoined
import GoSem.ClaimMapViews
import Derived.JoinedTies
import Derived.KernelRfl
namespace Go.Proofs.Ytgoigcnibjcjpaa
/- THE CELL 'sum', in the pinned program and in every row, IS THE sha256 OF THE DUMP (.gsa) THAT YtgoigcnibjcjpaaProg.lean LOADS. Nothing in Lean hashes anything: it is a label: what it is worth is what the hold of that sum in a sandbox is worth. -/
noncomputable def Try.pinned : Pinned := { name := "ytgoigcnibjcjpaa", sum := "6431905f0dc3922a9de06f87032a10237c15834e1e7e2ea048bb46a2bedce284", checked := Try.checked }
namespace Rows
def none {H : Type} : Left H := { results := [], args := [] }

/-- 'torporlaw11.NotifyAnswers': WHATEVER THE INPUT: true; the input reads as it did. -/
def notifyAnswersSpec : ChangeSpec := { name := "notifyAnswers", fn := fun _ => fun
  | [d1, d2, d3] => { results := [.lit (.bool true)], args := [d1, d2, d3] }
  | _ => none }
def notifyAnswersRow : OpenClaim := { program := "ytgoigcnibjcjpaa", sum := "6431905f0dc3922a9de06f87032a10237c15834e1e7e2ea048bb46a2bedce284", func := "torpor/torporlaw11.NotifyAnswers", spec := "notifyAnswers", unfollowed := true, recurses := true, apart := false }
def NotifyAnswersSaid : Prop := notifyAnswersRow.holds Try.pinned (OpenSpec.ofChange notifyAnswersSpec)

/-- ITS FALSE NEIGHBOUR: 'it returns false'. Refute it at one input. -/
def notifyAnswersWrong : ChangeSpec := { name := "notifyAnswers", fn := fun _ => fun
  | [d1, d2, d3] => { results := [.lit (.bool false)], args := [d1, d2, d3] }
  | _ => none }
def NotifyAnswersWrongFalsely : Prop := notifyAnswersRow.holds Try.pinned (OpenSpec.ofChange notifyAnswersWrong)

/-- 'torporlaw11.NotifyTells': WHATEVER THE INPUT: true; the input reads as it did. -/
def notifyTellsSpec : ChangeSpec := { name := "notifyTells", fn := fun _ => fun
  | [d] => { results := [.lit (.bool true)], args := [d] }
  | _ => none }
def notifyTellsRow : OpenClaim := { program := "ytgoigcnibjcjpaa", sum := "6431905f0dc3922a9de06f87032a10237c15834e1e7e2ea048bb46a2bedce284", func := "torpor/torporlaw11.NotifyTells", spec := "notifyTells", unfollowed := true, recurses := true, apart := false }
def NotifyTellsSaid : Prop := notifyTellsRow.holds Try.pinned (OpenSpec.ofChange notifyTellsSpec)

/-- ITS FALSE NEIGHBOUR: 'it returns false'. Refute it at one input. -/
def notifyTellsWrong : ChangeSpec := { name := "notifyTells", fn := fun _ => fun
  | [d] => { results := [.lit (.bool false)], args := [d] }
  | _ => none }
def NotifyTellsWrongFalsely : Prop := notifyTellsRow.holds Try.pinned (OpenSpec.ofChange notifyTellsWrong)

/-- 'torporlaw11.NotifyTurns': WHATEVER THE INPUT: true; the input reads as it did. -/
def notifyTurnsSpec : ChangeSpec := { name := "notifyTurns", fn := fun _ => fun
  | [d1, d2] => { results := [.lit (.bool true)], args := [d1, d2] }
  | _ => none }
def notifyTurnsRow : OpenClaim := { program := "ytgoigcnibjcjpaa", sum := "6431905f0dc3922a9de06f87032a10237c15834e1e7e2ea048bb46a2bedce284", func := "torpor/torporlaw11.NotifyTurns", spec := "notifyTurns", unfollowed := true, recurses := true, apart := false }
def NotifyTurnsSaid : Prop := notifyTurnsRow.holds Try.pinned (OpenSpec.ofChange notifyTurnsSpec)

/-- ITS FALSE NEIGHBOUR: 'it returns false'. Refute it at one input. -/
def notifyTurnsWrong : ChangeSpec := { name := "notifyTurns", fn := fun _ => fun
  | [d1, d2] => { results := [.lit (.bool false)], args := [d1, d2] }
  | _ => none }
def NotifyTurnsWrongFalsely : Prop := notifyTurnsRow.holds Try.pinned (OpenSpec.ofChange notifyTurnsWrong)

/-- 'torporlaw11.NotifyOut': WHATEVER THE INPUT: true; the input reads as it did. -/
def notifyOutSpec : ChangeSpec := { name := "notifyOut", fn := fun _ => fun
  | [d1, d2, d3] => { results := [.lit (.bool true)], args := [d1, d2, d3] }
  | _ => none }
def notifyOutRow : OpenClaim := { program := "ytgoigcnibjcjpaa", sum := "6431905f0dc3922a9de06f87032a10237c15834e1e7e2ea048bb46a2bedce284", func := "torpor/torporlaw11.NotifyOut", spec := "notifyOut", unfollowed := true, recurses := true, apart := false }
def NotifyOutSaid : Prop := notifyOutRow.holds Try.pinned (OpenSpec.ofChange notifyOutSpec)

/-- ITS FALSE NEIGHBOUR: 'it returns false'. Refute it at one input. -/
def notifyOutWrong : ChangeSpec := { name := "notifyOut", fn := fun _ => fun
  | [d1, d2, d3] => { results := [.lit (.bool false)], args := [d1, d2, d3] }
  | _ => none }
def NotifyOutWrongFalsely : Prop := notifyOutRow.holds Try.pinned (OpenSpec.ofChange notifyOutWrong)

/- THE SECOND FORM. 'bulk': how many values and letters a reading holds, each counted each time it is reached (what is shared counts as often as it is met; a slice's spare places count too). A statement '..UptoSaid' is the law's where the arguments, and the package variables that the reading takes, are together of bulk at most 1048576: NARROWER than '..Said'. Prove '..Said' where nothing that the law and all that it calls make is longer than what came in: it says more and counts as full. Else prove '..UptoSaid'. A law counts once. -/
mutual
def uptoBulk {H : Type} : DataW H → Nat
  | .lit (.string bytes) => bytes.length + 1
  | .lit _ => 1
  | .nil => 1
  | .ptr d => uptoBulk d + 1
  | .slice elems spare => uptoBulkAll elems + uptoBulkAll spare + 1
  | .agg parts => uptoBulkAll parts + 1
  | .iface _ d => uptoBulk d + 1
  | .map entries => uptoBulkEntries entries + 1
  | .held _ => 1
def uptoBulkAll {H : Type} : List (DataW H) → Nat
  | [] => 0
  | d :: r => uptoBulk d + uptoBulkAll r
def uptoBulkEntries {H : Type} : List (Lit × DataW H) → Nat
  | [] => 0
  | x :: r => uptoBulkEntry x + uptoBulkEntries r
def uptoBulkEntry {H : Type} : Lit × DataW H → Nat
  | (.string bytes, d) => bytes.length + uptoBulk d + 1
  | (_, d) => uptoBulk d + 1
 end
def uptoSmall : (H : Type) → List (DataW H) → Bool := fun _ ds => decide (uptoBulkAll ds ≤ 1048576)
def OpenSpec.upto (s : _root_.Go.ChangeSpec) : _root_.Go.OpenSpec := { _root_.Go.OpenSpec.ofChange s with cond := some uptoSmall }

/-- 'torporlaw11.NotifyAnswers', WHERE WHAT IT READS IS OF BULK AT MOST 1048576: true; the input reads as it did. -/
def notifyAnswersUptoRow : OpenClaim := { program := "ytgoigcnibjcjpaa", sum := "6431905f0dc3922a9de06f87032a10237c15834e1e7e2ea048bb46a2bedce284", func := "torpor/torporlaw11.NotifyAnswers", spec := "notifyAnswers", unfollowed := true, recurses := true, apart := false, narrowed := true }
def NotifyAnswersUptoSaid : Prop := notifyAnswersUptoRow.holds Try.pinned (OpenSpec.upto notifyAnswersSpec)

/-- 'torporlaw11.NotifyTells', WHERE WHAT IT READS IS OF BULK AT MOST 1048576: true; the input reads as it did. -/
def notifyTellsUptoRow : OpenClaim := { program := "ytgoigcnibjcjpaa", sum := "6431905f0dc3922a9de06f87032a10237c15834e1e7e2ea048bb46a2bedce284", func := "torpor/torporlaw11.NotifyTells", spec := "notifyTells", unfollowed := true, recurses := true, apart := false, narrowed := true }
def NotifyTellsUptoSaid : Prop := notifyTellsUptoRow.holds Try.pinned (OpenSpec.upto notifyTellsSpec)

/-- 'torporlaw11.NotifyTurns', WHERE WHAT IT READS IS OF BULK AT MOST 1048576: true; the input reads as it did. -/
def notifyTurnsUptoRow : OpenClaim := { program := "ytgoigcnibjcjpaa", sum := "6431905f0dc3922a9de06f87032a10237c15834e1e7e2ea048bb46a2bedce284", func := "torpor/torporlaw11.NotifyTurns", spec := "notifyTurns", unfollowed := true, recurses := true, apart := false, narrowed := true }
def NotifyTurnsUptoSaid : Prop := notifyTurnsUptoRow.holds Try.pinned (OpenSpec.upto notifyTurnsSpec)

/-- 'torporlaw11.NotifyOut', WHERE WHAT IT READS IS OF BULK AT MOST 1048576: true; the input reads as it did. -/
def notifyOutUptoRow : OpenClaim := { program := "ytgoigcnibjcjpaa", sum := "6431905f0dc3922a9de06f87032a10237c15834e1e7e2ea048bb46a2bedce284", func := "torpor/torporlaw11.NotifyOut", spec := "notifyOut", unfollowed := true, recurses := true, apart := false, narrowed := true }
def NotifyOutUptoSaid : Prop := notifyOutUptoRow.holds Try.pinned (OpenSpec.upto notifyOutSpec)

end Rows
end Go.Proofs.Ytgoigcnibjcjpaa
