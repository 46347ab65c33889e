/-
  No cell of these rows narrows 'for every input' (looked for: loops, veiled, ifaces, maps, wideKeys, modest, calm, conditions, laid).
  DERIVED. THE GIVEN ROWS OF THIS SEAT. 3 by the template 'for every input the law returns true; each argument reads behind the call as it read before'; 0 by the template 'total and deterministic' (their statements: YtapjehgfekjdaaaDoorTotals.lean).
  GIVEN WITH THE SEED: the statements are not yours to turn. If you find one false, say at which input.
  Laid BY PROGRAM, IN A SANDBOX (cutbox-rows.mjs): the forced cells as the released guide's own fill.sh prints them over the translation c319428ad093f722… (all of the seat's roots in one cut). By AI agents, Wed Nov 11 2026. No macro, syntax, notation, axiom, sorry.
-/
import Derived.Test.YtapjehgfekjdaaaDoorChecked
import GoSem.Claim
import GoSem.ClaimJoined
import GoSem.ClaimMapViews
import Derived.JoinedTies
import Derived.KernelRfl
namespace Go.Proofs.YtapjehgfekjdaaaDoor
/- THE CELL 'sum', in the pinned program and in every row, IS THE sha256 OF THE DUMP (.gsa) THAT YtapjehgfekjdaaaDoorProg.lean LOADS. Nothing in Lean hashes anything: it is a label: what it is worth is what the hold of that sum in a sandbox is worth. -/
noncomputable def Tryd.pinned : Pinned := { name := "ytapjehgfekjdaaadoor", sum := "c319428ad093f722a817058f440daa70f26526d7d9ad1c5b378761ca61c987f7", checked := Tryd.checked }
namespace Rows
def none {H : Type} : Left H := { results := [], args := [] }

/-- 'torporlaw21.PrimSteps': WHATEVER THE INPUT: true; the input reads as it did. -/
def primStepsSpec : ChangeSpec := { name := "primSteps", fn := fun _ => fun
  | [d1, d2, d3] => { results := [.lit (.bool true)], args := [d1, d2, d3] }
  | _ => none }
def primStepsRow : OpenClaim := { program := "ytapjehgfekjdaaadoor", sum := "c319428ad093f722a817058f440daa70f26526d7d9ad1c5b378761ca61c987f7", func := "torpor/torporlaw21.PrimSteps", spec := "primSteps", unfollowed := true, recurses := true, named := ["torpor/cond.room", "torpor/rw.done"], apart := false }
def PrimStepsSaid : Prop := primStepsRow.holds Tryd.pinned (OpenSpec.ofChange primStepsSpec)

/-- ITS FALSE NEIGHBOUR: 'it returns false'. Refute it at one input. -/
def primStepsWrong : ChangeSpec := { name := "primSteps", fn := fun _ => fun
  | [d1, d2, d3] => { results := [.lit (.bool false)], args := [d1, d2, d3] }
  | _ => none }
def PrimStepsWrongFalsely : Prop := primStepsRow.holds Tryd.pinned (OpenSpec.ofChange primStepsWrong)

/-- 'torporlaw21.PrimMakes': WHATEVER THE INPUT: true; the input reads as it did. -/
def primMakesSpec : ChangeSpec := { name := "primMakes", fn := fun _ => fun
  | [d1, d2, d3] => { results := [.lit (.bool true)], args := [d1, d2, d3] }
  | _ => none }
def primMakesRow : OpenClaim := { program := "ytapjehgfekjdaaadoor", sum := "c319428ad093f722a817058f440daa70f26526d7d9ad1c5b378761ca61c987f7", func := "torpor/torporlaw21.PrimMakes", spec := "primMakes", unfollowed := true, recurses := true, named := ["torpor/cond.room", "torpor/rw.done"], apart := false }
def PrimMakesSaid : Prop := primMakesRow.holds Tryd.pinned (OpenSpec.ofChange primMakesSpec)

/-- ITS FALSE NEIGHBOUR: 'it returns false'. Refute it at one input. -/
def primMakesWrong : ChangeSpec := { name := "primMakes", fn := fun _ => fun
  | [d1, d2, d3] => { results := [.lit (.bool false)], args := [d1, d2, d3] }
  | _ => none }
def PrimMakesWrongFalsely : Prop := primMakesRow.holds Tryd.pinned (OpenSpec.ofChange primMakesWrong)

/-- 'torporlaw21.PrimOwn': WHATEVER THE INPUT: true; the input reads as it did. -/
def primOwnSpec : ChangeSpec := { name := "primOwn", fn := fun _ => fun
  | [d1, d2, d3] => { results := [.lit (.bool true)], args := [d1, d2, d3] }
  | _ => none }
def primOwnRow : OpenClaim := { program := "ytapjehgfekjdaaadoor", sum := "c319428ad093f722a817058f440daa70f26526d7d9ad1c5b378761ca61c987f7", func := "torpor/torporlaw21.PrimOwn", spec := "primOwn", unfollowed := true, recurses := true, named := ["torpor/cond.room", "torpor/rw.done"], apart := false }
def PrimOwnSaid : Prop := primOwnRow.holds Tryd.pinned (OpenSpec.ofChange primOwnSpec)

/-- ITS FALSE NEIGHBOUR: 'it returns false'. Refute it at one input. -/
def primOwnWrong : ChangeSpec := { name := "primOwn", fn := fun _ => fun
  | [d1, d2, d3] => { results := [.lit (.bool false)], args := [d1, d2, d3] }
  | _ => none }
def PrimOwnWrongFalsely : Prop := primOwnRow.holds Tryd.pinned (OpenSpec.ofChange primOwnWrong)

/- THE SECOND FORM. 'bulk': how many values and letters a reading holds, each counted each time it is reached (what is shared counts as often as it is met; a slice's spare places count too). A statement '..UptoSaid' is the law's where the arguments, and the package variables that the reading takes, are together of bulk at most 1048576: NARROWER than '..Said'. Prove '..Said' where nothing that the law and all that it calls make is longer than what came in: it says more and counts as full. Else prove '..UptoSaid'. A law counts once. -/
mutual
def uptoBulk {H : Type} : DataW H → Nat
  | .lit (.string bytes) => bytes.length + 1
  | .lit _ => 1
  | .nil => 1
  | .ptr d => uptoBulk d + 1
  | .slice elems spare => uptoBulkAll elems + uptoBulkAll spare + 1
  | .agg parts => uptoBulkAll parts + 1
  | .iface _ d => uptoBulk d + 1
  | .map entries => uptoBulkEntries entries + 1
  | .held _ => 1
def uptoBulkAll {H : Type} : List (DataW H) → Nat
  | [] => 0
  | d :: r => uptoBulk d + uptoBulkAll r
def uptoBulkEntries {H : Type} : List (Lit × DataW H) → Nat
  | [] => 0
  | x :: r => uptoBulkEntry x + uptoBulkEntries r
def uptoBulkEntry {H : Type} : Lit × DataW H → Nat
  | (.string bytes, d) => bytes.length + uptoBulk d + 1
  | (_, d) => uptoBulk d + 1
 end
def uptoSmall : (H : Type) → List (DataW H) → Bool := fun _ ds => decide (uptoBulkAll ds ≤ 1048576)
def OpenSpec.upto (s : _root_.Go.ChangeSpec) : _root_.Go.OpenSpec := { _root_.Go.OpenSpec.ofChange s with cond := some uptoSmall }

/-- 'torporlaw21.PrimSteps', WHERE WHAT IT READS IS OF BULK AT MOST 1048576: true; the input reads as it did. -/
def primStepsUptoRow : OpenClaim := { program := "ytapjehgfekjdaaadoor", sum := "c319428ad093f722a817058f440daa70f26526d7d9ad1c5b378761ca61c987f7", func := "torpor/torporlaw21.PrimSteps", spec := "primSteps", unfollowed := true, recurses := true, named := ["torpor/cond.room", "torpor/rw.done"], apart := false, narrowed := true }
def PrimStepsUptoSaid : Prop := primStepsUptoRow.holds Tryd.pinned (OpenSpec.upto primStepsSpec)

/-- 'torporlaw21.PrimMakes', WHERE WHAT IT READS IS OF BULK AT MOST 1048576: true; the input reads as it did. -/
def primMakesUptoRow : OpenClaim := { program := "ytapjehgfekjdaaadoor", sum := "c319428ad093f722a817058f440daa70f26526d7d9ad1c5b378761ca61c987f7", func := "torpor/torporlaw21.PrimMakes", spec := "primMakes", unfollowed := true, recurses := true, named := ["torpor/cond.room", "torpor/rw.done"], apart := false, narrowed := true }
def PrimMakesUptoSaid : Prop := primMakesUptoRow.holds Tryd.pinned (OpenSpec.upto primMakesSpec)

/-- 'torporlaw21.PrimOwn', WHERE WHAT IT READS IS OF BULK AT MOST 1048576: true; the input reads as it did. -/
def primOwnUptoRow : OpenClaim := { program := "ytapjehgfekjdaaadoor", sum := "c319428ad093f722a817058f440daa70f26526d7d9ad1c5b378761ca61c987f7", func := "torpor/torporlaw21.PrimOwn", spec := "primOwn", unfollowed := true, recurses := true, named := ["torpor/cond.room", "torpor/rw.done"], apart := false, narrowed := true }
def PrimOwnUptoSaid : Prop := primOwnUptoRow.holds Tryd.pinned (OpenSpec.upto primOwnSpec)

end Rows
end Go.Proofs.YtapjehgfekjdaaaDoor
