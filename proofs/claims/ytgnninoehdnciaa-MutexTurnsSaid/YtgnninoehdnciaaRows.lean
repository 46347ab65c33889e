/-
  No cell of these rows narrows 'for every input' (looked for: loops, veiled, ifaces, maps, wideKeys, modest, calm, conditions, laid).
  DERIVED. THE GIVEN ROWS OF THIS SEAT. 5 by the template 'for every input the law returns true; each argument reads behind the call as it read before'; 0 by the template 'total and deterministic' (their statements: YtgnninoehdnciaaTotals.lean).
  GIVEN WITH THE SEED: the statements are not yours to turn. If you find one false, say at which input.
  Laid BY PROGRAM, IN A SANDBOX (cutbox-rows.mjs): the forced cells as the released guide's own fill.sh prints them over the translation d6c77068664dfe33… (all of the seat's roots in one cut). By AI agents, Wed Nov 11 2026. No macro, syntax, notation, axiom, sorry.
-/
import Derived.Test.YtgnninoehdnciaaChecked
import GoSem.Claim
import GoSem.ClaimJoined
import GoSem.ClaimMapViews
import Derived.JoinedTies
import Derived.KernelRfl
namespace Go.Proofs.Ytgnninoehdnciaa
/- THE CELL 'sum', in the pinned program and in every row, IS THE sha256 OF THE DUMP (.gsa) THAT YtgnninoehdnciaaProg.lean LOADS. Nothing in Lean hashes anything: it is a label: what it is worth is what the hold of that sum in a sandbox is worth. -/
noncomputable def Try.pinned : Pinned := { name := "ytgnninoehdnciaa", sum := "d6c77068664dfe3356cb6f2429098b524564d95b6dd999207f18e85fcb6e86bc", checked := Try.checked }
namespace Rows
def none {H : Type} : Left H := { results := [], args := [] }

/-- 'torporlaw15.MutexLocks': WHATEVER THE INPUT: true; the input reads as it did. -/
def mutexLocksSpec : ChangeSpec := { name := "mutexLocks", fn := fun _ => fun
  | [d1, d2, d3] => { results := [.lit (.bool true)], args := [d1, d2, d3] }
  | _ => none }
def mutexLocksRow : OpenClaim := { program := "ytgnninoehdnciaa", sum := "d6c77068664dfe3356cb6f2429098b524564d95b6dd999207f18e85fcb6e86bc", func := "torpor/torporlaw15.MutexLocks", spec := "mutexLocks", apart := false }
def MutexLocksSaid : Prop := mutexLocksRow.holds Try.pinned (OpenSpec.ofChange mutexLocksSpec)

/-- ITS FALSE NEIGHBOUR: 'it returns false'. Refute it at one input. -/
def mutexLocksWrong : ChangeSpec := { name := "mutexLocks", fn := fun _ => fun
  | [d1, d2, d3] => { results := [.lit (.bool false)], args := [d1, d2, d3] }
  | _ => none }
def MutexLocksWrongFalsely : Prop := mutexLocksRow.holds Try.pinned (OpenSpec.ofChange mutexLocksWrong)

/-- 'torporlaw15.MutexUnlocks': WHATEVER THE INPUT: true; the input reads as it did. -/
def mutexUnlocksSpec : ChangeSpec := { name := "mutexUnlocks", fn := fun _ => fun
  | [d1, d2, d3] => { results := [.lit (.bool true)], args := [d1, d2, d3] }
  | _ => none }
def mutexUnlocksRow : OpenClaim := { program := "ytgnninoehdnciaa", sum := "d6c77068664dfe3356cb6f2429098b524564d95b6dd999207f18e85fcb6e86bc", func := "torpor/torporlaw15.MutexUnlocks", spec := "mutexUnlocks", apart := false }
def MutexUnlocksSaid : Prop := mutexUnlocksRow.holds Try.pinned (OpenSpec.ofChange mutexUnlocksSpec)

/-- ITS FALSE NEIGHBOUR: 'it returns false'. Refute it at one input. -/
def mutexUnlocksWrong : ChangeSpec := { name := "mutexUnlocks", fn := fun _ => fun
  | [d1, d2, d3] => { results := [.lit (.bool false)], args := [d1, d2, d3] }
  | _ => none }
def MutexUnlocksWrongFalsely : Prop := mutexUnlocksRow.holds Try.pinned (OpenSpec.ofChange mutexUnlocksWrong)

/-- 'torporlaw15.MutexOne': WHATEVER THE INPUT: true; the input reads as it did. -/
def mutexOneSpec : ChangeSpec := { name := "mutexOne", fn := fun _ => fun
  | [d1, d2, d3] => { results := [.lit (.bool true)], args := [d1, d2, d3] }
  | _ => none }
def mutexOneRow : OpenClaim := { program := "ytgnninoehdnciaa", sum := "d6c77068664dfe3356cb6f2429098b524564d95b6dd999207f18e85fcb6e86bc", func := "torpor/torporlaw15.MutexOne", spec := "mutexOne", apart := false }
def MutexOneSaid : Prop := mutexOneRow.holds Try.pinned (OpenSpec.ofChange mutexOneSpec)

/-- ITS FALSE NEIGHBOUR: 'it returns false'. Refute it at one input. -/
def mutexOneWrong : ChangeSpec := { name := "mutexOne", fn := fun _ => fun
  | [d1, d2, d3] => { results := [.lit (.bool false)], args := [d1, d2, d3] }
  | _ => none }
def MutexOneWrongFalsely : Prop := mutexOneRow.holds Try.pinned (OpenSpec.ofChange mutexOneWrong)

/-- 'torporlaw15.MutexAlone': WHATEVER THE INPUT: true; the input reads as it did. -/
def mutexAloneSpec : ChangeSpec := { name := "mutexAlone", fn := fun _ => fun
  | [d1, d2] => { results := [.lit (.bool true)], args := [d1, d2] }
  | _ => none }
def mutexAloneRow : OpenClaim := { program := "ytgnninoehdnciaa", sum := "d6c77068664dfe3356cb6f2429098b524564d95b6dd999207f18e85fcb6e86bc", func := "torpor/torporlaw15.MutexAlone", spec := "mutexAlone", apart := false }
def MutexAloneSaid : Prop := mutexAloneRow.holds Try.pinned (OpenSpec.ofChange mutexAloneSpec)

/-- ITS FALSE NEIGHBOUR: 'it returns false'. Refute it at one input. -/
def mutexAloneWrong : ChangeSpec := { name := "mutexAlone", fn := fun _ => fun
  | [d1, d2] => { results := [.lit (.bool false)], args := [d1, d2] }
  | _ => none }
def MutexAloneWrongFalsely : Prop := mutexAloneRow.holds Try.pinned (OpenSpec.ofChange mutexAloneWrong)

/-- 'torporlaw15.MutexTurns': WHATEVER THE INPUT: true; the input reads as it did. -/
def mutexTurnsSpec : ChangeSpec := { name := "mutexTurns", fn := fun _ => fun
  | [d1, d2, d3] => { results := [.lit (.bool true)], args := [d1, d2, d3] }
  | _ => none }
def mutexTurnsRow : OpenClaim := { program := "ytgnninoehdnciaa", sum := "d6c77068664dfe3356cb6f2429098b524564d95b6dd999207f18e85fcb6e86bc", func := "torpor/torporlaw15.MutexTurns", spec := "mutexTurns", apart := false }
def MutexTurnsSaid : Prop := mutexTurnsRow.holds Try.pinned (OpenSpec.ofChange mutexTurnsSpec)

/-- ITS FALSE NEIGHBOUR: 'it returns false'. Refute it at one input. -/
def mutexTurnsWrong : ChangeSpec := { name := "mutexTurns", fn := fun _ => fun
  | [d1, d2, d3] => { results := [.lit (.bool false)], args := [d1, d2, d3] }
  | _ => none }
def MutexTurnsWrongFalsely : Prop := mutexTurnsRow.holds Try.pinned (OpenSpec.ofChange mutexTurnsWrong)

/- THE SECOND FORM. 'bulk': how many values and letters a reading holds, each counted each time it is reached (what is shared counts as often as it is met; a slice's spare places count too). A statement '..UptoSaid' is the law's where the arguments, and the package variables that the reading takes, are together of bulk at most 1048576: NARROWER than '..Said'. Prove '..Said' where nothing that the law and all that it calls make is longer than what came in: it says more and counts as full. Else prove '..UptoSaid'. A law counts once. -/
mutual
def uptoBulk {H : Type} : DataW H → Nat
  | .lit (.string bytes) => bytes.length + 1
  | .lit _ => 1
  | .nil => 1
  | .ptr d => uptoBulk d + 1
  | .slice elems spare => uptoBulkAll elems + uptoBulkAll spare + 1
  | .agg parts => uptoBulkAll parts + 1
  | .iface _ d => uptoBulk d + 1
  | .map entries => uptoBulkEntries entries + 1
  | .held _ => 1
def uptoBulkAll {H : Type} : List (DataW H) → Nat
  | [] => 0
  | d :: r => uptoBulk d + uptoBulkAll r
def uptoBulkEntries {H : Type} : List (Lit × DataW H) → Nat
  | [] => 0
  | x :: r => uptoBulkEntry x + uptoBulkEntries r
def uptoBulkEntry {H : Type} : Lit × DataW H → Nat
  | (.string bytes, d) => bytes.length + uptoBulk d + 1
  | (_, d) => uptoBulk d + 1
 end
def uptoSmall : (H : Type) → List (DataW H) → Bool := fun _ ds => decide (uptoBulkAll ds ≤ 1048576)
def OpenSpec.upto (s : _root_.Go.ChangeSpec) : _root_.Go.OpenSpec := { _root_.Go.OpenSpec.ofChange s with cond := some uptoSmall }

/-- 'torporlaw15.MutexLocks', WHERE WHAT IT READS IS OF BULK AT MOST 1048576: true; the input reads as it did. -/
def mutexLocksUptoRow : OpenClaim := { program := "ytgnninoehdnciaa", sum := "d6c77068664dfe3356cb6f2429098b524564d95b6dd999207f18e85fcb6e86bc", func := "torpor/torporlaw15.MutexLocks", spec := "mutexLocks", apart := false, narrowed := true }
def MutexLocksUptoSaid : Prop := mutexLocksUptoRow.holds Try.pinned (OpenSpec.upto mutexLocksSpec)

/-- 'torporlaw15.MutexUnlocks', WHERE WHAT IT READS IS OF BULK AT MOST 1048576: true; the input reads as it did. -/
def mutexUnlocksUptoRow : OpenClaim := { program := "ytgnninoehdnciaa", sum := "d6c77068664dfe3356cb6f2429098b524564d95b6dd999207f18e85fcb6e86bc", func := "torpor/torporlaw15.MutexUnlocks", spec := "mutexUnlocks", apart := false, narrowed := true }
def MutexUnlocksUptoSaid : Prop := mutexUnlocksUptoRow.holds Try.pinned (OpenSpec.upto mutexUnlocksSpec)

/-- 'torporlaw15.MutexOne', WHERE WHAT IT READS IS OF BULK AT MOST 1048576: true; the input reads as it did. -/
def mutexOneUptoRow : OpenClaim := { program := "ytgnninoehdnciaa", sum := "d6c77068664dfe3356cb6f2429098b524564d95b6dd999207f18e85fcb6e86bc", func := "torpor/torporlaw15.MutexOne", spec := "mutexOne", apart := false, narrowed := true }
def MutexOneUptoSaid : Prop := mutexOneUptoRow.holds Try.pinned (OpenSpec.upto mutexOneSpec)

/-- 'torporlaw15.MutexAlone', WHERE WHAT IT READS IS OF BULK AT MOST 1048576: true; the input reads as it did. -/
def mutexAloneUptoRow : OpenClaim := { program := "ytgnninoehdnciaa", sum := "d6c77068664dfe3356cb6f2429098b524564d95b6dd999207f18e85fcb6e86bc", func := "torpor/torporlaw15.MutexAlone", spec := "mutexAlone", apart := false, narrowed := true }
def MutexAloneUptoSaid : Prop := mutexAloneUptoRow.holds Try.pinned (OpenSpec.upto mutexAloneSpec)

/-- 'torporlaw15.MutexTurns', WHERE WHAT IT READS IS OF BULK AT MOST 1048576: true; the input reads as it did. -/
def mutexTurnsUptoRow : OpenClaim := { program := "ytgnninoehdnciaa", sum := "d6c77068664dfe3356cb6f2429098b524564d95b6dd999207f18e85fcb6e86bc", func := "torpor/torporlaw15.MutexTurns", spec := "mutexTurns", apart := false, narrowed := true }
def MutexTurnsUptoSaid : Prop := mutexTurnsUptoRow.holds Try.pinned (OpenSpec.upto mutexTurnsSpec)

end Rows
end Go.Proofs.Ytgnninoehdnciaa
