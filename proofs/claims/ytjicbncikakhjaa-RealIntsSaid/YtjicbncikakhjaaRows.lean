/-
  No cell of these rows narrows 'for every input' (looked for: loops, veiled, ifaces, maps, wideKeys, modest, calm, conditions, laid).
  DERIVED. THE GIVEN ROWS OF THIS SEAT. 7 by the template 'for every input the law returns true; each argument reads behind the call as it read before'; 0 by the template 'total and deterministic' (their statements: YtjicbncikakhjaaTotals.lean).
  GIVEN WITH THE SEED: the statements are not yours to turn. If you find one false, say at which input.
  Laid BY PROGRAM, IN A SANDBOX (cutbox-rows.mjs): the forced cells as the released guide's own fill.sh prints them over the translation ba46e070b7623596… (all of the seat's roots in one cut). By AI agents, Wed Nov 11 2026. No macro, syntax, notation, axiom, sorry.
-/
import Derived.Test.YtjicbncikakhjaaChecked
import GoSem.Claim
import GoSem.ClaimJoined
import GoSem.ClaimMapViews
import Derived.JoinedTies
import Derived.KernelRfl
namespace Go.Proofs.Ytjicbncikakhjaa
/- THE CELL 'sum', in the pinned program and in every row, IS THE sha256 OF THE DUMP (.gsa) THAT YtjicbncikakhjaaProg.lean LOADS. Nothing in Lean hashes anything: it is a label: what it is worth is what the hold of that sum in a sandbox is worth. -/
noncomputable def Try.pinned : Pinned := { name := "ytjicbncikakhjaa", sum := "ba46e070b76235965c9716c193d90638e0c23e2cbd27a1a8627d9fc1a4739748", checked := Try.checked }
namespace Rows
def none {H : Type} : Left H := { results := [], args := [] }

/-- 'torporlaw05.RealAnswers': WHATEVER THE INPUT: true; the input reads as it did. -/
def realAnswersSpec : ChangeSpec := { name := "realAnswers", fn := fun _ => fun
  | [d1, d2] => { results := [.lit (.bool true)], args := [d1, d2] }
  | _ => none }
def realAnswersRow : OpenClaim := { program := "ytjicbncikakhjaa", sum := "ba46e070b76235965c9716c193d90638e0c23e2cbd27a1a8627d9fc1a4739748", func := "torpor/torporlaw05.RealAnswers", spec := "realAnswers", inPlace := ["math.Float64frombits", "math.Float64bits", "math.archCeil", "math.archFloor", "math.archTrunc"], apart := false }
def RealAnswersSaid : Prop := realAnswersRow.holds Try.pinned (OpenSpec.ofChange realAnswersSpec)

/-- ITS FALSE NEIGHBOUR: 'it returns false'. Refute it at one input. -/
def realAnswersWrong : ChangeSpec := { name := "realAnswers", fn := fun _ => fun
  | [d1, d2] => { results := [.lit (.bool false)], args := [d1, d2] }
  | _ => none }
def RealAnswersWrongFalsely : Prop := realAnswersRow.holds Try.pinned (OpenSpec.ofChange realAnswersWrong)

/-- 'torporlaw05.RealSums': WHATEVER THE INPUT: true; the input reads as it did. -/
def realSumsSpec : ChangeSpec := { name := "realSums", fn := fun _ => fun
  | [d1, d2] => { results := [.lit (.bool true)], args := [d1, d2] }
  | _ => none }
def realSumsRow : OpenClaim := { program := "ytjicbncikakhjaa", sum := "ba46e070b76235965c9716c193d90638e0c23e2cbd27a1a8627d9fc1a4739748", func := "torpor/torporlaw05.RealSums", spec := "realSums", inPlace := ["math.Float64frombits", "math.Float64bits", "math.archCeil", "math.archFloor", "math.archTrunc"], apart := false }
def RealSumsSaid : Prop := realSumsRow.holds Try.pinned (OpenSpec.ofChange realSumsSpec)

/-- ITS FALSE NEIGHBOUR: 'it returns false'. Refute it at one input. -/
def realSumsWrong : ChangeSpec := { name := "realSums", fn := fun _ => fun
  | [d1, d2] => { results := [.lit (.bool false)], args := [d1, d2] }
  | _ => none }
def RealSumsWrongFalsely : Prop := realSumsRow.holds Try.pinned (OpenSpec.ofChange realSumsWrong)

/-- 'torporlaw05.RealInts': WHATEVER THE INPUT: true; the input reads as it did. -/
def realIntsSpec : ChangeSpec := { name := "realInts", fn := fun _ => fun
  | [d1, d2] => { results := [.lit (.bool true)], args := [d1, d2] }
  | _ => none }
def realIntsRow : OpenClaim := { program := "ytjicbncikakhjaa", sum := "ba46e070b76235965c9716c193d90638e0c23e2cbd27a1a8627d9fc1a4739748", func := "torpor/torporlaw05.RealInts", spec := "realInts", inPlace := ["math.Float64frombits", "math.Float64bits", "math.archCeil", "math.archFloor", "math.archTrunc"], apart := false }
def RealIntsSaid : Prop := realIntsRow.holds Try.pinned (OpenSpec.ofChange realIntsSpec)

/-- ITS FALSE NEIGHBOUR: 'it returns false'. Refute it at one input. -/
def realIntsWrong : ChangeSpec := { name := "realInts", fn := fun _ => fun
  | [d1, d2] => { results := [.lit (.bool false)], args := [d1, d2] }
  | _ => none }
def RealIntsWrongFalsely : Prop := realIntsRow.holds Try.pinned (OpenSpec.ofChange realIntsWrong)

/-- 'torporlaw05.RealOrder': WHATEVER THE INPUT: true; the input reads as it did. -/
def realOrderSpec : ChangeSpec := { name := "realOrder", fn := fun _ => fun
  | [d1, d2] => { results := [.lit (.bool true)], args := [d1, d2] }
  | _ => none }
def realOrderRow : OpenClaim := { program := "ytjicbncikakhjaa", sum := "ba46e070b76235965c9716c193d90638e0c23e2cbd27a1a8627d9fc1a4739748", func := "torpor/torporlaw05.RealOrder", spec := "realOrder", inPlace := ["math.Float64frombits", "math.Float64bits", "math.archCeil", "math.archFloor", "math.archTrunc"], apart := false }
def RealOrderSaid : Prop := realOrderRow.holds Try.pinned (OpenSpec.ofChange realOrderSpec)

/-- ITS FALSE NEIGHBOUR: 'it returns false'. Refute it at one input. -/
def realOrderWrong : ChangeSpec := { name := "realOrder", fn := fun _ => fun
  | [d1, d2] => { results := [.lit (.bool false)], args := [d1, d2] }
  | _ => none }
def RealOrderWrongFalsely : Prop := realOrderRow.holds Try.pinned (OpenSpec.ofChange realOrderWrong)

/-- 'torporlaw05.RealSteps': WHATEVER THE INPUT: true; the input reads as it did. -/
def realStepsSpec : ChangeSpec := { name := "realSteps", fn := fun _ => fun
  | [d1, d2] => { results := [.lit (.bool true)], args := [d1, d2] }
  | _ => none }
def realStepsRow : OpenClaim := { program := "ytjicbncikakhjaa", sum := "ba46e070b76235965c9716c193d90638e0c23e2cbd27a1a8627d9fc1a4739748", func := "torpor/torporlaw05.RealSteps", spec := "realSteps", inPlace := ["math.Float64frombits", "math.Float64bits", "math.archCeil", "math.archFloor", "math.archTrunc"], apart := false }
def RealStepsSaid : Prop := realStepsRow.holds Try.pinned (OpenSpec.ofChange realStepsSpec)

/-- ITS FALSE NEIGHBOUR: 'it returns false'. Refute it at one input. -/
def realStepsWrong : ChangeSpec := { name := "realSteps", fn := fun _ => fun
  | [d1, d2] => { results := [.lit (.bool false)], args := [d1, d2] }
  | _ => none }
def RealStepsWrongFalsely : Prop := realStepsRow.holds Try.pinned (OpenSpec.ofChange realStepsWrong)

/-- 'torporlaw05.RealBack': WHATEVER THE INPUT: true; the input reads as it did. -/
def realBackSpec : ChangeSpec := { name := "realBack", fn := fun _ => fun
  | [d1, d2] => { results := [.lit (.bool true)], args := [d1, d2] }
  | _ => none }
def realBackRow : OpenClaim := { program := "ytjicbncikakhjaa", sum := "ba46e070b76235965c9716c193d90638e0c23e2cbd27a1a8627d9fc1a4739748", func := "torpor/torporlaw05.RealBack", spec := "realBack", inPlace := ["math.Float64frombits", "math.Float64bits", "math.archCeil", "math.archFloor", "math.archTrunc"], apart := false }
def RealBackSaid : Prop := realBackRow.holds Try.pinned (OpenSpec.ofChange realBackSpec)

/-- ITS FALSE NEIGHBOUR: 'it returns false'. Refute it at one input. -/
def realBackWrong : ChangeSpec := { name := "realBack", fn := fun _ => fun
  | [d1, d2] => { results := [.lit (.bool false)], args := [d1, d2] }
  | _ => none }
def RealBackWrongFalsely : Prop := realBackRow.holds Try.pinned (OpenSpec.ofChange realBackWrong)

/-- 'torporlaw05.RealNone': WHATEVER THE INPUT: true; the input reads as it did. -/
def realNoneSpec : ChangeSpec := { name := "realNone", fn := fun _ => fun
  | [d1, d2] => { results := [.lit (.bool true)], args := [d1, d2] }
  | _ => none }
def realNoneRow : OpenClaim := { program := "ytjicbncikakhjaa", sum := "ba46e070b76235965c9716c193d90638e0c23e2cbd27a1a8627d9fc1a4739748", func := "torpor/torporlaw05.RealNone", spec := "realNone", inPlace := ["math.Float64frombits", "math.Float64bits", "math.archCeil", "math.archFloor", "math.archTrunc"], apart := false }
def RealNoneSaid : Prop := realNoneRow.holds Try.pinned (OpenSpec.ofChange realNoneSpec)

/-- ITS FALSE NEIGHBOUR: 'it returns false'. Refute it at one input. -/
def realNoneWrong : ChangeSpec := { name := "realNone", fn := fun _ => fun
  | [d1, d2] => { results := [.lit (.bool false)], args := [d1, d2] }
  | _ => none }
def RealNoneWrongFalsely : Prop := realNoneRow.holds Try.pinned (OpenSpec.ofChange realNoneWrong)

/- THE SECOND FORM. 'bulk': how many values and letters a reading holds, each counted each time it is reached (what is shared counts as often as it is met; a slice's spare places count too). A statement '..UptoSaid' is the law's where the arguments, and the package variables that the reading takes, are together of bulk at most 1048576: NARROWER than '..Said'. Prove '..Said' where nothing that the law and all that it calls make is longer than what came in: it says more and counts as full. Else prove '..UptoSaid'. A law counts once. -/
mutual
def uptoBulk {H : Type} : DataW H → Nat
  | .lit (.string bytes) => bytes.length + 1
  | .lit _ => 1
  | .nil => 1
  | .ptr d => uptoBulk d + 1
  | .slice elems spare => uptoBulkAll elems + uptoBulkAll spare + 1
  | .agg parts => uptoBulkAll parts + 1
  | .iface _ d => uptoBulk d + 1
  | .map entries => uptoBulkEntries entries + 1
  | .held _ => 1
def uptoBulkAll {H : Type} : List (DataW H) → Nat
  | [] => 0
  | d :: r => uptoBulk d + uptoBulkAll r
def uptoBulkEntries {H : Type} : List (Lit × DataW H) → Nat
  | [] => 0
  | x :: r => uptoBulkEntry x + uptoBulkEntries r
def uptoBulkEntry {H : Type} : Lit × DataW H → Nat
  | (.string bytes, d) => bytes.length + uptoBulk d + 1
  | (_, d) => uptoBulk d + 1
 end
def uptoSmall : (H : Type) → List (DataW H) → Bool := fun _ ds => decide (uptoBulkAll ds ≤ 1048576)
def OpenSpec.upto (s : _root_.Go.ChangeSpec) : _root_.Go.OpenSpec := { _root_.Go.OpenSpec.ofChange s with cond := some uptoSmall }

/-- 'torporlaw05.RealAnswers', WHERE WHAT IT READS IS OF BULK AT MOST 1048576: true; the input reads as it did. -/
def realAnswersUptoRow : OpenClaim := { program := "ytjicbncikakhjaa", sum := "ba46e070b76235965c9716c193d90638e0c23e2cbd27a1a8627d9fc1a4739748", func := "torpor/torporlaw05.RealAnswers", spec := "realAnswers", inPlace := ["math.Float64frombits", "math.Float64bits", "math.archCeil", "math.archFloor", "math.archTrunc"], apart := false, narrowed := true }
def RealAnswersUptoSaid : Prop := realAnswersUptoRow.holds Try.pinned (OpenSpec.upto realAnswersSpec)

/-- 'torporlaw05.RealSums', WHERE WHAT IT READS IS OF BULK AT MOST 1048576: true; the input reads as it did. -/
def realSumsUptoRow : OpenClaim := { program := "ytjicbncikakhjaa", sum := "ba46e070b76235965c9716c193d90638e0c23e2cbd27a1a8627d9fc1a4739748", func := "torpor/torporlaw05.RealSums", spec := "realSums", inPlace := ["math.Float64frombits", "math.Float64bits", "math.archCeil", "math.archFloor", "math.archTrunc"], apart := false, narrowed := true }
def RealSumsUptoSaid : Prop := realSumsUptoRow.holds Try.pinned (OpenSpec.upto realSumsSpec)

/-- 'torporlaw05.RealInts', WHERE WHAT IT READS IS OF BULK AT MOST 1048576: true; the input reads as it did. -/
def realIntsUptoRow : OpenClaim := { program := "ytjicbncikakhjaa", sum := "ba46e070b76235965c9716c193d90638e0c23e2cbd27a1a8627d9fc1a4739748", func := "torpor/torporlaw05.RealInts", spec := "realInts", inPlace := ["math.Float64frombits", "math.Float64bits", "math.archCeil", "math.archFloor", "math.archTrunc"], apart := false, narrowed := true }
def RealIntsUptoSaid : Prop := realIntsUptoRow.holds Try.pinned (OpenSpec.upto realIntsSpec)

/-- 'torporlaw05.RealOrder', WHERE WHAT IT READS IS OF BULK AT MOST 1048576: true; the input reads as it did. -/
def realOrderUptoRow : OpenClaim := { program := "ytjicbncikakhjaa", sum := "ba46e070b76235965c9716c193d90638e0c23e2cbd27a1a8627d9fc1a4739748", func := "torpor/torporlaw05.RealOrder", spec := "realOrder", inPlace := ["math.Float64frombits", "math.Float64bits", "math.archCeil", "math.archFloor", "math.archTrunc"], apart := false, narrowed := true }
def RealOrderUptoSaid : Prop := realOrderUptoRow.holds Try.pinned (OpenSpec.upto realOrderSpec)

/-- 'torporlaw05.RealSteps', WHERE WHAT IT READS IS OF BULK AT MOST 1048576: true; the input reads as it did. -/
def realStepsUptoRow : OpenClaim := { program := "ytjicbncikakhjaa", sum := "ba46e070b76235965c9716c193d90638e0c23e2cbd27a1a8627d9fc1a4739748", func := "torpor/torporlaw05.RealSteps", spec := "realSteps", inPlace := ["math.Float64frombits", "math.Float64bits", "math.archCeil", "math.archFloor", "math.archTrunc"], apart := false, narrowed := true }
def RealStepsUptoSaid : Prop := realStepsUptoRow.holds Try.pinned (OpenSpec.upto realStepsSpec)

/-- 'torporlaw05.RealBack', WHERE WHAT IT READS IS OF BULK AT MOST 1048576: true; the input reads as it did. -/
def realBackUptoRow : OpenClaim := { program := "ytjicbncikakhjaa", sum := "ba46e070b76235965c9716c193d90638e0c23e2cbd27a1a8627d9fc1a4739748", func := "torpor/torporlaw05.RealBack", spec := "realBack", inPlace := ["math.Float64frombits", "math.Float64bits", "math.archCeil", "math.archFloor", "math.archTrunc"], apart := false, narrowed := true }
def RealBackUptoSaid : Prop := realBackUptoRow.holds Try.pinned (OpenSpec.upto realBackSpec)

/-- 'torporlaw05.RealNone', WHERE WHAT IT READS IS OF BULK AT MOST 1048576: true; the input reads as it did. -/
def realNoneUptoRow : OpenClaim := { program := "ytjicbncikakhjaa", sum := "ba46e070b76235965c9716c193d90638e0c23e2cbd27a1a8627d9fc1a4739748", func := "torpor/torporlaw05.RealNone", spec := "realNone", inPlace := ["math.Float64frombits", "math.Float64bits", "math.archCeil", "math.archFloor", "math.archTrunc"], apart := false, narrowed := true }
def RealNoneUptoSaid : Prop := realNoneUptoRow.holds Try.pinned (OpenSpec.upto realNoneSpec)

end Rows
end Go.Proofs.Ytjicbncikakhjaa
