/-
  No cell of these rows narrows 'for every input' (looked for: loops, veiled, ifaces, maps, wideKeys, modest, calm, conditions, laid).
  DERIVED. THE GIVEN ROWS OF THIS SEAT. 12 by the template 'for every input the law returns true; each argument reads behind the call as it read before'; 0 by the template 'total and deterministic' (their statements: YtchmfnmnijhjfaaTotals.lean).
  GIVEN WITH THE SEED: the statements are not yours to turn. If you find one false, say at which input.
  Laid BY PROGRAM, IN A SANDBOX (cutbox-rows.mjs): the forced cells as the released guide's own fill.sh prints them over the translation fd0390aa642adb40… (all of the seat's roots in one cut). By AI agents, Wed Nov 11 2026. No macro, syntax, notation, axiom, sorry.
-/
import Derived.Test.YtchmfnmnijhjfaaChecked
import GoSem.Claim
import GoSem.ClaimJoined
import GoSem.ClaimMapViews
import Derived.JoinedTies
import Derived.KernelRfl
namespace Go.Proofs.Ytchmfnmnijhjfaa
/- THE CELL 'sum', in the pinned program and in every row, IS THE sha256 OF THE DUMP (.gsa) THAT YtchmfnmnijhjfaaProg.lean LOADS. Nothing in Lean hashes anything: it is a label: what it is worth is what the hold of that sum in a sandbox is worth. -/
noncomputable def Try.pinned : Pinned := { name := "ytchmfnmnijhjfaa", sum := "fd0390aa642adb40abbf5d6d6aac64255ba0d5b705d633c387f3652e17bb98f3", checked := Try.checked }
namespace Rows
def none {H : Type} : Left H := { results := [], args := [] }

/-- 'spylaw2.AxisSteps': WHATEVER THE INPUT: true; the input reads as it did. -/
def axisStepsSpec : ChangeSpec := { name := "axisSteps", fn := fun _ => fun
  | [d1, d2] => { results := [.lit (.bool true)], args := [d1, d2] }
  | _ => none }
def axisStepsRow : OpenClaim := { program := "ytchmfnmnijhjfaa", sum := "fd0390aa642adb40abbf5d6d6aac64255ba0d5b705d633c387f3652e17bb98f3", func := "spyglass/spylaw2.AxisSteps", spec := "axisSteps", apart := false }
def AxisStepsSaid : Prop := axisStepsRow.holds Try.pinned (OpenSpec.ofChange axisStepsSpec)

/-- ITS FALSE NEIGHBOUR: 'it returns false'. Refute it at one input. -/
def axisStepsWrong : ChangeSpec := { name := "axisSteps", fn := fun _ => fun
  | [d1, d2] => { results := [.lit (.bool false)], args := [d1, d2] }
  | _ => none }
def AxisStepsWrongFalsely : Prop := axisStepsRow.holds Try.pinned (OpenSpec.ofChange axisStepsWrong)

/-- 'spylaw2.AxisChecks': WHATEVER THE INPUT: true; the input reads as it did. -/
def axisChecksSpec : ChangeSpec := { name := "axisChecks", fn := fun _ => fun
  | [d1, d2, d3] => { results := [.lit (.bool true)], args := [d1, d2, d3] }
  | _ => none }
def axisChecksRow : OpenClaim := { program := "ytchmfnmnijhjfaa", sum := "fd0390aa642adb40abbf5d6d6aac64255ba0d5b705d633c387f3652e17bb98f3", func := "spyglass/spylaw2.AxisChecks", spec := "axisChecks", apart := false }
def AxisChecksSaid : Prop := axisChecksRow.holds Try.pinned (OpenSpec.ofChange axisChecksSpec)

/-- ITS FALSE NEIGHBOUR: 'it returns false'. Refute it at one input. -/
def axisChecksWrong : ChangeSpec := { name := "axisChecks", fn := fun _ => fun
  | [d1, d2, d3] => { results := [.lit (.bool false)], args := [d1, d2, d3] }
  | _ => none }
def AxisChecksWrongFalsely : Prop := axisChecksRow.holds Try.pinned (OpenSpec.ofChange axisChecksWrong)

/-- 'spylaw2.MountChecks': WHATEVER THE INPUT: true; the input reads as it did. -/
def mountChecksSpec : ChangeSpec := { name := "mountChecks", fn := fun _ => fun
  | [d1, d2] => { results := [.lit (.bool true)], args := [d1, d2] }
  | _ => none }
def mountChecksRow : OpenClaim := { program := "ytchmfnmnijhjfaa", sum := "fd0390aa642adb40abbf5d6d6aac64255ba0d5b705d633c387f3652e17bb98f3", func := "spyglass/spylaw2.MountChecks", spec := "mountChecks", apart := false }
def MountChecksSaid : Prop := mountChecksRow.holds Try.pinned (OpenSpec.ofChange mountChecksSpec)

/-- ITS FALSE NEIGHBOUR: 'it returns false'. Refute it at one input. -/
def mountChecksWrong : ChangeSpec := { name := "mountChecks", fn := fun _ => fun
  | [d1, d2] => { results := [.lit (.bool false)], args := [d1, d2] }
  | _ => none }
def MountChecksWrongFalsely : Prop := mountChecksRow.holds Try.pinned (OpenSpec.ofChange mountChecksWrong)

/-- 'spylaw2.AxisSends': WHATEVER THE INPUT: true; the input reads as it did. -/
def axisSendsSpec : ChangeSpec := { name := "axisSends", fn := fun _ => fun
  | [d1, d2, d3] => { results := [.lit (.bool true)], args := [d1, d2, d3] }
  | _ => none }
def axisSendsRow : OpenClaim := { program := "ytchmfnmnijhjfaa", sum := "fd0390aa642adb40abbf5d6d6aac64255ba0d5b705d633c387f3652e17bb98f3", func := "spyglass/spylaw2.AxisSends", spec := "axisSends", apart := false }
def AxisSendsSaid : Prop := axisSendsRow.holds Try.pinned (OpenSpec.ofChange axisSendsSpec)

/-- ITS FALSE NEIGHBOUR: 'it returns false'. Refute it at one input. -/
def axisSendsWrong : ChangeSpec := { name := "axisSends", fn := fun _ => fun
  | [d1, d2, d3] => { results := [.lit (.bool false)], args := [d1, d2, d3] }
  | _ => none }
def AxisSendsWrongFalsely : Prop := axisSendsRow.holds Try.pinned (OpenSpec.ofChange axisSendsWrong)

/-- 'spylaw2.SlewChecks': WHATEVER THE INPUT: true; the input reads as it did. -/
def slewChecksSpec : ChangeSpec := { name := "slewChecks", fn := fun _ => fun
  | [d1, d2, d3] => { results := [.lit (.bool true)], args := [d1, d2, d3] }
  | _ => none }
def slewChecksRow : OpenClaim := { program := "ytchmfnmnijhjfaa", sum := "fd0390aa642adb40abbf5d6d6aac64255ba0d5b705d633c387f3652e17bb98f3", func := "spyglass/spylaw2.SlewChecks", spec := "slewChecks", apart := false }
def SlewChecksSaid : Prop := slewChecksRow.holds Try.pinned (OpenSpec.ofChange slewChecksSpec)

/-- ITS FALSE NEIGHBOUR: 'it returns false'. Refute it at one input. -/
def slewChecksWrong : ChangeSpec := { name := "slewChecks", fn := fun _ => fun
  | [d1, d2, d3] => { results := [.lit (.bool false)], args := [d1, d2, d3] }
  | _ => none }
def SlewChecksWrongFalsely : Prop := slewChecksRow.holds Try.pinned (OpenSpec.ofChange slewChecksWrong)

/-- 'spylaw2.SlewTargets': WHATEVER THE INPUT: true; the input reads as it did. -/
def slewTargetsSpec : ChangeSpec := { name := "slewTargets", fn := fun _ => fun
  | [d1, d2, d3] => { results := [.lit (.bool true)], args := [d1, d2, d3] }
  | _ => none }
def slewTargetsRow : OpenClaim := { program := "ytchmfnmnijhjfaa", sum := "fd0390aa642adb40abbf5d6d6aac64255ba0d5b705d633c387f3652e17bb98f3", func := "spyglass/spylaw2.SlewTargets", spec := "slewTargets", apart := false }
def SlewTargetsSaid : Prop := slewTargetsRow.holds Try.pinned (OpenSpec.ofChange slewTargetsSpec)

/-- ITS FALSE NEIGHBOUR: 'it returns false'. Refute it at one input. -/
def slewTargetsWrong : ChangeSpec := { name := "slewTargets", fn := fun _ => fun
  | [d1, d2, d3] => { results := [.lit (.bool false)], args := [d1, d2, d3] }
  | _ => none }
def SlewTargetsWrongFalsely : Prop := slewTargetsRow.holds Try.pinned (OpenSpec.ofChange slewTargetsWrong)

/-- 'spylaw2.SlewPoses': WHATEVER THE INPUT: true; the input reads as it did. -/
def slewPosesSpec : ChangeSpec := { name := "slewPoses", fn := fun _ => fun
  | [d1, d2, d3] => { results := [.lit (.bool true)], args := [d1, d2, d3] }
  | _ => none }
def slewPosesRow : OpenClaim := { program := "ytchmfnmnijhjfaa", sum := "fd0390aa642adb40abbf5d6d6aac64255ba0d5b705d633c387f3652e17bb98f3", func := "spyglass/spylaw2.SlewPoses", spec := "slewPoses", apart := false }
def SlewPosesSaid : Prop := slewPosesRow.holds Try.pinned (OpenSpec.ofChange slewPosesSpec)

/-- ITS FALSE NEIGHBOUR: 'it returns false'. Refute it at one input. -/
def slewPosesWrong : ChangeSpec := { name := "slewPoses", fn := fun _ => fun
  | [d1, d2, d3] => { results := [.lit (.bool false)], args := [d1, d2, d3] }
  | _ => none }
def SlewPosesWrongFalsely : Prop := slewPosesRow.holds Try.pinned (OpenSpec.ofChange slewPosesWrong)

/-- 'spylaw2.AxisRuns': WHATEVER THE INPUT: true; the input reads as it did. -/
def axisRunsSpec : ChangeSpec := { name := "axisRuns", fn := fun _ => fun
  | [d1, d2, d3] => { results := [.lit (.bool true)], args := [d1, d2, d3] }
  | _ => none }
def axisRunsRow : OpenClaim := { program := "ytchmfnmnijhjfaa", sum := "fd0390aa642adb40abbf5d6d6aac64255ba0d5b705d633c387f3652e17bb98f3", func := "spyglass/spylaw2.AxisRuns", spec := "axisRuns", apart := false }
def AxisRunsSaid : Prop := axisRunsRow.holds Try.pinned (OpenSpec.ofChange axisRunsSpec)

/-- ITS FALSE NEIGHBOUR: 'it returns false'. Refute it at one input. -/
def axisRunsWrong : ChangeSpec := { name := "axisRuns", fn := fun _ => fun
  | [d1, d2, d3] => { results := [.lit (.bool false)], args := [d1, d2, d3] }
  | _ => none }
def AxisRunsWrongFalsely : Prop := axisRunsRow.holds Try.pinned (OpenSpec.ofChange axisRunsWrong)

/-- 'spylaw2.DomeSteps': WHATEVER THE INPUT: true; the input reads as it did. -/
def domeStepsSpec : ChangeSpec := { name := "domeSteps", fn := fun _ => fun
  | [d] => { results := [.lit (.bool true)], args := [d] }
  | _ => none }
def domeStepsRow : OpenClaim := { program := "ytchmfnmnijhjfaa", sum := "fd0390aa642adb40abbf5d6d6aac64255ba0d5b705d633c387f3652e17bb98f3", func := "spyglass/spylaw2.DomeSteps", spec := "domeSteps", apart := false }
def DomeStepsSaid : Prop := domeStepsRow.holds Try.pinned (OpenSpec.ofChange domeStepsSpec)

/-- ITS FALSE NEIGHBOUR: 'it returns false'. Refute it at one input. -/
def domeStepsWrong : ChangeSpec := { name := "domeSteps", fn := fun _ => fun
  | [d] => { results := [.lit (.bool false)], args := [d] }
  | _ => none }
def DomeStepsWrongFalsely : Prop := domeStepsRow.holds Try.pinned (OpenSpec.ofChange domeStepsWrong)

/-- 'spylaw2.DomeChecks': WHATEVER THE INPUT: true; the input reads as it did. -/
def domeChecksSpec : ChangeSpec := { name := "domeChecks", fn := fun _ => fun
  | [d1, d2] => { results := [.lit (.bool true)], args := [d1, d2] }
  | _ => none }
def domeChecksRow : OpenClaim := { program := "ytchmfnmnijhjfaa", sum := "fd0390aa642adb40abbf5d6d6aac64255ba0d5b705d633c387f3652e17bb98f3", func := "spyglass/spylaw2.DomeChecks", spec := "domeChecks", apart := false }
def DomeChecksSaid : Prop := domeChecksRow.holds Try.pinned (OpenSpec.ofChange domeChecksSpec)

/-- ITS FALSE NEIGHBOUR: 'it returns false'. Refute it at one input. -/
def domeChecksWrong : ChangeSpec := { name := "domeChecks", fn := fun _ => fun
  | [d1, d2] => { results := [.lit (.bool false)], args := [d1, d2] }
  | _ => none }
def DomeChecksWrongFalsely : Prop := domeChecksRow.holds Try.pinned (OpenSpec.ofChange domeChecksWrong)

/-- 'spylaw2.MountSteps': WHATEVER THE INPUT: true; the input reads as it did. -/
def mountStepsSpec : ChangeSpec := { name := "mountSteps", fn := fun _ => fun
  | [d1, d2] => { results := [.lit (.bool true)], args := [d1, d2] }
  | _ => none }
def mountStepsRow : OpenClaim := { program := "ytchmfnmnijhjfaa", sum := "fd0390aa642adb40abbf5d6d6aac64255ba0d5b705d633c387f3652e17bb98f3", func := "spyglass/spylaw2.MountSteps", spec := "mountSteps", apart := false }
def MountStepsSaid : Prop := mountStepsRow.holds Try.pinned (OpenSpec.ofChange mountStepsSpec)

/-- ITS FALSE NEIGHBOUR: 'it returns false'. Refute it at one input. -/
def mountStepsWrong : ChangeSpec := { name := "mountSteps", fn := fun _ => fun
  | [d1, d2] => { results := [.lit (.bool false)], args := [d1, d2] }
  | _ => none }
def MountStepsWrongFalsely : Prop := mountStepsRow.holds Try.pinned (OpenSpec.ofChange mountStepsWrong)

/-- 'spylaw2.MountOrders': WHATEVER THE INPUT: true; the input reads as it did. -/
def mountOrdersSpec : ChangeSpec := { name := "mountOrders", fn := fun _ => fun
  | [d1, d2, d3] => { results := [.lit (.bool true)], args := [d1, d2, d3] }
  | _ => none }
def mountOrdersRow : OpenClaim := { program := "ytchmfnmnijhjfaa", sum := "fd0390aa642adb40abbf5d6d6aac64255ba0d5b705d633c387f3652e17bb98f3", func := "spyglass/spylaw2.MountOrders", spec := "mountOrders", apart := false }
def MountOrdersSaid : Prop := mountOrdersRow.holds Try.pinned (OpenSpec.ofChange mountOrdersSpec)

/-- ITS FALSE NEIGHBOUR: 'it returns false'. Refute it at one input. -/
def mountOrdersWrong : ChangeSpec := { name := "mountOrders", fn := fun _ => fun
  | [d1, d2, d3] => { results := [.lit (.bool false)], args := [d1, d2, d3] }
  | _ => none }
def MountOrdersWrongFalsely : Prop := mountOrdersRow.holds Try.pinned (OpenSpec.ofChange mountOrdersWrong)

/- THE SECOND FORM. 'bulk': how many values and letters a reading holds, each counted each time it is reached (what is shared counts as often as it is met; a slice's spare places count too). A statement '..UptoSaid' is the law's where the arguments, and the package variables that the reading takes, are together of bulk at most 1048576: NARROWER than '..Said'. Prove '..Said' where nothing that the law and all that it calls make is longer than what came in: it says more and counts as full. Else prove '..UptoSaid'. A law counts once. -/
mutual
def uptoBulk {H : Type} : DataW H → Nat
  | .lit (.string bytes) => bytes.length + 1
  | .lit _ => 1
  | .nil => 1
  | .ptr d => uptoBulk d + 1
  | .slice elems spare => uptoBulkAll elems + uptoBulkAll spare + 1
  | .agg parts => uptoBulkAll parts + 1
  | .iface _ d => uptoBulk d + 1
  | .map entries => uptoBulkEntries entries + 1
  | .held _ => 1
def uptoBulkAll {H : Type} : List (DataW H) → Nat
  | [] => 0
  | d :: r => uptoBulk d + uptoBulkAll r
def uptoBulkEntries {H : Type} : List (Lit × DataW H) → Nat
  | [] => 0
  | x :: r => uptoBulkEntry x + uptoBulkEntries r
def uptoBulkEntry {H : Type} : Lit × DataW H → Nat
  | (.string bytes, d) => bytes.length + uptoBulk d + 1
  | (_, d) => uptoBulk d + 1
 end
def uptoSmall : (H : Type) → List (DataW H) → Bool := fun _ ds => decide (uptoBulkAll ds ≤ 1048576)
def OpenSpec.upto (s : _root_.Go.ChangeSpec) : _root_.Go.OpenSpec := { _root_.Go.OpenSpec.ofChange s with cond := some uptoSmall }

/-- 'spylaw2.AxisSteps', WHERE WHAT IT READS IS OF BULK AT MOST 1048576: true; the input reads as it did. -/
def axisStepsUptoRow : OpenClaim := { program := "ytchmfnmnijhjfaa", sum := "fd0390aa642adb40abbf5d6d6aac64255ba0d5b705d633c387f3652e17bb98f3", func := "spyglass/spylaw2.AxisSteps", spec := "axisSteps", apart := false, narrowed := true }
def AxisStepsUptoSaid : Prop := axisStepsUptoRow.holds Try.pinned (OpenSpec.upto axisStepsSpec)

/-- 'spylaw2.AxisChecks', WHERE WHAT IT READS IS OF BULK AT MOST 1048576: true; the input reads as it did. -/
def axisChecksUptoRow : OpenClaim := { program := "ytchmfnmnijhjfaa", sum := "fd0390aa642adb40abbf5d6d6aac64255ba0d5b705d633c387f3652e17bb98f3", func := "spyglass/spylaw2.AxisChecks", spec := "axisChecks", apart := false, narrowed := true }
def AxisChecksUptoSaid : Prop := axisChecksUptoRow.holds Try.pinned (OpenSpec.upto axisChecksSpec)

/-- 'spylaw2.MountChecks', WHERE WHAT IT READS IS OF BULK AT MOST 1048576: true; the input reads as it did. -/
def mountChecksUptoRow : OpenClaim := { program := "ytchmfnmnijhjfaa", sum := "fd0390aa642adb40abbf5d6d6aac64255ba0d5b705d633c387f3652e17bb98f3", func := "spyglass/spylaw2.MountChecks", spec := "mountChecks", apart := false, narrowed := true }
def MountChecksUptoSaid : Prop := mountChecksUptoRow.holds Try.pinned (OpenSpec.upto mountChecksSpec)

/-- 'spylaw2.AxisSends', WHERE WHAT IT READS IS OF BULK AT MOST 1048576: true; the input reads as it did. -/
def axisSendsUptoRow : OpenClaim := { program := "ytchmfnmnijhjfaa", sum := "fd0390aa642adb40abbf5d6d6aac64255ba0d5b705d633c387f3652e17bb98f3", func := "spyglass/spylaw2.AxisSends", spec := "axisSends", apart := false, narrowed := true }
def AxisSendsUptoSaid : Prop := axisSendsUptoRow.holds Try.pinned (OpenSpec.upto axisSendsSpec)

/-- 'spylaw2.SlewChecks', WHERE WHAT IT READS IS OF BULK AT MOST 1048576: true; the input reads as it did. -/
def slewChecksUptoRow : OpenClaim := { program := "ytchmfnmnijhjfaa", sum := "fd0390aa642adb40abbf5d6d6aac64255ba0d5b705d633c387f3652e17bb98f3", func := "spyglass/spylaw2.SlewChecks", spec := "slewChecks", apart := false, narrowed := true }
def SlewChecksUptoSaid : Prop := slewChecksUptoRow.holds Try.pinned (OpenSpec.upto slewChecksSpec)

/-- 'spylaw2.SlewTargets', WHERE WHAT IT READS IS OF BULK AT MOST 1048576: true; the input reads as it did. -/
def slewTargetsUptoRow : OpenClaim := { program := "ytchmfnmnijhjfaa", sum := "fd0390aa642adb40abbf5d6d6aac64255ba0d5b705d633c387f3652e17bb98f3", func := "spyglass/spylaw2.SlewTargets", spec := "slewTargets", apart := false, narrowed := true }
def SlewTargetsUptoSaid : Prop := slewTargetsUptoRow.holds Try.pinned (OpenSpec.upto slewTargetsSpec)

/-- 'spylaw2.SlewPoses', WHERE WHAT IT READS IS OF BULK AT MOST 1048576: true; the input reads as it did. -/
def slewPosesUptoRow : OpenClaim := { program := "ytchmfnmnijhjfaa", sum := "fd0390aa642adb40abbf5d6d6aac64255ba0d5b705d633c387f3652e17bb98f3", func := "spyglass/spylaw2.SlewPoses", spec := "slewPoses", apart := false, narrowed := true }
def SlewPosesUptoSaid : Prop := slewPosesUptoRow.holds Try.pinned (OpenSpec.upto slewPosesSpec)

/-- 'spylaw2.AxisRuns', WHERE WHAT IT READS IS OF BULK AT MOST 1048576: true; the input reads as it did. -/
def axisRunsUptoRow : OpenClaim := { program := "ytchmfnmnijhjfaa", sum := "fd0390aa642adb40abbf5d6d6aac64255ba0d5b705d633c387f3652e17bb98f3", func := "spyglass/spylaw2.AxisRuns", spec := "axisRuns", apart := false, narrowed := true }
def AxisRunsUptoSaid : Prop := axisRunsUptoRow.holds Try.pinned (OpenSpec.upto axisRunsSpec)

/-- 'spylaw2.DomeSteps', WHERE WHAT IT READS IS OF BULK AT MOST 1048576: true; the input reads as it did. -/
def domeStepsUptoRow : OpenClaim := { program := "ytchmfnmnijhjfaa", sum := "fd0390aa642adb40abbf5d6d6aac64255ba0d5b705d633c387f3652e17bb98f3", func := "spyglass/spylaw2.DomeSteps", spec := "domeSteps", apart := false, narrowed := true }
def DomeStepsUptoSaid : Prop := domeStepsUptoRow.holds Try.pinned (OpenSpec.upto domeStepsSpec)

/-- 'spylaw2.DomeChecks', WHERE WHAT IT READS IS OF BULK AT MOST 1048576: true; the input reads as it did. -/
def domeChecksUptoRow : OpenClaim := { program := "ytchmfnmnijhjfaa", sum := "fd0390aa642adb40abbf5d6d6aac64255ba0d5b705d633c387f3652e17bb98f3", func := "spyglass/spylaw2.DomeChecks", spec := "domeChecks", apart := false, narrowed := true }
def DomeChecksUptoSaid : Prop := domeChecksUptoRow.holds Try.pinned (OpenSpec.upto domeChecksSpec)

/-- 'spylaw2.MountSteps', WHERE WHAT IT READS IS OF BULK AT MOST 1048576: true; the input reads as it did. -/
def mountStepsUptoRow : OpenClaim := { program := "ytchmfnmnijhjfaa", sum := "fd0390aa642adb40abbf5d6d6aac64255ba0d5b705d633c387f3652e17bb98f3", func := "spyglass/spylaw2.MountSteps", spec := "mountSteps", apart := false, narrowed := true }
def MountStepsUptoSaid : Prop := mountStepsUptoRow.holds Try.pinned (OpenSpec.upto mountStepsSpec)

/-- 'spylaw2.MountOrders', WHERE WHAT IT READS IS OF BULK AT MOST 1048576: true; the input reads as it did. -/
def mountOrdersUptoRow : OpenClaim := { program := "ytchmfnmnijhjfaa", sum := "fd0390aa642adb40abbf5d6d6aac64255ba0d5b705d633c387f3652e17bb98f3", func := "spyglass/spylaw2.MountOrders", spec := "mountOrders", apart := false, narrowed := true }
def MountOrdersUptoSaid : Prop := mountOrdersUptoRow.holds Try.pinned (OpenSpec.upto mountOrdersSpec)

end Rows
end Go.Proofs.Ytchmfnmnijhjfaa
