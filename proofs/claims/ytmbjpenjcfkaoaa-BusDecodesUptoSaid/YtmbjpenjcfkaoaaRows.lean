/-
  No cell of these rows narrows 'for every input' (looked for: loops, veiled, ifaces, maps, wideKeys, modest, calm, conditions, laid).
  DERIVED. THE GIVEN ROWS OF THIS SEAT. 9 by the template 'for every input the law returns true; each argument reads behind the call as it read before'; 0 by the template 'total and deterministic' (their statements: YtmbjpenjcfkaoaaTotals.lean).
  GIVEN WITH THE SEED: the statements are not yours to turn. If you find one false, say at which input.
  Laid BY PROGRAM, IN A SANDBOX (cutbox-rows.mjs): the forced cells as the released guide's own fill.sh prints them over the translation 65349d7fdf85d8b9… (all of the seat's roots in one cut). By AI agents, Wed Nov 11 2026. No macro, syntax, notation, axiom, sorry.
-/
import Derived.Test.YtmbjpenjcfkaoaaChecked
import GoSem.Claim
import GoSem.ClaimJoined
import GoSem.ClaimMapViews
import Derived.JoinedTies
import Derived.KernelRfl
namespace Go.Proofs.Ytmbjpenjcfkaoaa
/- THE CELL 'sum', in the pinned program and in every row, IS THE sha256 OF THE DUMP (.gsa) THAT YtmbjpenjcfkaoaaProg.lean LOADS. Nothing in Lean hashes anything: it is a label: what it is worth is what the hold of that sum in a sandbox is worth. -/
noncomputable def Try.pinned : Pinned := { name := "ytmbjpenjcfkaoaa", sum := "65349d7fdf85d8b95fe64ef533496fe219c2bb0cc1e96e60b3c12d5c00800e89", checked := Try.checked }
namespace Rows
def none {H : Type} : Left H := { results := [], args := [] }

/-- 'spylaw2.GuardChecks': WHATEVER THE INPUT: true; the input reads as it did. -/
def guardChecksSpec : ChangeSpec := { name := "guardChecks", fn := fun _ => fun
  | [d1, d2] => { results := [.lit (.bool true)], args := [d1, d2] }
  | _ => none }
def guardChecksRow : OpenClaim := { program := "ytmbjpenjcfkaoaa", sum := "65349d7fdf85d8b95fe64ef533496fe219c2bb0cc1e96e60b3c12d5c00800e89", func := "spyglass/spylaw2.GuardChecks", spec := "guardChecks", apart := false }
def GuardChecksSaid : Prop := guardChecksRow.holds Try.pinned (OpenSpec.ofChange guardChecksSpec)

/-- ITS FALSE NEIGHBOUR: 'it returns false'. Refute it at one input. -/
def guardChecksWrong : ChangeSpec := { name := "guardChecks", fn := fun _ => fun
  | [d1, d2] => { results := [.lit (.bool false)], args := [d1, d2] }
  | _ => none }
def GuardChecksWrongFalsely : Prop := guardChecksRow.holds Try.pinned (OpenSpec.ofChange guardChecksWrong)

/-- 'spylaw2.DomeOrders': WHATEVER THE INPUT: true; the input reads as it did. -/
def domeOrdersSpec : ChangeSpec := { name := "domeOrders", fn := fun _ => fun
  | [d1, d2, d3, d4] => { results := [.lit (.bool true)], args := [d1, d2, d3, d4] }
  | _ => none }
def domeOrdersRow : OpenClaim := { program := "ytmbjpenjcfkaoaa", sum := "65349d7fdf85d8b95fe64ef533496fe219c2bb0cc1e96e60b3c12d5c00800e89", func := "spyglass/spylaw2.DomeOrders", spec := "domeOrders", apart := false }
def DomeOrdersSaid : Prop := domeOrdersRow.holds Try.pinned (OpenSpec.ofChange domeOrdersSpec)

/-- ITS FALSE NEIGHBOUR: 'it returns false'. Refute it at one input. -/
def domeOrdersWrong : ChangeSpec := { name := "domeOrders", fn := fun _ => fun
  | [d1, d2, d3, d4] => { results := [.lit (.bool false)], args := [d1, d2, d3, d4] }
  | _ => none }
def DomeOrdersWrongFalsely : Prop := domeOrdersRow.holds Try.pinned (OpenSpec.ofChange domeOrdersWrong)

/-- 'spylaw2.GuardSteps': WHATEVER THE INPUT: true; the input reads as it did. -/
def guardStepsSpec : ChangeSpec := { name := "guardSteps", fn := fun _ => fun
  | [d1, d2, d3] => { results := [.lit (.bool true)], args := [d1, d2, d3] }
  | _ => none }
def guardStepsRow : OpenClaim := { program := "ytmbjpenjcfkaoaa", sum := "65349d7fdf85d8b95fe64ef533496fe219c2bb0cc1e96e60b3c12d5c00800e89", func := "spyglass/spylaw2.GuardSteps", spec := "guardSteps", apart := false }
def GuardStepsSaid : Prop := guardStepsRow.holds Try.pinned (OpenSpec.ofChange guardStepsSpec)

/-- ITS FALSE NEIGHBOUR: 'it returns false'. Refute it at one input. -/
def guardStepsWrong : ChangeSpec := { name := "guardSteps", fn := fun _ => fun
  | [d1, d2, d3] => { results := [.lit (.bool false)], args := [d1, d2, d3] }
  | _ => none }
def GuardStepsWrongFalsely : Prop := guardStepsRow.holds Try.pinned (OpenSpec.ofChange guardStepsWrong)

/-- 'spylaw2.GuardGives': WHATEVER THE INPUT: true; the input reads as it did. -/
def guardGivesSpec : ChangeSpec := { name := "guardGives", fn := fun _ => fun
  | [d1, d2, d3] => { results := [.lit (.bool true)], args := [d1, d2, d3] }
  | _ => none }
def guardGivesRow : OpenClaim := { program := "ytmbjpenjcfkaoaa", sum := "65349d7fdf85d8b95fe64ef533496fe219c2bb0cc1e96e60b3c12d5c00800e89", func := "spyglass/spylaw2.GuardGives", spec := "guardGives", apart := false }
def GuardGivesSaid : Prop := guardGivesRow.holds Try.pinned (OpenSpec.ofChange guardGivesSpec)

/-- ITS FALSE NEIGHBOUR: 'it returns false'. Refute it at one input. -/
def guardGivesWrong : ChangeSpec := { name := "guardGives", fn := fun _ => fun
  | [d1, d2, d3] => { results := [.lit (.bool false)], args := [d1, d2, d3] }
  | _ => none }
def GuardGivesWrongFalsely : Prop := guardGivesRow.holds Try.pinned (OpenSpec.ofChange guardGivesWrong)

/-- 'spylaw2.GuardRuns': WHATEVER THE INPUT: true; the input reads as it did. -/
def guardRunsSpec : ChangeSpec := { name := "guardRuns", fn := fun _ => fun
  | [d1, d2, d3] => { results := [.lit (.bool true)], args := [d1, d2, d3] }
  | _ => none }
def guardRunsRow : OpenClaim := { program := "ytmbjpenjcfkaoaa", sum := "65349d7fdf85d8b95fe64ef533496fe219c2bb0cc1e96e60b3c12d5c00800e89", func := "spyglass/spylaw2.GuardRuns", spec := "guardRuns", apart := false }
def GuardRunsSaid : Prop := guardRunsRow.holds Try.pinned (OpenSpec.ofChange guardRunsSpec)

/-- ITS FALSE NEIGHBOUR: 'it returns false'. Refute it at one input. -/
def guardRunsWrong : ChangeSpec := { name := "guardRuns", fn := fun _ => fun
  | [d1, d2, d3] => { results := [.lit (.bool false)], args := [d1, d2, d3] }
  | _ => none }
def GuardRunsWrongFalsely : Prop := guardRunsRow.holds Try.pinned (OpenSpec.ofChange guardRunsWrong)

/-- 'spylaw2.ReplanNews': WHATEVER THE INPUT: true; the input reads as it did. -/
def replanNewsSpec : ChangeSpec := { name := "replanNews", fn := fun _ => fun
  | [d1, d2, d3] => { results := [.lit (.bool true)], args := [d1, d2, d3] }
  | _ => none }
def replanNewsRow : OpenClaim := { program := "ytmbjpenjcfkaoaa", sum := "65349d7fdf85d8b95fe64ef533496fe219c2bb0cc1e96e60b3c12d5c00800e89", func := "spyglass/spylaw2.ReplanNews", spec := "replanNews", unfollowed := true, recurses := true, apart := false }
def ReplanNewsSaid : Prop := replanNewsRow.holds Try.pinned (OpenSpec.ofChange replanNewsSpec)

/-- ITS FALSE NEIGHBOUR: 'it returns false'. Refute it at one input. -/
def replanNewsWrong : ChangeSpec := { name := "replanNews", fn := fun _ => fun
  | [d1, d2, d3] => { results := [.lit (.bool false)], args := [d1, d2, d3] }
  | _ => none }
def ReplanNewsWrongFalsely : Prop := replanNewsRow.holds Try.pinned (OpenSpec.ofChange replanNewsWrong)

/-- 'spylaw2.BusDecodes': WHATEVER THE INPUT: true; the input reads as it did. -/
def busDecodesSpec : ChangeSpec := { name := "busDecodes", fn := fun _ => fun
  | [d] => { results := [.lit (.bool true)], args := [d] }
  | _ => none }
def busDecodesRow : OpenClaim := { program := "ytmbjpenjcfkaoaa", sum := "65349d7fdf85d8b95fe64ef533496fe219c2bb0cc1e96e60b3c12d5c00800e89", func := "spyglass/spylaw2.BusDecodes", spec := "busDecodes", apart := false }
def BusDecodesSaid : Prop := busDecodesRow.holds Try.pinned (OpenSpec.ofChange busDecodesSpec)

/-- ITS FALSE NEIGHBOUR: 'it returns false'. Refute it at one input. -/
def busDecodesWrong : ChangeSpec := { name := "busDecodes", fn := fun _ => fun
  | [d] => { results := [.lit (.bool false)], args := [d] }
  | _ => none }
def BusDecodesWrongFalsely : Prop := busDecodesRow.holds Try.pinned (OpenSpec.ofChange busDecodesWrong)

/-- 'spylaw2.LinkChecks': WHATEVER THE INPUT: true; the input reads as it did. -/
def linkChecksSpec : ChangeSpec := { name := "linkChecks", fn := fun _ => fun
  | [d1, d2, d3, d4] => { results := [.lit (.bool true)], args := [d1, d2, d3, d4] }
  | _ => none }
def linkChecksRow : OpenClaim := { program := "ytmbjpenjcfkaoaa", sum := "65349d7fdf85d8b95fe64ef533496fe219c2bb0cc1e96e60b3c12d5c00800e89", func := "spyglass/spylaw2.LinkChecks", spec := "linkChecks", apart := false }
def LinkChecksSaid : Prop := linkChecksRow.holds Try.pinned (OpenSpec.ofChange linkChecksSpec)

/-- ITS FALSE NEIGHBOUR: 'it returns false'. Refute it at one input. -/
def linkChecksWrong : ChangeSpec := { name := "linkChecks", fn := fun _ => fun
  | [d1, d2, d3, d4] => { results := [.lit (.bool false)], args := [d1, d2, d3, d4] }
  | _ => none }
def LinkChecksWrongFalsely : Prop := linkChecksRow.holds Try.pinned (OpenSpec.ofChange linkChecksWrong)

/-- 'spylaw2.LinkRuns': WHATEVER THE INPUT: true; the input reads as it did. -/
def linkRunsSpec : ChangeSpec := { name := "linkRuns", fn := fun _ => fun
  | [d1, d2, d3, d4] => { results := [.lit (.bool true)], args := [d1, d2, d3, d4] }
  | _ => none }
def linkRunsRow : OpenClaim := { program := "ytmbjpenjcfkaoaa", sum := "65349d7fdf85d8b95fe64ef533496fe219c2bb0cc1e96e60b3c12d5c00800e89", func := "spyglass/spylaw2.LinkRuns", spec := "linkRuns", unfollowed := true, recurses := true, apart := false }
def LinkRunsSaid : Prop := linkRunsRow.holds Try.pinned (OpenSpec.ofChange linkRunsSpec)

/-- ITS FALSE NEIGHBOUR: 'it returns false'. Refute it at one input. -/
def linkRunsWrong : ChangeSpec := { name := "linkRuns", fn := fun _ => fun
  | [d1, d2, d3, d4] => { results := [.lit (.bool false)], args := [d1, d2, d3, d4] }
  | _ => none }
def LinkRunsWrongFalsely : Prop := linkRunsRow.holds Try.pinned (OpenSpec.ofChange linkRunsWrong)

/- THE SECOND FORM. 'bulk': how many values and letters a reading holds, each counted each time it is reached (what is shared counts as often as it is met; a slice's spare places count too). A statement '..UptoSaid' is the law's where the arguments, and the package variables that the reading takes, are together of bulk at most 1048576: NARROWER than '..Said'. Prove '..Said' where nothing that the law and all that it calls make is longer than what came in: it says more and counts as full. Else prove '..UptoSaid'. A law counts once. -/
mutual
def uptoBulk {H : Type} : DataW H → Nat
  | .lit (.string bytes) => bytes.length + 1
  | .lit _ => 1
  | .nil => 1
  | .ptr d => uptoBulk d + 1
  | .slice elems spare => uptoBulkAll elems + uptoBulkAll spare + 1
  | .agg parts => uptoBulkAll parts + 1
  | .iface _ d => uptoBulk d + 1
  | .map entries => uptoBulkEntries entries + 1
  | .held _ => 1
def uptoBulkAll {H : Type} : List (DataW H) → Nat
  | [] => 0
  | d :: r => uptoBulk d + uptoBulkAll r
def uptoBulkEntries {H : Type} : List (Lit × DataW H) → Nat
  | [] => 0
  | x :: r => uptoBulkEntry x + uptoBulkEntries r
def uptoBulkEntry {H : Type} : Lit × DataW H → Nat
  | (.string bytes, d) => bytes.length + uptoBulk d + 1
  | (_, d) => uptoBulk d + 1
 end
def uptoSmall : (H : Type) → List (DataW H) → Bool := fun _ ds => decide (uptoBulkAll ds ≤ 1048576)
def OpenSpec.upto (s : _root_.Go.ChangeSpec) : _root_.Go.OpenSpec := { _root_.Go.OpenSpec.ofChange s with cond := some uptoSmall }

/-- 'spylaw2.GuardChecks', WHERE WHAT IT READS IS OF BULK AT MOST 1048576: true; the input reads as it did. -/
def guardChecksUptoRow : OpenClaim := { program := "ytmbjpenjcfkaoaa", sum := "65349d7fdf85d8b95fe64ef533496fe219c2bb0cc1e96e60b3c12d5c00800e89", func := "spyglass/spylaw2.GuardChecks", spec := "guardChecks", apart := false, narrowed := true }
def GuardChecksUptoSaid : Prop := guardChecksUptoRow.holds Try.pinned (OpenSpec.upto guardChecksSpec)

/-- 'spylaw2.DomeOrders', WHERE WHAT IT READS IS OF BULK AT MOST 1048576: true; the input reads as it did. -/
def domeOrdersUptoRow : OpenClaim := { program := "ytmbjpenjcfkaoaa", sum := "65349d7fdf85d8b95fe64ef533496fe219c2bb0cc1e96e60b3c12d5c00800e89", func := "spyglass/spylaw2.DomeOrders", spec := "domeOrders", apart := false, narrowed := true }
def DomeOrdersUptoSaid : Prop := domeOrdersUptoRow.holds Try.pinned (OpenSpec.upto domeOrdersSpec)

/-- 'spylaw2.GuardSteps', WHERE WHAT IT READS IS OF BULK AT MOST 1048576: true; the input reads as it did. -/
def guardStepsUptoRow : OpenClaim := { program := "ytmbjpenjcfkaoaa", sum := "65349d7fdf85d8b95fe64ef533496fe219c2bb0cc1e96e60b3c12d5c00800e89", func := "spyglass/spylaw2.GuardSteps", spec := "guardSteps", apart := false, narrowed := true }
def GuardStepsUptoSaid : Prop := guardStepsUptoRow.holds Try.pinned (OpenSpec.upto guardStepsSpec)

/-- 'spylaw2.GuardGives', WHERE WHAT IT READS IS OF BULK AT MOST 1048576: true; the input reads as it did. -/
def guardGivesUptoRow : OpenClaim := { program := "ytmbjpenjcfkaoaa", sum := "65349d7fdf85d8b95fe64ef533496fe219c2bb0cc1e96e60b3c12d5c00800e89", func := "spyglass/spylaw2.GuardGives", spec := "guardGives", apart := false, narrowed := true }
def GuardGivesUptoSaid : Prop := guardGivesUptoRow.holds Try.pinned (OpenSpec.upto guardGivesSpec)

/-- 'spylaw2.GuardRuns', WHERE WHAT IT READS IS OF BULK AT MOST 1048576: true; the input reads as it did. -/
def guardRunsUptoRow : OpenClaim := { program := "ytmbjpenjcfkaoaa", sum := "65349d7fdf85d8b95fe64ef533496fe219c2bb0cc1e96e60b3c12d5c00800e89", func := "spyglass/spylaw2.GuardRuns", spec := "guardRuns", apart := false, narrowed := true }
def GuardRunsUptoSaid : Prop := guardRunsUptoRow.holds Try.pinned (OpenSpec.upto guardRunsSpec)

/-- 'spylaw2.ReplanNews', WHERE WHAT IT READS IS OF BULK AT MOST 1048576: true; the input reads as it did. -/
def replanNewsUptoRow : OpenClaim := { program := "ytmbjpenjcfkaoaa", sum := "65349d7fdf85d8b95fe64ef533496fe219c2bb0cc1e96e60b3c12d5c00800e89", func := "spyglass/spylaw2.ReplanNews", spec := "replanNews", unfollowed := true, recurses := true, apart := false, narrowed := true }
def ReplanNewsUptoSaid : Prop := replanNewsUptoRow.holds Try.pinned (OpenSpec.upto replanNewsSpec)

/-- 'spylaw2.BusDecodes', WHERE WHAT IT READS IS OF BULK AT MOST 1048576: true; the input reads as it did. -/
def busDecodesUptoRow : OpenClaim := { program := "ytmbjpenjcfkaoaa", sum := "65349d7fdf85d8b95fe64ef533496fe219c2bb0cc1e96e60b3c12d5c00800e89", func := "spyglass/spylaw2.BusDecodes", spec := "busDecodes", apart := false, narrowed := true }
def BusDecodesUptoSaid : Prop := busDecodesUptoRow.holds Try.pinned (OpenSpec.upto busDecodesSpec)

/-- 'spylaw2.LinkChecks', WHERE WHAT IT READS IS OF BULK AT MOST 1048576: true; the input reads as it did. -/
def linkChecksUptoRow : OpenClaim := { program := "ytmbjpenjcfkaoaa", sum := "65349d7fdf85d8b95fe64ef533496fe219c2bb0cc1e96e60b3c12d5c00800e89", func := "spyglass/spylaw2.LinkChecks", spec := "linkChecks", apart := false, narrowed := true }
def LinkChecksUptoSaid : Prop := linkChecksUptoRow.holds Try.pinned (OpenSpec.upto linkChecksSpec)

/-- 'spylaw2.LinkRuns', WHERE WHAT IT READS IS OF BULK AT MOST 1048576: true; the input reads as it did. -/
def linkRunsUptoRow : OpenClaim := { program := "ytmbjpenjcfkaoaa", sum := "65349d7fdf85d8b95fe64ef533496fe219c2bb0cc1e96e60b3c12d5c00800e89", func := "spyglass/spylaw2.LinkRuns", spec := "linkRuns", unfollowed := true, recurses := true, apart := false, narrowed := true }
def LinkRunsUptoSaid : Prop := linkRunsUptoRow.holds Try.pinned (OpenSpec.upto linkRunsSpec)

end Rows
end Go.Proofs.Ytmbjpenjcfkaoaa
