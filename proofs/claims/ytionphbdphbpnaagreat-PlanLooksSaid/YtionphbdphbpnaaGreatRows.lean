/-
  No cell of these rows narrows 'for every input' (looked for: loops, veiled, ifaces, maps, wideKeys, modest, calm, conditions, laid).
  DERIVED. THE GIVEN ROWS OF THIS SEAT. 8 by the template 'for every input the law returns true; each argument reads behind the call as it read before'; 0 by the template 'total and deterministic' (their statements: YtionphbdphbpnaaGreatTotals.lean).
  GIVEN WITH THE SEED: the statements are not yours to turn. If you find one false, say at which input.
  Laid BY PROGRAM, IN A SANDBOX (cutbox-rows.mjs): the forced cells as the released guide's own fill.sh prints them over the translation 51beca92c84ca27a… (all of the seat's roots in one cut). By AI agents, Wed Nov 11 2026. No macro, syntax, notation, axiom, sorry.
-/
import Derived.Test.YtionphbdphbpnaaGreatChecked
import GoSem.Claim
import GoSem.ClaimJoined
import GoSem.ClaimMapViews
import Derived.JoinedTies
import Derived.KernelRfl
namespace Go.Proofs.YtionphbdphbpnaaGreat
/- THE CELL 'sum', in the pinned program and in every row, IS THE sha256 OF THE DUMP (.gsa) THAT YtionphbdphbpnaaGreatProg.lean LOADS. Nothing in Lean hashes anything: it is a label: what it is worth is what the hold of that sum in a sandbox is worth. -/
noncomputable def Tryz.pinned : Pinned := { name := "ytionphbdphbpnaagreat", sum := "51beca92c84ca27a24fdcf5a2567a4c9ccb23616581683021c5df25abbac8ec8", checked := Tryz.checked }
namespace Rows
def none {H : Type} : Left H := { results := [], args := [] }

/-- 'spylaw2.WindowWhys': WHATEVER THE INPUT: true; the input reads as it did. -/
def windowWhysSpec : ChangeSpec := { name := "windowWhys", fn := fun _ => fun
  | [d1, d2, d3] => { results := [.lit (.bool true)], args := [d1, d2, d3] }
  | _ => none }
def windowWhysRow : OpenClaim := { program := "ytionphbdphbpnaagreat", sum := "51beca92c84ca27a24fdcf5a2567a4c9ccb23616581683021c5df25abbac8ec8", func := "spyglass/spylaw2.WindowWhys", spec := "windowWhys", inPlace := ["math/bits.Add64"], unfollowed := true, recurses := true, named := ["math/bits.divideError", "math/bits.overflowError"], apart := false }
def WindowWhysSaid : Prop := windowWhysRow.holds Tryz.pinned (OpenSpec.ofChange windowWhysSpec)

/-- ITS FALSE NEIGHBOUR: 'it returns false'. Refute it at one input. -/
def windowWhysWrong : ChangeSpec := { name := "windowWhys", fn := fun _ => fun
  | [d1, d2, d3] => { results := [.lit (.bool false)], args := [d1, d2, d3] }
  | _ => none }
def WindowWhysWrongFalsely : Prop := windowWhysRow.holds Tryz.pinned (OpenSpec.ofChange windowWhysWrong)

/-- 'spylaw2.WindowFits': WHATEVER THE INPUT: true; the input reads as it did. -/
def windowFitsSpec : ChangeSpec := { name := "windowFits", fn := fun _ => fun
  | [d1, d2, d3, d4] => { results := [.lit (.bool true)], args := [d1, d2, d3, d4] }
  | _ => none }
def windowFitsRow : OpenClaim := { program := "ytionphbdphbpnaagreat", sum := "51beca92c84ca27a24fdcf5a2567a4c9ccb23616581683021c5df25abbac8ec8", func := "spyglass/spylaw2.WindowFits", spec := "windowFits", inPlace := ["math/bits.Add64"], unfollowed := true, recurses := true, named := ["math/bits.divideError", "math/bits.overflowError"], apart := false }
def WindowFitsSaid : Prop := windowFitsRow.holds Tryz.pinned (OpenSpec.ofChange windowFitsSpec)

/-- ITS FALSE NEIGHBOUR: 'it returns false'. Refute it at one input. -/
def windowFitsWrong : ChangeSpec := { name := "windowFits", fn := fun _ => fun
  | [d1, d2, d3, d4] => { results := [.lit (.bool false)], args := [d1, d2, d3, d4] }
  | _ => none }
def WindowFitsWrongFalsely : Prop := windowFitsRow.holds Tryz.pinned (OpenSpec.ofChange windowFitsWrong)

/-- 'spylaw2.WindowSlots': WHATEVER THE INPUT: true; the input reads as it did. -/
def windowSlotsSpec : ChangeSpec := { name := "windowSlots", fn := fun _ => fun
  | [d1, d2] => { results := [.lit (.bool true)], args := [d1, d2] }
  | _ => none }
def windowSlotsRow : OpenClaim := { program := "ytionphbdphbpnaagreat", sum := "51beca92c84ca27a24fdcf5a2567a4c9ccb23616581683021c5df25abbac8ec8", func := "spyglass/spylaw2.WindowSlots", spec := "windowSlots", inPlace := ["math/bits.Add64"], unfollowed := true, recurses := true, named := ["math/bits.divideError", "math/bits.overflowError"], apart := false }
def WindowSlotsSaid : Prop := windowSlotsRow.holds Tryz.pinned (OpenSpec.ofChange windowSlotsSpec)

/-- ITS FALSE NEIGHBOUR: 'it returns false'. Refute it at one input. -/
def windowSlotsWrong : ChangeSpec := { name := "windowSlots", fn := fun _ => fun
  | [d1, d2] => { results := [.lit (.bool false)], args := [d1, d2] }
  | _ => none }
def WindowSlotsWrongFalsely : Prop := windowSlotsRow.holds Tryz.pinned (OpenSpec.ofChange windowSlotsWrong)

/-- 'spylaw2.PlanWorths': WHATEVER THE INPUT: true; the input reads as it did. -/
def planWorthsSpec : ChangeSpec := { name := "planWorths", fn := fun _ => fun
  | [d1, d2, d3, d4] => { results := [.lit (.bool true)], args := [d1, d2, d3, d4] }
  | _ => none }
def planWorthsRow : OpenClaim := { program := "ytionphbdphbpnaagreat", sum := "51beca92c84ca27a24fdcf5a2567a4c9ccb23616581683021c5df25abbac8ec8", func := "spyglass/spylaw2.PlanWorths", spec := "planWorths", inPlace := ["math/bits.Add64"], unfollowed := true, recurses := true, named := ["math/bits.divideError", "math/bits.overflowError"], apart := false }
def PlanWorthsSaid : Prop := planWorthsRow.holds Tryz.pinned (OpenSpec.ofChange planWorthsSpec)

/-- ITS FALSE NEIGHBOUR: 'it returns false'. Refute it at one input. -/
def planWorthsWrong : ChangeSpec := { name := "planWorths", fn := fun _ => fun
  | [d1, d2, d3, d4] => { results := [.lit (.bool false)], args := [d1, d2, d3, d4] }
  | _ => none }
def PlanWorthsWrongFalsely : Prop := planWorthsRow.holds Tryz.pinned (OpenSpec.ofChange planWorthsWrong)

/-- 'spylaw2.BestBounds': WHATEVER THE INPUT: true; the input reads as it did. -/
def bestBoundsSpec : ChangeSpec := { name := "bestBounds", fn := fun _ => fun
  | [d1, d2, d3] => { results := [.lit (.bool true)], args := [d1, d2, d3] }
  | _ => none }
def bestBoundsRow : OpenClaim := { program := "ytionphbdphbpnaagreat", sum := "51beca92c84ca27a24fdcf5a2567a4c9ccb23616581683021c5df25abbac8ec8", func := "spyglass/spylaw2.BestBounds", spec := "bestBounds", inPlace := ["math/bits.Add64"], unfollowed := true, recurses := true, named := ["math/bits.divideError", "math/bits.overflowError"], apart := false }
def BestBoundsSaid : Prop := bestBoundsRow.holds Tryz.pinned (OpenSpec.ofChange bestBoundsSpec)

/-- ITS FALSE NEIGHBOUR: 'it returns false'. Refute it at one input. -/
def bestBoundsWrong : ChangeSpec := { name := "bestBounds", fn := fun _ => fun
  | [d1, d2, d3] => { results := [.lit (.bool false)], args := [d1, d2, d3] }
  | _ => none }
def BestBoundsWrongFalsely : Prop := bestBoundsRow.holds Tryz.pinned (OpenSpec.ofChange bestBoundsWrong)

/-- 'spylaw2.PlanSteps': WHATEVER THE INPUT: true; the input reads as it did. -/
def planStepsSpec : ChangeSpec := { name := "planSteps", fn := fun _ => fun
  | [d1, d2, d3, d4, d5] => { results := [.lit (.bool true)], args := [d1, d2, d3, d4, d5] }
  | _ => none }
def planStepsRow : OpenClaim := { program := "ytionphbdphbpnaagreat", sum := "51beca92c84ca27a24fdcf5a2567a4c9ccb23616581683021c5df25abbac8ec8", func := "spyglass/spylaw2.PlanSteps", spec := "planSteps", inPlace := ["math/bits.Add64"], unfollowed := true, recurses := true, named := ["math/bits.divideError", "math/bits.overflowError"], apart := false }
def PlanStepsSaid : Prop := planStepsRow.holds Tryz.pinned (OpenSpec.ofChange planStepsSpec)

/-- ITS FALSE NEIGHBOUR: 'it returns false'. Refute it at one input. -/
def planStepsWrong : ChangeSpec := { name := "planSteps", fn := fun _ => fun
  | [d1, d2, d3, d4, d5] => { results := [.lit (.bool false)], args := [d1, d2, d3, d4, d5] }
  | _ => none }
def PlanStepsWrongFalsely : Prop := planStepsRow.holds Tryz.pinned (OpenSpec.ofChange planStepsWrong)

/-- 'spylaw2.PlanLooks': WHATEVER THE INPUT: true; the input reads as it did. -/
def planLooksSpec : ChangeSpec := { name := "planLooks", fn := fun _ => fun
  | [d1, d2, d3, d4] => { results := [.lit (.bool true)], args := [d1, d2, d3, d4] }
  | _ => none }
def planLooksRow : OpenClaim := { program := "ytionphbdphbpnaagreat", sum := "51beca92c84ca27a24fdcf5a2567a4c9ccb23616581683021c5df25abbac8ec8", func := "spyglass/spylaw2.PlanLooks", spec := "planLooks", inPlace := ["math/bits.Add64"], unfollowed := true, recurses := true, named := ["math/bits.divideError", "math/bits.overflowError"], apart := false }
def PlanLooksSaid : Prop := planLooksRow.holds Tryz.pinned (OpenSpec.ofChange planLooksSpec)

/-- ITS FALSE NEIGHBOUR: 'it returns false'. Refute it at one input. -/
def planLooksWrong : ChangeSpec := { name := "planLooks", fn := fun _ => fun
  | [d1, d2, d3, d4] => { results := [.lit (.bool false)], args := [d1, d2, d3, d4] }
  | _ => none }
def PlanLooksWrongFalsely : Prop := planLooksRow.holds Tryz.pinned (OpenSpec.ofChange planLooksWrong)

/-- 'spylaw2.PlanAfter': WHATEVER THE INPUT: true; the input reads as it did. -/
def planAfterSpec : ChangeSpec := { name := "planAfter", fn := fun _ => fun
  | [d1, d2, d3, d4] => { results := [.lit (.bool true)], args := [d1, d2, d3, d4] }
  | _ => none }
def planAfterRow : OpenClaim := { program := "ytionphbdphbpnaagreat", sum := "51beca92c84ca27a24fdcf5a2567a4c9ccb23616581683021c5df25abbac8ec8", func := "spyglass/spylaw2.PlanAfter", spec := "planAfter", inPlace := ["math/bits.Add64"], unfollowed := true, recurses := true, named := ["math/bits.divideError", "math/bits.overflowError"], apart := false }
def PlanAfterSaid : Prop := planAfterRow.holds Tryz.pinned (OpenSpec.ofChange planAfterSpec)

/-- ITS FALSE NEIGHBOUR: 'it returns false'. Refute it at one input. -/
def planAfterWrong : ChangeSpec := { name := "planAfter", fn := fun _ => fun
  | [d1, d2, d3, d4] => { results := [.lit (.bool false)], args := [d1, d2, d3, d4] }
  | _ => none }
def PlanAfterWrongFalsely : Prop := planAfterRow.holds Tryz.pinned (OpenSpec.ofChange planAfterWrong)

/- THE SECOND FORM. 'bulk': how many values and letters a reading holds, each counted each time it is reached (what is shared counts as often as it is met; a slice's spare places count too). A statement '..UptoSaid' is the law's where the arguments, and the package variables that the reading takes, are together of bulk at most 1048576: NARROWER than '..Said'. Prove '..Said' where nothing that the law and all that it calls make is longer than what came in: it says more and counts as full. Else prove '..UptoSaid'. A law counts once. -/
mutual
def uptoBulk {H : Type} : DataW H → Nat
  | .lit (.string bytes) => bytes.length + 1
  | .lit _ => 1
  | .nil => 1
  | .ptr d => uptoBulk d + 1
  | .slice elems spare => uptoBulkAll elems + uptoBulkAll spare + 1
  | .agg parts => uptoBulkAll parts + 1
  | .iface _ d => uptoBulk d + 1
  | .map entries => uptoBulkEntries entries + 1
  | .held _ => 1
def uptoBulkAll {H : Type} : List (DataW H) → Nat
  | [] => 0
  | d :: r => uptoBulk d + uptoBulkAll r
def uptoBulkEntries {H : Type} : List (Lit × DataW H) → Nat
  | [] => 0
  | x :: r => uptoBulkEntry x + uptoBulkEntries r
def uptoBulkEntry {H : Type} : Lit × DataW H → Nat
  | (.string bytes, d) => bytes.length + uptoBulk d + 1
  | (_, d) => uptoBulk d + 1
 end
def uptoSmall : (H : Type) → List (DataW H) → Bool := fun _ ds => decide (uptoBulkAll ds ≤ 1048576)
def OpenSpec.upto (s : _root_.Go.ChangeSpec) : _root_.Go.OpenSpec := { _root_.Go.OpenSpec.ofChange s with cond := some uptoSmall }

/-- 'spylaw2.WindowWhys', WHERE WHAT IT READS IS OF BULK AT MOST 1048576: true; the input reads as it did. -/
def windowWhysUptoRow : OpenClaim := { program := "ytionphbdphbpnaagreat", sum := "51beca92c84ca27a24fdcf5a2567a4c9ccb23616581683021c5df25abbac8ec8", func := "spyglass/spylaw2.WindowWhys", spec := "windowWhys", inPlace := ["math/bits.Add64"], unfollowed := true, recurses := true, named := ["math/bits.divideError", "math/bits.overflowError"], apart := false, narrowed := true }
def WindowWhysUptoSaid : Prop := windowWhysUptoRow.holds Tryz.pinned (OpenSpec.upto windowWhysSpec)

/-- 'spylaw2.WindowFits', WHERE WHAT IT READS IS OF BULK AT MOST 1048576: true; the input reads as it did. -/
def windowFitsUptoRow : OpenClaim := { program := "ytionphbdphbpnaagreat", sum := "51beca92c84ca27a24fdcf5a2567a4c9ccb23616581683021c5df25abbac8ec8", func := "spyglass/spylaw2.WindowFits", spec := "windowFits", inPlace := ["math/bits.Add64"], unfollowed := true, recurses := true, named := ["math/bits.divideError", "math/bits.overflowError"], apart := false, narrowed := true }
def WindowFitsUptoSaid : Prop := windowFitsUptoRow.holds Tryz.pinned (OpenSpec.upto windowFitsSpec)

/-- 'spylaw2.WindowSlots', WHERE WHAT IT READS IS OF BULK AT MOST 1048576: true; the input reads as it did. -/
def windowSlotsUptoRow : OpenClaim := { program := "ytionphbdphbpnaagreat", sum := "51beca92c84ca27a24fdcf5a2567a4c9ccb23616581683021c5df25abbac8ec8", func := "spyglass/spylaw2.WindowSlots", spec := "windowSlots", inPlace := ["math/bits.Add64"], unfollowed := true, recurses := true, named := ["math/bits.divideError", "math/bits.overflowError"], apart := false, narrowed := true }
def WindowSlotsUptoSaid : Prop := windowSlotsUptoRow.holds Tryz.pinned (OpenSpec.upto windowSlotsSpec)

/-- 'spylaw2.PlanWorths', WHERE WHAT IT READS IS OF BULK AT MOST 1048576: true; the input reads as it did. -/
def planWorthsUptoRow : OpenClaim := { program := "ytionphbdphbpnaagreat", sum := "51beca92c84ca27a24fdcf5a2567a4c9ccb23616581683021c5df25abbac8ec8", func := "spyglass/spylaw2.PlanWorths", spec := "planWorths", inPlace := ["math/bits.Add64"], unfollowed := true, recurses := true, named := ["math/bits.divideError", "math/bits.overflowError"], apart := false, narrowed := true }
def PlanWorthsUptoSaid : Prop := planWorthsUptoRow.holds Tryz.pinned (OpenSpec.upto planWorthsSpec)

/-- 'spylaw2.BestBounds', WHERE WHAT IT READS IS OF BULK AT MOST 1048576: true; the input reads as it did. -/
def bestBoundsUptoRow : OpenClaim := { program := "ytionphbdphbpnaagreat", sum := "51beca92c84ca27a24fdcf5a2567a4c9ccb23616581683021c5df25abbac8ec8", func := "spyglass/spylaw2.BestBounds", spec := "bestBounds", inPlace := ["math/bits.Add64"], unfollowed := true, recurses := true, named := ["math/bits.divideError", "math/bits.overflowError"], apart := false, narrowed := true }
def BestBoundsUptoSaid : Prop := bestBoundsUptoRow.holds Tryz.pinned (OpenSpec.upto bestBoundsSpec)

/-- 'spylaw2.PlanSteps', WHERE WHAT IT READS IS OF BULK AT MOST 1048576: true; the input reads as it did. -/
def planStepsUptoRow : OpenClaim := { program := "ytionphbdphbpnaagreat", sum := "51beca92c84ca27a24fdcf5a2567a4c9ccb23616581683021c5df25abbac8ec8", func := "spyglass/spylaw2.PlanSteps", spec := "planSteps", inPlace := ["math/bits.Add64"], unfollowed := true, recurses := true, named := ["math/bits.divideError", "math/bits.overflowError"], apart := false, narrowed := true }
def PlanStepsUptoSaid : Prop := planStepsUptoRow.holds Tryz.pinned (OpenSpec.upto planStepsSpec)

/-- 'spylaw2.PlanLooks', WHERE WHAT IT READS IS OF BULK AT MOST 1048576: true; the input reads as it did. -/
def planLooksUptoRow : OpenClaim := { program := "ytionphbdphbpnaagreat", sum := "51beca92c84ca27a24fdcf5a2567a4c9ccb23616581683021c5df25abbac8ec8", func := "spyglass/spylaw2.PlanLooks", spec := "planLooks", inPlace := ["math/bits.Add64"], unfollowed := true, recurses := true, named := ["math/bits.divideError", "math/bits.overflowError"], apart := false, narrowed := true }
def PlanLooksUptoSaid : Prop := planLooksUptoRow.holds Tryz.pinned (OpenSpec.upto planLooksSpec)

/-- 'spylaw2.PlanAfter', WHERE WHAT IT READS IS OF BULK AT MOST 1048576: true; the input reads as it did. -/
def planAfterUptoRow : OpenClaim := { program := "ytionphbdphbpnaagreat", sum := "51beca92c84ca27a24fdcf5a2567a4c9ccb23616581683021c5df25abbac8ec8", func := "spyglass/spylaw2.PlanAfter", spec := "planAfter", inPlace := ["math/bits.Add64"], unfollowed := true, recurses := true, named := ["math/bits.divideError", "math/bits.overflowError"], apart := false, narrowed := true }
def PlanAfterUptoSaid : Prop := planAfterUptoRow.holds Tryz.pinned (OpenSpec.upto planAfterSpec)

end Rows
end Go.Proofs.YtionphbdphbpnaaGreat
