/-
  No cell of these rows narrows 'for every input' (looked for: loops, veiled, ifaces, maps, wideKeys, modest, calm, conditions, laid).
  DERIVED. THE GIVEN ROWS OF THIS SEAT. 4 by the template 'for every input the law returns true; each argument reads behind the call as it read before'; 0 by the template 'total and deterministic' (their statements: YtionphbdphbpnaaTotals.lean).
  GIVEN WITH THE SEED: the statements are not yours to turn. If you find one false, say at which input.
  Laid BY PROGRAM, IN A SANDBOX (cutbox-rows.mjs): the forced cells as the released guide's own fill.sh prints them over the translation 2f6dae5bebd48b78… (all of the seat's roots in one cut). By AI agents, Wed Nov 11 2026. No macro, syntax, notation, axiom, sorry.
-/
import Derived.Test.YtionphbdphbpnaaChecked
import GoSem.Claim
import GoSem.ClaimJoined
import GoSem.ClaimMapViews
import Derived.JoinedTies
import Derived.KernelRfl
namespace Go.Proofs.Ytionphbdphbpnaa
/- THE CELL 'sum', in the pinned program and in every row, IS THE sha256 OF THE DUMP (.gsa) THAT YtionphbdphbpnaaProg.lean LOADS. Nothing in Lean hashes anything: it is a label: what it is worth is what the hold of that sum in a sandbox is worth. -/
noncomputable def Try.pinned : Pinned := { name := "ytionphbdphbpnaa", sum := "2f6dae5bebd48b7840ebd92c031c2feb02c294f94ab9af7c3e1e31d0fca45974", checked := Try.checked }
namespace Rows
def none {H : Type} : Left H := { results := [], args := [] }

/-- 'spylaw2.SlewSlots': WHATEVER THE INPUT: true; the input reads as it did. -/
def slewSlotsSpec : ChangeSpec := { name := "slewSlots", fn := fun _ => fun
  | [d1, d2] => { results := [.lit (.bool true)], args := [d1, d2] }
  | _ => none }
def slewSlotsRow : OpenClaim := { program := "ytionphbdphbpnaa", sum := "2f6dae5bebd48b7840ebd92c031c2feb02c294f94ab9af7c3e1e31d0fca45974", func := "spyglass/spylaw2.SlewSlots", spec := "slewSlots", inPlace := ["math/bits.Add64"], unfollowed := true, recurses := true, apart := false }
def SlewSlotsSaid : Prop := slewSlotsRow.holds Try.pinned (OpenSpec.ofChange slewSlotsSpec)

/-- ITS FALSE NEIGHBOUR: 'it returns false'. Refute it at one input. -/
def slewSlotsWrong : ChangeSpec := { name := "slewSlots", fn := fun _ => fun
  | [d1, d2] => { results := [.lit (.bool false)], args := [d1, d2] }
  | _ => none }
def SlewSlotsWrongFalsely : Prop := slewSlotsRow.holds Try.pinned (OpenSpec.ofChange slewSlotsWrong)

/-- 'spylaw2.SlewAims': WHATEVER THE INPUT: true; the input reads as it did. -/
def slewAimsSpec : ChangeSpec := { name := "slewAims", fn := fun _ => fun
  | [d1, d2, d3] => { results := [.lit (.bool true)], args := [d1, d2, d3] }
  | _ => none }
def slewAimsRow : OpenClaim := { program := "ytionphbdphbpnaa", sum := "2f6dae5bebd48b7840ebd92c031c2feb02c294f94ab9af7c3e1e31d0fca45974", func := "spyglass/spylaw2.SlewAims", spec := "slewAims", inPlace := ["math/bits.Add64"], unfollowed := true, recurses := true, named := ["math/bits.divideError", "math/bits.overflowError"], apart := false }
def SlewAimsSaid : Prop := slewAimsRow.holds Try.pinned (OpenSpec.ofChange slewAimsSpec)

/-- ITS FALSE NEIGHBOUR: 'it returns false'. Refute it at one input. -/
def slewAimsWrong : ChangeSpec := { name := "slewAims", fn := fun _ => fun
  | [d1, d2, d3] => { results := [.lit (.bool false)], args := [d1, d2, d3] }
  | _ => none }
def SlewAimsWrongFalsely : Prop := slewAimsRow.holds Try.pinned (OpenSpec.ofChange slewAimsWrong)

/-- 'spylaw2.SlewTracks': WHATEVER THE INPUT: true; the input reads as it did. -/
def slewTracksSpec : ChangeSpec := { name := "slewTracks", fn := fun _ => fun
  | [d1, d2, d3, d4, d5, d6] => { results := [.lit (.bool true)], args := [d1, d2, d3, d4, d5, d6] }
  | _ => none }
def slewTracksRow : OpenClaim := { program := "ytionphbdphbpnaa", sum := "2f6dae5bebd48b7840ebd92c031c2feb02c294f94ab9af7c3e1e31d0fca45974", func := "spyglass/spylaw2.SlewTracks", spec := "slewTracks", inPlace := ["math/bits.Add64"], unfollowed := true, recurses := true, named := ["math/bits.divideError", "math/bits.overflowError"], apart := false }
def SlewTracksSaid : Prop := slewTracksRow.holds Try.pinned (OpenSpec.ofChange slewTracksSpec)

/-- ITS FALSE NEIGHBOUR: 'it returns false'. Refute it at one input. -/
def slewTracksWrong : ChangeSpec := { name := "slewTracks", fn := fun _ => fun
  | [d1, d2, d3, d4, d5, d6] => { results := [.lit (.bool false)], args := [d1, d2, d3, d4, d5, d6] }
  | _ => none }
def SlewTracksWrongFalsely : Prop := slewTracksRow.holds Try.pinned (OpenSpec.ofChange slewTracksWrong)

/-- 'spylaw2.PlanStates': WHATEVER THE INPUT: true; the input reads as it did. -/
def planStatesSpec : ChangeSpec := { name := "planStates", fn := fun _ => fun
  | [d1, d2, d3, d4] => { results := [.lit (.bool true)], args := [d1, d2, d3, d4] }
  | _ => none }
def planStatesRow : OpenClaim := { program := "ytionphbdphbpnaa", sum := "2f6dae5bebd48b7840ebd92c031c2feb02c294f94ab9af7c3e1e31d0fca45974", func := "spyglass/spylaw2.PlanStates", spec := "planStates", inPlace := ["math/bits.Add64"], unfollowed := true, recurses := true, apart := false }
def PlanStatesSaid : Prop := planStatesRow.holds Try.pinned (OpenSpec.ofChange planStatesSpec)

/-- ITS FALSE NEIGHBOUR: 'it returns false'. Refute it at one input. -/
def planStatesWrong : ChangeSpec := { name := "planStates", fn := fun _ => fun
  | [d1, d2, d3, d4] => { results := [.lit (.bool false)], args := [d1, d2, d3, d4] }
  | _ => none }
def PlanStatesWrongFalsely : Prop := planStatesRow.holds Try.pinned (OpenSpec.ofChange planStatesWrong)

/- THE SECOND FORM. 'bulk': how many values and letters a reading holds, each counted each time it is reached (what is shared counts as often as it is met; a slice's spare places count too). A statement '..UptoSaid' is the law's where the arguments, and the package variables that the reading takes, are together of bulk at most 1048576: NARROWER than '..Said'. Prove '..Said' where nothing that the law and all that it calls make is longer than what came in: it says more and counts as full. Else prove '..UptoSaid'. A law counts once. -/
mutual
def uptoBulk {H : Type} : DataW H → Nat
  | .lit (.string bytes) => bytes.length + 1
  | .lit _ => 1
  | .nil => 1
  | .ptr d => uptoBulk d + 1
  | .slice elems spare => uptoBulkAll elems + uptoBulkAll spare + 1
  | .agg parts => uptoBulkAll parts + 1
  | .iface _ d => uptoBulk d + 1
  | .map entries => uptoBulkEntries entries + 1
  | .held _ => 1
def uptoBulkAll {H : Type} : List (DataW H) → Nat
  | [] => 0
  | d :: r => uptoBulk d + uptoBulkAll r
def uptoBulkEntries {H : Type} : List (Lit × DataW H) → Nat
  | [] => 0
  | x :: r => uptoBulkEntry x + uptoBulkEntries r
def uptoBulkEntry {H : Type} : Lit × DataW H → Nat
  | (.string bytes, d) => bytes.length + uptoBulk d + 1
  | (_, d) => uptoBulk d + 1
 end
def uptoSmall : (H : Type) → List (DataW H) → Bool := fun _ ds => decide (uptoBulkAll ds ≤ 1048576)
def OpenSpec.upto (s : _root_.Go.ChangeSpec) : _root_.Go.OpenSpec := { _root_.Go.OpenSpec.ofChange s with cond := some uptoSmall }

/-- 'spylaw2.SlewSlots', WHERE WHAT IT READS IS OF BULK AT MOST 1048576: true; the input reads as it did. -/
def slewSlotsUptoRow : OpenClaim := { program := "ytionphbdphbpnaa", sum := "2f6dae5bebd48b7840ebd92c031c2feb02c294f94ab9af7c3e1e31d0fca45974", func := "spyglass/spylaw2.SlewSlots", spec := "slewSlots", inPlace := ["math/bits.Add64"], unfollowed := true, recurses := true, apart := false, narrowed := true }
def SlewSlotsUptoSaid : Prop := slewSlotsUptoRow.holds Try.pinned (OpenSpec.upto slewSlotsSpec)

/-- 'spylaw2.SlewAims', WHERE WHAT IT READS IS OF BULK AT MOST 1048576: true; the input reads as it did. -/
def slewAimsUptoRow : OpenClaim := { program := "ytionphbdphbpnaa", sum := "2f6dae5bebd48b7840ebd92c031c2feb02c294f94ab9af7c3e1e31d0fca45974", func := "spyglass/spylaw2.SlewAims", spec := "slewAims", inPlace := ["math/bits.Add64"], unfollowed := true, recurses := true, named := ["math/bits.divideError", "math/bits.overflowError"], apart := false, narrowed := true }
def SlewAimsUptoSaid : Prop := slewAimsUptoRow.holds Try.pinned (OpenSpec.upto slewAimsSpec)

/-- 'spylaw2.SlewTracks', WHERE WHAT IT READS IS OF BULK AT MOST 1048576: true; the input reads as it did. -/
def slewTracksUptoRow : OpenClaim := { program := "ytionphbdphbpnaa", sum := "2f6dae5bebd48b7840ebd92c031c2feb02c294f94ab9af7c3e1e31d0fca45974", func := "spyglass/spylaw2.SlewTracks", spec := "slewTracks", inPlace := ["math/bits.Add64"], unfollowed := true, recurses := true, named := ["math/bits.divideError", "math/bits.overflowError"], apart := false, narrowed := true }
def SlewTracksUptoSaid : Prop := slewTracksUptoRow.holds Try.pinned (OpenSpec.upto slewTracksSpec)

/-- 'spylaw2.PlanStates', WHERE WHAT IT READS IS OF BULK AT MOST 1048576: true; the input reads as it did. -/
def planStatesUptoRow : OpenClaim := { program := "ytionphbdphbpnaa", sum := "2f6dae5bebd48b7840ebd92c031c2feb02c294f94ab9af7c3e1e31d0fca45974", func := "spyglass/spylaw2.PlanStates", spec := "planStates", inPlace := ["math/bits.Add64"], unfollowed := true, recurses := true, apart := false, narrowed := true }
def PlanStatesUptoSaid : Prop := planStatesUptoRow.holds Try.pinned (OpenSpec.upto planStatesSpec)

end Rows
end Go.Proofs.Ytionphbdphbpnaa
