/-
  No cell of these rows narrows 'for every input' (looked for: loops, veiled, ifaces, maps, wideKeys, modest, calm, conditions, laid).
  DERIVED. THE GIVEN ROWS OF THIS SEAT. 10 by the template 'for every input the law returns true; each argument reads behind the call as it read before'; 0 by the template 'total and deterministic' (their statements: YtahedflmojodmaaGreatTotals.lean).
  GIVEN WITH THE SEED: the statements are not yours to turn. If you find one false, say at which input.
  Laid BY PROGRAM, IN A SANDBOX (cutbox-rows.mjs): the forced cells as the released guide's own fill.sh prints them over the translation 922f083f7c5f453e… (all of the seat's roots in one cut). By AI agents, Wed Nov 11 2026. No macro, syntax, notation, axiom, sorry.
-/
import Derived.Test.YtahedflmojodmaaGreatChecked
import GoSem.Claim
import GoSem.ClaimJoined
import GoSem.ClaimMapViews
import Derived.JoinedTies
import Derived.KernelRfl
namespace Go.Proofs.YtahedflmojodmaaGreat
/- THE CELL 'sum', in the pinned program and in every row, IS THE sha256 OF THE DUMP (.gsa) THAT YtahedflmojodmaaGreatProg.lean LOADS. Nothing in Lean hashes anything: it is a label: what it is worth is what the hold of that sum in a sandbox is worth. -/
noncomputable def Tryz.pinned : Pinned := { name := "ytahedflmojodmaagreat", sum := "922f083f7c5f453e2b4db5c028ba2212e2cda470364a5b09645499212fbc2177", checked := Tryz.checked }
namespace Rows
def none {H : Type} : Left H := { results := [], args := [] }

/-- 'spylaw2.PlanEarliest': WHATEVER THE INPUT: true; the input reads as it did. -/
def planEarliestSpec : ChangeSpec := { name := "planEarliest", fn := fun _ => fun
  | [d1, d2, d3, d4, d5] => { results := [.lit (.bool true)], args := [d1, d2, d3, d4, d5] }
  | _ => none }
def planEarliestRow : OpenClaim := { program := "ytahedflmojodmaagreat", sum := "922f083f7c5f453e2b4db5c028ba2212e2cda470364a5b09645499212fbc2177", func := "spyglass/spylaw2.PlanEarliest", spec := "planEarliest", inPlace := ["math/bits.Add64"], unfollowed := true, recurses := true, named := ["math/bits.divideError", "math/bits.overflowError"], apart := false }
def PlanEarliestSaid : Prop := planEarliestRow.holds Tryz.pinned (OpenSpec.ofChange planEarliestSpec)

/-- ITS FALSE NEIGHBOUR: 'it returns false'. Refute it at one input. -/
def planEarliestWrong : ChangeSpec := { name := "planEarliest", fn := fun _ => fun
  | [d1, d2, d3, d4, d5] => { results := [.lit (.bool false)], args := [d1, d2, d3, d4, d5] }
  | _ => none }
def PlanEarliestWrongFalsely : Prop := planEarliestRow.holds Tryz.pinned (OpenSpec.ofChange planEarliestWrong)

/-- 'spylaw2.BestOrders': WHATEVER THE INPUT: true; the input reads as it did. -/
def bestOrdersSpec : ChangeSpec := { name := "bestOrders", fn := fun _ => fun
  | [d1, d2, d3, d4] => { results := [.lit (.bool true)], args := [d1, d2, d3, d4] }
  | _ => none }
def bestOrdersRow : OpenClaim := { program := "ytahedflmojodmaagreat", sum := "922f083f7c5f453e2b4db5c028ba2212e2cda470364a5b09645499212fbc2177", func := "spyglass/spylaw2.BestOrders", spec := "bestOrders", inPlace := ["math/bits.Add64"], unfollowed := true, recurses := true, named := ["math/bits.divideError", "math/bits.overflowError"], apart := false }
def BestOrdersSaid : Prop := bestOrdersRow.holds Tryz.pinned (OpenSpec.ofChange bestOrdersSpec)

/-- ITS FALSE NEIGHBOUR: 'it returns false'. Refute it at one input. -/
def bestOrdersWrong : ChangeSpec := { name := "bestOrders", fn := fun _ => fun
  | [d1, d2, d3, d4] => { results := [.lit (.bool false)], args := [d1, d2, d3, d4] }
  | _ => none }
def BestOrdersWrongFalsely : Prop := bestOrdersRow.holds Tryz.pinned (OpenSpec.ofChange bestOrdersWrong)

/-- 'spylaw2.ReplanStates': WHATEVER THE INPUT: true; the input reads as it did. -/
def replanStatesSpec : ChangeSpec := { name := "replanStates", fn := fun _ => fun
  | [d1, d2, d3, d4, d5] => { results := [.lit (.bool true)], args := [d1, d2, d3, d4, d5] }
  | _ => none }
def replanStatesRow : OpenClaim := { program := "ytahedflmojodmaagreat", sum := "922f083f7c5f453e2b4db5c028ba2212e2cda470364a5b09645499212fbc2177", func := "spyglass/spylaw2.ReplanStates", spec := "replanStates", inPlace := ["math/bits.Add64"], unfollowed := true, recurses := true, named := ["math/bits.divideError", "math/bits.overflowError"], apart := false }
def ReplanStatesSaid : Prop := replanStatesRow.holds Tryz.pinned (OpenSpec.ofChange replanStatesSpec)

/-- ITS FALSE NEIGHBOUR: 'it returns false'. Refute it at one input. -/
def replanStatesWrong : ChangeSpec := { name := "replanStates", fn := fun _ => fun
  | [d1, d2, d3, d4, d5] => { results := [.lit (.bool false)], args := [d1, d2, d3, d4, d5] }
  | _ => none }
def ReplanStatesWrongFalsely : Prop := replanStatesRow.holds Tryz.pinned (OpenSpec.ofChange replanStatesWrong)

/-- 'spylaw2.BestFinds': WHATEVER THE INPUT: true; the input reads as it did. -/
def bestFindsSpec : ChangeSpec := { name := "bestFinds", fn := fun _ => fun
  | [d1, d2, d3] => { results := [.lit (.bool true)], args := [d1, d2, d3] }
  | _ => none }
def bestFindsRow : OpenClaim := { program := "ytahedflmojodmaagreat", sum := "922f083f7c5f453e2b4db5c028ba2212e2cda470364a5b09645499212fbc2177", func := "spyglass/spylaw2.BestFinds", spec := "bestFinds", inPlace := ["math/bits.Add64"], unfollowed := true, recurses := true, named := ["math/bits.divideError", "math/bits.overflowError"], apart := false }
def BestFindsSaid : Prop := bestFindsRow.holds Tryz.pinned (OpenSpec.ofChange bestFindsSpec)

/-- ITS FALSE NEIGHBOUR: 'it returns false'. Refute it at one input. -/
def bestFindsWrong : ChangeSpec := { name := "bestFinds", fn := fun _ => fun
  | [d1, d2, d3] => { results := [.lit (.bool false)], args := [d1, d2, d3] }
  | _ => none }
def BestFindsWrongFalsely : Prop := bestFindsRow.holds Tryz.pinned (OpenSpec.ofChange bestFindsWrong)

/-- 'spylaw2.PlanGoesOn': WHATEVER THE INPUT: true; the input reads as it did. -/
def planGoesOnSpec : ChangeSpec := { name := "planGoesOn", fn := fun _ => fun
  | [d1, d2, d3, d4] => { results := [.lit (.bool true)], args := [d1, d2, d3, d4] }
  | _ => none }
def planGoesOnRow : OpenClaim := { program := "ytahedflmojodmaagreat", sum := "922f083f7c5f453e2b4db5c028ba2212e2cda470364a5b09645499212fbc2177", func := "spyglass/spylaw2.PlanGoesOn", spec := "planGoesOn", inPlace := ["math/bits.Add64"], unfollowed := true, recurses := true, named := ["math/bits.divideError", "math/bits.overflowError"], apart := false }
def PlanGoesOnSaid : Prop := planGoesOnRow.holds Tryz.pinned (OpenSpec.ofChange planGoesOnSpec)

/-- ITS FALSE NEIGHBOUR: 'it returns false'. Refute it at one input. -/
def planGoesOnWrong : ChangeSpec := { name := "planGoesOn", fn := fun _ => fun
  | [d1, d2, d3, d4] => { results := [.lit (.bool false)], args := [d1, d2, d3, d4] }
  | _ => none }
def PlanGoesOnWrongFalsely : Prop := planGoesOnRow.holds Tryz.pinned (OpenSpec.ofChange planGoesOnWrong)

/-- 'spylaw2.PlanMakes': WHATEVER THE INPUT: true; the input reads as it did. -/
def planMakesSpec : ChangeSpec := { name := "planMakes", fn := fun _ => fun
  | [d1, d2, d3] => { results := [.lit (.bool true)], args := [d1, d2, d3] }
  | _ => none }
def planMakesRow : OpenClaim := { program := "ytahedflmojodmaagreat", sum := "922f083f7c5f453e2b4db5c028ba2212e2cda470364a5b09645499212fbc2177", func := "spyglass/spylaw2.PlanMakes", spec := "planMakes", inPlace := ["math/bits.Add64"], unfollowed := true, recurses := true, named := ["math/bits.divideError", "math/bits.overflowError"], apart := false }
def PlanMakesSaid : Prop := planMakesRow.holds Tryz.pinned (OpenSpec.ofChange planMakesSpec)

/-- ITS FALSE NEIGHBOUR: 'it returns false'. Refute it at one input. -/
def planMakesWrong : ChangeSpec := { name := "planMakes", fn := fun _ => fun
  | [d1, d2, d3] => { results := [.lit (.bool false)], args := [d1, d2, d3] }
  | _ => none }
def PlanMakesWrongFalsely : Prop := planMakesRow.holds Tryz.pinned (OpenSpec.ofChange planMakesWrong)

/-- 'spylaw2.WhyAll': WHATEVER THE INPUT: true; the input reads as it did. -/
def whyAllSpec : ChangeSpec := { name := "whyAll", fn := fun _ => fun
  | [d1, d2, d3, d4] => { results := [.lit (.bool true)], args := [d1, d2, d3, d4] }
  | _ => none }
def whyAllRow : OpenClaim := { program := "ytahedflmojodmaagreat", sum := "922f083f7c5f453e2b4db5c028ba2212e2cda470364a5b09645499212fbc2177", func := "spyglass/spylaw2.WhyAll", spec := "whyAll", inPlace := ["math/bits.Add64"], unfollowed := true, recurses := true, named := ["math/bits.divideError", "math/bits.overflowError"], apart := false }
def WhyAllSaid : Prop := whyAllRow.holds Tryz.pinned (OpenSpec.ofChange whyAllSpec)

/-- ITS FALSE NEIGHBOUR: 'it returns false'. Refute it at one input. -/
def whyAllWrong : ChangeSpec := { name := "whyAll", fn := fun _ => fun
  | [d1, d2, d3, d4] => { results := [.lit (.bool false)], args := [d1, d2, d3, d4] }
  | _ => none }
def WhyAllWrongFalsely : Prop := whyAllRow.holds Tryz.pinned (OpenSpec.ofChange whyAllWrong)

/-- 'spylaw2.WhyHolds': WHATEVER THE INPUT: true; the input reads as it did. -/
def whyHoldsSpec : ChangeSpec := { name := "whyHolds", fn := fun _ => fun
  | [d1, d2, d3, d4, d5, d6] => { results := [.lit (.bool true)], args := [d1, d2, d3, d4, d5, d6] }
  | _ => none }
def whyHoldsRow : OpenClaim := { program := "ytahedflmojodmaagreat", sum := "922f083f7c5f453e2b4db5c028ba2212e2cda470364a5b09645499212fbc2177", func := "spyglass/spylaw2.WhyHolds", spec := "whyHolds", inPlace := ["math/bits.Add64"], unfollowed := true, recurses := true, named := ["math/bits.divideError", "math/bits.overflowError"], apart := false }
def WhyHoldsSaid : Prop := whyHoldsRow.holds Tryz.pinned (OpenSpec.ofChange whyHoldsSpec)

/-- ITS FALSE NEIGHBOUR: 'it returns false'. Refute it at one input. -/
def whyHoldsWrong : ChangeSpec := { name := "whyHolds", fn := fun _ => fun
  | [d1, d2, d3, d4, d5, d6] => { results := [.lit (.bool false)], args := [d1, d2, d3, d4, d5, d6] }
  | _ => none }
def WhyHoldsWrongFalsely : Prop := whyHoldsRow.holds Tryz.pinned (OpenSpec.ofChange whyHoldsWrong)

/-- 'spylaw2.ReplanAgain': WHATEVER THE INPUT: true; the input reads as it did. -/
def replanAgainSpec : ChangeSpec := { name := "replanAgain", fn := fun _ => fun
  | [d1, d2, d3, d4, d5] => { results := [.lit (.bool true)], args := [d1, d2, d3, d4, d5] }
  | _ => none }
def replanAgainRow : OpenClaim := { program := "ytahedflmojodmaagreat", sum := "922f083f7c5f453e2b4db5c028ba2212e2cda470364a5b09645499212fbc2177", func := "spyglass/spylaw2.ReplanAgain", spec := "replanAgain", inPlace := ["math/bits.Add64"], unfollowed := true, recurses := true, named := ["math/bits.divideError", "math/bits.overflowError"], apart := false }
def ReplanAgainSaid : Prop := replanAgainRow.holds Tryz.pinned (OpenSpec.ofChange replanAgainSpec)

/-- ITS FALSE NEIGHBOUR: 'it returns false'. Refute it at one input. -/
def replanAgainWrong : ChangeSpec := { name := "replanAgain", fn := fun _ => fun
  | [d1, d2, d3, d4, d5] => { results := [.lit (.bool false)], args := [d1, d2, d3, d4, d5] }
  | _ => none }
def ReplanAgainWrongFalsely : Prop := replanAgainRow.holds Tryz.pinned (OpenSpec.ofChange replanAgainWrong)

/-- 'spylaw2.ReplanFollows': WHATEVER THE INPUT: true; the input reads as it did. -/
def replanFollowsSpec : ChangeSpec := { name := "replanFollows", fn := fun _ => fun
  | [d1, d2, d3, d4] => { results := [.lit (.bool true)], args := [d1, d2, d3, d4] }
  | _ => none }
def replanFollowsRow : OpenClaim := { program := "ytahedflmojodmaagreat", sum := "922f083f7c5f453e2b4db5c028ba2212e2cda470364a5b09645499212fbc2177", func := "spyglass/spylaw2.ReplanFollows", spec := "replanFollows", inPlace := ["math/bits.Add64"], unfollowed := true, recurses := true, named := ["math/bits.divideError", "math/bits.overflowError"], apart := false }
def ReplanFollowsSaid : Prop := replanFollowsRow.holds Tryz.pinned (OpenSpec.ofChange replanFollowsSpec)

/-- ITS FALSE NEIGHBOUR: 'it returns false'. Refute it at one input. -/
def replanFollowsWrong : ChangeSpec := { name := "replanFollows", fn := fun _ => fun
  | [d1, d2, d3, d4] => { results := [.lit (.bool false)], args := [d1, d2, d3, d4] }
  | _ => none }
def ReplanFollowsWrongFalsely : Prop := replanFollowsRow.holds Tryz.pinned (OpenSpec.ofChange replanFollowsWrong)

/- THE SECOND FORM. 'bulk': how many values and letters a reading holds, each counted each time it is reached (what is shared counts as often as it is met; a slice's spare places count too). A statement '..UptoSaid' is the law's where the arguments, and the package variables that the reading takes, are together of bulk at most 1048576: NARROWER than '..Said'. Prove '..Said' where nothing that the law and all that it calls make is longer than what came in: it says more and counts as full. Else prove '..UptoSaid'. A law counts once. -/
mutual
def uptoBulk {H : Type} : DataW H → Nat
  | .lit (.string bytes) => bytes.length + 1
  | .lit _ => 1
  | .nil => 1
  | .ptr d => uptoBulk d + 1
  | .slice elems spare => uptoBulkAll elems + uptoBulkAll spare + 1
  | .agg parts => uptoBulkAll parts + 1
  | .iface _ d => uptoBulk d + 1
  | .map entries => uptoBulkEntries entries + 1
  | .held _ => 1
def uptoBulkAll {H : Type} : List (DataW H) → Nat
  | [] => 0
  | d :: r => uptoBulk d + uptoBulkAll r
def uptoBulkEntries {H : Type} : List (Lit × DataW H) → Nat
  | [] => 0
  | x :: r => uptoBulkEntry x + uptoBulkEntries r
def uptoBulkEntry {H : Type} : Lit × DataW H → Nat
  | (.string bytes, d) => bytes.length + uptoBulk d + 1
  | (_, d) => uptoBulk d + 1
 end
def uptoSmall : (H : Type) → List (DataW H) → Bool := fun _ ds => decide (uptoBulkAll ds ≤ 1048576)
def OpenSpec.upto (s : _root_.Go.ChangeSpec) : _root_.Go.OpenSpec := { _root_.Go.OpenSpec.ofChange s with cond := some uptoSmall }

/-- 'spylaw2.PlanEarliest', WHERE WHAT IT READS IS OF BULK AT MOST 1048576: true; the input reads as it did. -/
def planEarliestUptoRow : OpenClaim := { program := "ytahedflmojodmaagreat", sum := "922f083f7c5f453e2b4db5c028ba2212e2cda470364a5b09645499212fbc2177", func := "spyglass/spylaw2.PlanEarliest", spec := "planEarliest", inPlace := ["math/bits.Add64"], unfollowed := true, recurses := true, named := ["math/bits.divideError", "math/bits.overflowError"], apart := false, narrowed := true }
def PlanEarliestUptoSaid : Prop := planEarliestUptoRow.holds Tryz.pinned (OpenSpec.upto planEarliestSpec)

/-- 'spylaw2.BestOrders', WHERE WHAT IT READS IS OF BULK AT MOST 1048576: true; the input reads as it did. -/
def bestOrdersUptoRow : OpenClaim := { program := "ytahedflmojodmaagreat", sum := "922f083f7c5f453e2b4db5c028ba2212e2cda470364a5b09645499212fbc2177", func := "spyglass/spylaw2.BestOrders", spec := "bestOrders", inPlace := ["math/bits.Add64"], unfollowed := true, recurses := true, named := ["math/bits.divideError", "math/bits.overflowError"], apart := false, narrowed := true }
def BestOrdersUptoSaid : Prop := bestOrdersUptoRow.holds Tryz.pinned (OpenSpec.upto bestOrdersSpec)

/-- 'spylaw2.ReplanStates', WHERE WHAT IT READS IS OF BULK AT MOST 1048576: true; the input reads as it did. -/
def replanStatesUptoRow : OpenClaim := { program := "ytahedflmojodmaagreat", sum := "922f083f7c5f453e2b4db5c028ba2212e2cda470364a5b09645499212fbc2177", func := "spyglass/spylaw2.ReplanStates", spec := "replanStates", inPlace := ["math/bits.Add64"], unfollowed := true, recurses := true, named := ["math/bits.divideError", "math/bits.overflowError"], apart := false, narrowed := true }
def ReplanStatesUptoSaid : Prop := replanStatesUptoRow.holds Tryz.pinned (OpenSpec.upto replanStatesSpec)

/-- 'spylaw2.BestFinds', WHERE WHAT IT READS IS OF BULK AT MOST 1048576: true; the input reads as it did. -/
def bestFindsUptoRow : OpenClaim := { program := "ytahedflmojodmaagreat", sum := "922f083f7c5f453e2b4db5c028ba2212e2cda470364a5b09645499212fbc2177", func := "spyglass/spylaw2.BestFinds", spec := "bestFinds", inPlace := ["math/bits.Add64"], unfollowed := true, recurses := true, named := ["math/bits.divideError", "math/bits.overflowError"], apart := false, narrowed := true }
def BestFindsUptoSaid : Prop := bestFindsUptoRow.holds Tryz.pinned (OpenSpec.upto bestFindsSpec)

/-- 'spylaw2.PlanGoesOn', WHERE WHAT IT READS IS OF BULK AT MOST 1048576: true; the input reads as it did. -/
def planGoesOnUptoRow : OpenClaim := { program := "ytahedflmojodmaagreat", sum := "922f083f7c5f453e2b4db5c028ba2212e2cda470364a5b09645499212fbc2177", func := "spyglass/spylaw2.PlanGoesOn", spec := "planGoesOn", inPlace := ["math/bits.Add64"], unfollowed := true, recurses := true, named := ["math/bits.divideError", "math/bits.overflowError"], apart := false, narrowed := true }
def PlanGoesOnUptoSaid : Prop := planGoesOnUptoRow.holds Tryz.pinned (OpenSpec.upto planGoesOnSpec)

/-- 'spylaw2.PlanMakes', WHERE WHAT IT READS IS OF BULK AT MOST 1048576: true; the input reads as it did. -/
def planMakesUptoRow : OpenClaim := { program := "ytahedflmojodmaagreat", sum := "922f083f7c5f453e2b4db5c028ba2212e2cda470364a5b09645499212fbc2177", func := "spyglass/spylaw2.PlanMakes", spec := "planMakes", inPlace := ["math/bits.Add64"], unfollowed := true, recurses := true, named := ["math/bits.divideError", "math/bits.overflowError"], apart := false, narrowed := true }
def PlanMakesUptoSaid : Prop := planMakesUptoRow.holds Tryz.pinned (OpenSpec.upto planMakesSpec)

/-- 'spylaw2.WhyAll', WHERE WHAT IT READS IS OF BULK AT MOST 1048576: true; the input reads as it did. -/
def whyAllUptoRow : OpenClaim := { program := "ytahedflmojodmaagreat", sum := "922f083f7c5f453e2b4db5c028ba2212e2cda470364a5b09645499212fbc2177", func := "spyglass/spylaw2.WhyAll", spec := "whyAll", inPlace := ["math/bits.Add64"], unfollowed := true, recurses := true, named := ["math/bits.divideError", "math/bits.overflowError"], apart := false, narrowed := true }
def WhyAllUptoSaid : Prop := whyAllUptoRow.holds Tryz.pinned (OpenSpec.upto whyAllSpec)

/-- 'spylaw2.WhyHolds', WHERE WHAT IT READS IS OF BULK AT MOST 1048576: true; the input reads as it did. -/
def whyHoldsUptoRow : OpenClaim := { program := "ytahedflmojodmaagreat", sum := "922f083f7c5f453e2b4db5c028ba2212e2cda470364a5b09645499212fbc2177", func := "spyglass/spylaw2.WhyHolds", spec := "whyHolds", inPlace := ["math/bits.Add64"], unfollowed := true, recurses := true, named := ["math/bits.divideError", "math/bits.overflowError"], apart := false, narrowed := true }
def WhyHoldsUptoSaid : Prop := whyHoldsUptoRow.holds Tryz.pinned (OpenSpec.upto whyHoldsSpec)

/-- 'spylaw2.ReplanAgain', WHERE WHAT IT READS IS OF BULK AT MOST 1048576: true; the input reads as it did. -/
def replanAgainUptoRow : OpenClaim := { program := "ytahedflmojodmaagreat", sum := "922f083f7c5f453e2b4db5c028ba2212e2cda470364a5b09645499212fbc2177", func := "spyglass/spylaw2.ReplanAgain", spec := "replanAgain", inPlace := ["math/bits.Add64"], unfollowed := true, recurses := true, named := ["math/bits.divideError", "math/bits.overflowError"], apart := false, narrowed := true }
def ReplanAgainUptoSaid : Prop := replanAgainUptoRow.holds Tryz.pinned (OpenSpec.upto replanAgainSpec)

/-- 'spylaw2.ReplanFollows', WHERE WHAT IT READS IS OF BULK AT MOST 1048576: true; the input reads as it did. -/
def replanFollowsUptoRow : OpenClaim := { program := "ytahedflmojodmaagreat", sum := "922f083f7c5f453e2b4db5c028ba2212e2cda470364a5b09645499212fbc2177", func := "spyglass/spylaw2.ReplanFollows", spec := "replanFollows", inPlace := ["math/bits.Add64"], unfollowed := true, recurses := true, named := ["math/bits.divideError", "math/bits.overflowError"], apart := false, narrowed := true }
def ReplanFollowsUptoSaid : Prop := replanFollowsUptoRow.holds Tryz.pinned (OpenSpec.upto replanFollowsSpec)

end Rows
end Go.Proofs.YtahedflmojodmaaGreat
