/-
  No cell of these rows narrows 'for every input' (looked for: loops, veiled, ifaces, maps, wideKeys, modest, calm, conditions, laid).
  DERIVED. THE GIVEN ROWS OF THIS SEAT. 3 by the template 'for every input the law returns true; each argument reads behind the call as it read before'; 0 by the template 'total and deterministic' (their statements: YtdcbapdakaaeoaaGreatTotals.lean).
  GIVEN WITH THE SEED: the statements are not yours to turn. If you find one false, say at which input.
  Laid BY PROGRAM, IN A SANDBOX (cutbox-rows.mjs): the forced cells as the released guide's own fill.sh prints them over the translation db496a45e3cb01d5… (all of the seat's roots in one cut). By AI agents, Wed Nov 11 2026. No macro, syntax, notation, axiom, sorry.
-/
import Derived.Test.YtdcbapdakaaeoaaGreatChecked
import GoSem.Claim
import GoSem.ClaimJoined
import GoSem.ClaimMapViews
import Derived.JoinedTies
import Derived.KernelRfl
namespace Go.Proofs.YtdcbapdakaaeoaaGreat
/- THE CELL 'sum', in the pinned program and in every row, IS THE sha256 OF THE DUMP (.gsa) THAT YtdcbapdakaaeoaaGreatProg.lean LOADS. Nothing in Lean hashes anything: it is a label: what it is worth is what the hold of that sum in a sandbox is worth. -/
noncomputable def Tryz.pinned : Pinned := { name := "ytdcbapdakaaeoaagreat", sum := "db496a45e3cb01d510b69a3ac9bc59925756f91d1187f08ba64819e025875628", checked := Tryz.checked }
namespace Rows
def none {H : Type} : Left H := { results := [], args := [] }

/-- 'spylaw2.ReplanFollows': WHATEVER THE INPUT: true; the input reads as it did. -/
def replanFollowsSpec : ChangeSpec := { name := "replanFollows", fn := fun _ => fun
  | [d1, d2, d3, d4] => { results := [.lit (.bool true)], args := [d1, d2, d3, d4] }
  | _ => none }
def replanFollowsRow : OpenClaim := { program := "ytdcbapdakaaeoaagreat", sum := "db496a45e3cb01d510b69a3ac9bc59925756f91d1187f08ba64819e025875628", func := "spyglass/spylaw2.ReplanFollows", spec := "replanFollows", inPlace := ["math/bits.Add64"], unfollowed := true, recurses := true, named := ["math/bits.divideError", "math/bits.overflowError"], apart := false }
def ReplanFollowsSaid : Prop := replanFollowsRow.holds Tryz.pinned (OpenSpec.ofChange replanFollowsSpec)

/-- ITS FALSE NEIGHBOUR: 'it returns false'. Refute it at one input. -/
def replanFollowsWrong : ChangeSpec := { name := "replanFollows", fn := fun _ => fun
  | [d1, d2, d3, d4] => { results := [.lit (.bool false)], args := [d1, d2, d3, d4] }
  | _ => none }
def ReplanFollowsWrongFalsely : Prop := replanFollowsRow.holds Tryz.pinned (OpenSpec.ofChange replanFollowsWrong)

/-- 'spylaw2.WhyAll': WHATEVER THE INPUT: true; the input reads as it did. -/
def whyAllSpec : ChangeSpec := { name := "whyAll", fn := fun _ => fun
  | [d1, d2, d3, d4] => { results := [.lit (.bool true)], args := [d1, d2, d3, d4] }
  | _ => none }
def whyAllRow : OpenClaim := { program := "ytdcbapdakaaeoaagreat", sum := "db496a45e3cb01d510b69a3ac9bc59925756f91d1187f08ba64819e025875628", func := "spyglass/spylaw2.WhyAll", spec := "whyAll", inPlace := ["math/bits.Add64"], unfollowed := true, recurses := true, named := ["math/bits.divideError", "math/bits.overflowError"], apart := false }
def WhyAllSaid : Prop := whyAllRow.holds Tryz.pinned (OpenSpec.ofChange whyAllSpec)

/-- ITS FALSE NEIGHBOUR: 'it returns false'. Refute it at one input. -/
def whyAllWrong : ChangeSpec := { name := "whyAll", fn := fun _ => fun
  | [d1, d2, d3, d4] => { results := [.lit (.bool false)], args := [d1, d2, d3, d4] }
  | _ => none }
def WhyAllWrongFalsely : Prop := whyAllRow.holds Tryz.pinned (OpenSpec.ofChange whyAllWrong)

/-- 'spylaw2.WhyHolds': WHATEVER THE INPUT: true; the input reads as it did. -/
def whyHoldsSpec : ChangeSpec := { name := "whyHolds", fn := fun _ => fun
  | [d1, d2, d3, d4, d5, d6] => { results := [.lit (.bool true)], args := [d1, d2, d3, d4, d5, d6] }
  | _ => none }
def whyHoldsRow : OpenClaim := { program := "ytdcbapdakaaeoaagreat", sum := "db496a45e3cb01d510b69a3ac9bc59925756f91d1187f08ba64819e025875628", func := "spyglass/spylaw2.WhyHolds", spec := "whyHolds", inPlace := ["math/bits.Add64"], unfollowed := true, recurses := true, named := ["math/bits.divideError", "math/bits.overflowError"], apart := false }
def WhyHoldsSaid : Prop := whyHoldsRow.holds Tryz.pinned (OpenSpec.ofChange whyHoldsSpec)

/-- ITS FALSE NEIGHBOUR: 'it returns false'. Refute it at one input. -/
def whyHoldsWrong : ChangeSpec := { name := "whyHolds", fn := fun _ => fun
  | [d1, d2, d3, d4, d5, d6] => { results := [.lit (.bool false)], args := [d1, d2, d3, d4, d5, d6] }
  | _ => none }
def WhyHoldsWrongFalsely : Prop := whyHoldsRow.holds Tryz.pinned (OpenSpec.ofChange whyHoldsWrong)

/- THE SECOND FORM. 'bulk': how many values and letters a reading holds, each counted each time it is reached (what is shared counts as often as it is met; a slice's spare places count too). A statement '..UptoSaid' is the law's where the arguments, and the package variables that the reading takes, are together of bulk at most 1048576: NARROWER than '..Said'. Prove '..Said' where nothing that the law and all that it calls make is longer than what came in: it says more and counts as full. Else prove '..UptoSaid'. A law counts once. -/
mutual
def uptoBulk {H : Type} : DataW H → Nat
  | .lit (.string bytes) => bytes.length + 1
  | .lit _ => 1
  | .nil => 1
  | .ptr d => uptoBulk d + 1
  | .slice elems spare => uptoBulkAll elems + uptoBulkAll spare + 1
  | .agg parts => uptoBulkAll parts + 1
  | .iface _ d => uptoBulk d + 1
  | .map entries => uptoBulkEntries entries + 1
  | .held _ => 1
def uptoBulkAll {H : Type} : List (DataW H) → Nat
  | [] => 0
  | d :: r => uptoBulk d + uptoBulkAll r
def uptoBulkEntries {H : Type} : List (Lit × DataW H) → Nat
  | [] => 0
  | x :: r => uptoBulkEntry x + uptoBulkEntries r
def uptoBulkEntry {H : Type} : Lit × DataW H → Nat
  | (.string bytes, d) => bytes.length + uptoBulk d + 1
  | (_, d) => uptoBulk d + 1
 end
def uptoSmall : (H : Type) → List (DataW H) → Bool := fun _ ds => decide (uptoBulkAll ds ≤ 1048576)
def OpenSpec.upto (s : _root_.Go.ChangeSpec) : _root_.Go.OpenSpec := { _root_.Go.OpenSpec.ofChange s with cond := some uptoSmall }

/-- 'spylaw2.ReplanFollows', WHERE WHAT IT READS IS OF BULK AT MOST 1048576: true; the input reads as it did. -/
def replanFollowsUptoRow : OpenClaim := { program := "ytdcbapdakaaeoaagreat", sum := "db496a45e3cb01d510b69a3ac9bc59925756f91d1187f08ba64819e025875628", func := "spyglass/spylaw2.ReplanFollows", spec := "replanFollows", inPlace := ["math/bits.Add64"], unfollowed := true, recurses := true, named := ["math/bits.divideError", "math/bits.overflowError"], apart := false, narrowed := true }
def ReplanFollowsUptoSaid : Prop := replanFollowsUptoRow.holds Tryz.pinned (OpenSpec.upto replanFollowsSpec)

/-- 'spylaw2.WhyAll', WHERE WHAT IT READS IS OF BULK AT MOST 1048576: true; the input reads as it did. -/
def whyAllUptoRow : OpenClaim := { program := "ytdcbapdakaaeoaagreat", sum := "db496a45e3cb01d510b69a3ac9bc59925756f91d1187f08ba64819e025875628", func := "spyglass/spylaw2.WhyAll", spec := "whyAll", inPlace := ["math/bits.Add64"], unfollowed := true, recurses := true, named := ["math/bits.divideError", "math/bits.overflowError"], apart := false, narrowed := true }
def WhyAllUptoSaid : Prop := whyAllUptoRow.holds Tryz.pinned (OpenSpec.upto whyAllSpec)

/-- 'spylaw2.WhyHolds', WHERE WHAT IT READS IS OF BULK AT MOST 1048576: true; the input reads as it did. -/
def whyHoldsUptoRow : OpenClaim := { program := "ytdcbapdakaaeoaagreat", sum := "db496a45e3cb01d510b69a3ac9bc59925756f91d1187f08ba64819e025875628", func := "spyglass/spylaw2.WhyHolds", spec := "whyHolds", inPlace := ["math/bits.Add64"], unfollowed := true, recurses := true, named := ["math/bits.divideError", "math/bits.overflowError"], apart := false, narrowed := true }
def WhyHoldsUptoSaid : Prop := whyHoldsUptoRow.holds Tryz.pinned (OpenSpec.upto whyHoldsSpec)

end Rows
end Go.Proofs.YtdcbapdakaaeoaaGreat
