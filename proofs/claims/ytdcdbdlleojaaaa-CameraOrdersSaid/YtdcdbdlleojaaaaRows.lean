/-
  No cell of these rows narrows 'for every input' (looked for: loops, veiled, ifaces, maps, wideKeys, modest, calm, conditions, laid).
  DERIVED. THE GIVEN ROWS OF THIS SEAT. 12 by the template 'for every input the law returns true; each argument reads behind the call as it read before'; 0 by the template 'total and deterministic' (their statements: YtdcdbdlleojaaaaTotals.lean).
  GIVEN WITH THE SEED: the statements are not yours to turn. If you find one false, say at which input.
  Laid BY PROGRAM, IN A SANDBOX (cutbox-rows.mjs): the forced cells as the released guide's own fill.sh prints them over the translation 2f0b8107f4fc76d7… (all of the seat's roots in one cut). By AI agents, Wed Nov 11 2026. No macro, syntax, notation, axiom, sorry.
-/
import Derived.Test.YtdcdbdlleojaaaaChecked
import GoSem.Claim
import GoSem.ClaimJoined
import GoSem.ClaimMapViews
import Derived.JoinedTies
import Derived.KernelRfl
namespace Go.Proofs.Ytdcdbdlleojaaaa
/- THE CELL 'sum', in the pinned program and in every row, IS THE sha256 OF THE DUMP (.gsa) THAT YtdcdbdlleojaaaaProg.lean LOADS. Nothing in Lean hashes anything: it is a label: what it is worth is what the hold of that sum in a sandbox is worth. -/
noncomputable def Try.pinned : Pinned := { name := "ytdcdbdlleojaaaa", sum := "2f0b8107f4fc76d7f27c84cde89a52dd7eb63fd78f39217707f513ae182ad26f", checked := Try.checked }
namespace Rows
def none {H : Type} : Left H := { results := [], args := [] }

/-- 'spylaw2.WhyCounts': WHATEVER THE INPUT: true; the input reads as it did. -/
def whyCountsSpec : ChangeSpec := { name := "whyCounts", fn := fun _ => fun
  | [d] => { results := [.lit (.bool true)], args := [d] }
  | _ => none }
def whyCountsRow : OpenClaim := { program := "ytdcdbdlleojaaaa", sum := "2f0b8107f4fc76d7f27c84cde89a52dd7eb63fd78f39217707f513ae182ad26f", func := "spyglass/spylaw2.WhyCounts", spec := "whyCounts", apart := false }
def WhyCountsSaid : Prop := whyCountsRow.holds Try.pinned (OpenSpec.ofChange whyCountsSpec)

/-- ITS FALSE NEIGHBOUR: 'it returns false'. Refute it at one input. -/
def whyCountsWrong : ChangeSpec := { name := "whyCounts", fn := fun _ => fun
  | [d] => { results := [.lit (.bool false)], args := [d] }
  | _ => none }
def WhyCountsWrongFalsely : Prop := whyCountsRow.holds Try.pinned (OpenSpec.ofChange whyCountsWrong)

/-- 'spylaw2.ReplanKept': WHATEVER THE INPUT: true; the input reads as it did. -/
def replanKeptSpec : ChangeSpec := { name := "replanKept", fn := fun _ => fun
  | [d1, d2] => { results := [.lit (.bool true)], args := [d1, d2] }
  | _ => none }
def replanKeptRow : OpenClaim := { program := "ytdcdbdlleojaaaa", sum := "2f0b8107f4fc76d7f27c84cde89a52dd7eb63fd78f39217707f513ae182ad26f", func := "spyglass/spylaw2.ReplanKept", spec := "replanKept", apart := false }
def ReplanKeptSaid : Prop := replanKeptRow.holds Try.pinned (OpenSpec.ofChange replanKeptSpec)

/-- ITS FALSE NEIGHBOUR: 'it returns false'. Refute it at one input. -/
def replanKeptWrong : ChangeSpec := { name := "replanKept", fn := fun _ => fun
  | [d1, d2] => { results := [.lit (.bool false)], args := [d1, d2] }
  | _ => none }
def ReplanKeptWrongFalsely : Prop := replanKeptRow.holds Try.pinned (OpenSpec.ofChange replanKeptWrong)

/-- 'spylaw2.BusBodies': WHATEVER THE INPUT: true; the input reads as it did. -/
def busBodiesSpec : ChangeSpec := { name := "busBodies", fn := fun _ => fun
  | [d1, d2] => { results := [.lit (.bool true)], args := [d1, d2] }
  | _ => none }
def busBodiesRow : OpenClaim := { program := "ytdcdbdlleojaaaa", sum := "2f0b8107f4fc76d7f27c84cde89a52dd7eb63fd78f39217707f513ae182ad26f", func := "spyglass/spylaw2.BusBodies", spec := "busBodies", apart := false }
def BusBodiesSaid : Prop := busBodiesRow.holds Try.pinned (OpenSpec.ofChange busBodiesSpec)

/-- ITS FALSE NEIGHBOUR: 'it returns false'. Refute it at one input. -/
def busBodiesWrong : ChangeSpec := { name := "busBodies", fn := fun _ => fun
  | [d1, d2] => { results := [.lit (.bool false)], args := [d1, d2] }
  | _ => none }
def BusBodiesWrongFalsely : Prop := busBodiesRow.holds Try.pinned (OpenSpec.ofChange busBodiesWrong)

/-- 'spylaw2.GuideLoops': WHATEVER THE INPUT: true; the input reads as it did. -/
def guideLoopsSpec : ChangeSpec := { name := "guideLoops", fn := fun _ => fun
  | [d1, d2, d3, d4] => { results := [.lit (.bool true)], args := [d1, d2, d3, d4] }
  | _ => none }
def guideLoopsRow : OpenClaim := { program := "ytdcdbdlleojaaaa", sum := "2f0b8107f4fc76d7f27c84cde89a52dd7eb63fd78f39217707f513ae182ad26f", func := "spyglass/spylaw2.GuideLoops", spec := "guideLoops", unfollowed := true, recurses := true, apart := false }
def GuideLoopsSaid : Prop := guideLoopsRow.holds Try.pinned (OpenSpec.ofChange guideLoopsSpec)

/-- ITS FALSE NEIGHBOUR: 'it returns false'. Refute it at one input. -/
def guideLoopsWrong : ChangeSpec := { name := "guideLoops", fn := fun _ => fun
  | [d1, d2, d3, d4] => { results := [.lit (.bool false)], args := [d1, d2, d3, d4] }
  | _ => none }
def GuideLoopsWrongFalsely : Prop := guideLoopsRow.holds Try.pinned (OpenSpec.ofChange guideLoopsWrong)

/-- 'spylaw2.SlewFastest': WHATEVER THE INPUT: true; the input reads as it did. -/
def slewFastestSpec : ChangeSpec := { name := "slewFastest", fn := fun _ => fun
  | [d1, d2] => { results := [.lit (.bool true)], args := [d1, d2] }
  | _ => none }
def slewFastestRow : OpenClaim := { program := "ytdcdbdlleojaaaa", sum := "2f0b8107f4fc76d7f27c84cde89a52dd7eb63fd78f39217707f513ae182ad26f", func := "spyglass/spylaw2.SlewFastest", spec := "slewFastest", apart := false }
def SlewFastestSaid : Prop := slewFastestRow.holds Try.pinned (OpenSpec.ofChange slewFastestSpec)

/-- ITS FALSE NEIGHBOUR: 'it returns false'. Refute it at one input. -/
def slewFastestWrong : ChangeSpec := { name := "slewFastest", fn := fun _ => fun
  | [d1, d2] => { results := [.lit (.bool false)], args := [d1, d2] }
  | _ => none }
def SlewFastestWrongFalsely : Prop := slewFastestRow.holds Try.pinned (OpenSpec.ofChange slewFastestWrong)

/-- 'spylaw2.SlewSteps': WHATEVER THE INPUT: true; the input reads as it did. -/
def slewStepsSpec : ChangeSpec := { name := "slewSteps", fn := fun _ => fun
  | [d1, d2, d3] => { results := [.lit (.bool true)], args := [d1, d2, d3] }
  | _ => none }
def slewStepsRow : OpenClaim := { program := "ytdcdbdlleojaaaa", sum := "2f0b8107f4fc76d7f27c84cde89a52dd7eb63fd78f39217707f513ae182ad26f", func := "spyglass/spylaw2.SlewSteps", spec := "slewSteps", apart := false }
def SlewStepsSaid : Prop := slewStepsRow.holds Try.pinned (OpenSpec.ofChange slewStepsSpec)

/-- ITS FALSE NEIGHBOUR: 'it returns false'. Refute it at one input. -/
def slewStepsWrong : ChangeSpec := { name := "slewSteps", fn := fun _ => fun
  | [d1, d2, d3] => { results := [.lit (.bool false)], args := [d1, d2, d3] }
  | _ => none }
def SlewStepsWrongFalsely : Prop := slewStepsRow.holds Try.pinned (OpenSpec.ofChange slewStepsWrong)

/-- 'spylaw2.GuideSearches': WHATEVER THE INPUT: true; the input reads as it did. -/
def guideSearchesSpec : ChangeSpec := { name := "guideSearches", fn := fun _ => fun
  | [d] => { results := [.lit (.bool true)], args := [d] }
  | _ => none }
def guideSearchesRow : OpenClaim := { program := "ytdcdbdlleojaaaa", sum := "2f0b8107f4fc76d7f27c84cde89a52dd7eb63fd78f39217707f513ae182ad26f", func := "spyglass/spylaw2.GuideSearches", spec := "guideSearches", apart := false }
def GuideSearchesSaid : Prop := guideSearchesRow.holds Try.pinned (OpenSpec.ofChange guideSearchesSpec)

/-- ITS FALSE NEIGHBOUR: 'it returns false'. Refute it at one input. -/
def guideSearchesWrong : ChangeSpec := { name := "guideSearches", fn := fun _ => fun
  | [d] => { results := [.lit (.bool false)], args := [d] }
  | _ => none }
def GuideSearchesWrongFalsely : Prop := guideSearchesRow.holds Try.pinned (OpenSpec.ofChange guideSearchesWrong)

/-- 'spylaw2.BusNoises': WHATEVER THE INPUT: true; the input reads as it did. -/
def busNoisesSpec : ChangeSpec := { name := "busNoises", fn := fun _ => fun
  | [d1, d2] => { results := [.lit (.bool true)], args := [d1, d2] }
  | _ => none }
def busNoisesRow : OpenClaim := { program := "ytdcdbdlleojaaaa", sum := "2f0b8107f4fc76d7f27c84cde89a52dd7eb63fd78f39217707f513ae182ad26f", func := "spyglass/spylaw2.BusNoises", spec := "busNoises", apart := false }
def BusNoisesSaid : Prop := busNoisesRow.holds Try.pinned (OpenSpec.ofChange busNoisesSpec)

/-- ITS FALSE NEIGHBOUR: 'it returns false'. Refute it at one input. -/
def busNoisesWrong : ChangeSpec := { name := "busNoises", fn := fun _ => fun
  | [d1, d2] => { results := [.lit (.bool false)], args := [d1, d2] }
  | _ => none }
def BusNoisesWrongFalsely : Prop := busNoisesRow.holds Try.pinned (OpenSpec.ofChange busNoisesWrong)

/-- 'spylaw2.CameraSteps': WHATEVER THE INPUT: true; the input reads as it did. -/
def cameraStepsSpec : ChangeSpec := { name := "cameraSteps", fn := fun _ => fun
  | [d] => { results := [.lit (.bool true)], args := [d] }
  | _ => none }
def cameraStepsRow : OpenClaim := { program := "ytdcdbdlleojaaaa", sum := "2f0b8107f4fc76d7f27c84cde89a52dd7eb63fd78f39217707f513ae182ad26f", func := "spyglass/spylaw2.CameraSteps", spec := "cameraSteps", apart := false }
def CameraStepsSaid : Prop := cameraStepsRow.holds Try.pinned (OpenSpec.ofChange cameraStepsSpec)

/-- ITS FALSE NEIGHBOUR: 'it returns false'. Refute it at one input. -/
def cameraStepsWrong : ChangeSpec := { name := "cameraSteps", fn := fun _ => fun
  | [d] => { results := [.lit (.bool false)], args := [d] }
  | _ => none }
def CameraStepsWrongFalsely : Prop := cameraStepsRow.holds Try.pinned (OpenSpec.ofChange cameraStepsWrong)

/-- 'spylaw2.CameraOrders': WHATEVER THE INPUT: true; the input reads as it did. -/
def cameraOrdersSpec : ChangeSpec := { name := "cameraOrders", fn := fun _ => fun
  | [d1, d2] => { results := [.lit (.bool true)], args := [d1, d2] }
  | _ => none }
def cameraOrdersRow : OpenClaim := { program := "ytdcdbdlleojaaaa", sum := "2f0b8107f4fc76d7f27c84cde89a52dd7eb63fd78f39217707f513ae182ad26f", func := "spyglass/spylaw2.CameraOrders", spec := "cameraOrders", apart := false }
def CameraOrdersSaid : Prop := cameraOrdersRow.holds Try.pinned (OpenSpec.ofChange cameraOrdersSpec)

/-- ITS FALSE NEIGHBOUR: 'it returns false'. Refute it at one input. -/
def cameraOrdersWrong : ChangeSpec := { name := "cameraOrders", fn := fun _ => fun
  | [d1, d2] => { results := [.lit (.bool false)], args := [d1, d2] }
  | _ => none }
def CameraOrdersWrongFalsely : Prop := cameraOrdersRow.holds Try.pinned (OpenSpec.ofChange cameraOrdersWrong)

/-- 'spylaw2.BusParses': WHATEVER THE INPUT: true; the input reads as it did. -/
def busParsesSpec : ChangeSpec := { name := "busParses", fn := fun _ => fun
  | [d] => { results := [.lit (.bool true)], args := [d] }
  | _ => none }
def busParsesRow : OpenClaim := { program := "ytdcdbdlleojaaaa", sum := "2f0b8107f4fc76d7f27c84cde89a52dd7eb63fd78f39217707f513ae182ad26f", func := "spyglass/spylaw2.BusParses", spec := "busParses", apart := false }
def BusParsesSaid : Prop := busParsesRow.holds Try.pinned (OpenSpec.ofChange busParsesSpec)

/-- ITS FALSE NEIGHBOUR: 'it returns false'. Refute it at one input. -/
def busParsesWrong : ChangeSpec := { name := "busParses", fn := fun _ => fun
  | [d] => { results := [.lit (.bool false)], args := [d] }
  | _ => none }
def BusParsesWrongFalsely : Prop := busParsesRow.holds Try.pinned (OpenSpec.ofChange busParsesWrong)

/-- 'spylaw2.GuideMoves': WHATEVER THE INPUT: true; the input reads as it did. -/
def guideMovesSpec : ChangeSpec := { name := "guideMoves", fn := fun _ => fun
  | [d1, d2, d3] => { results := [.lit (.bool true)], args := [d1, d2, d3] }
  | _ => none }
def guideMovesRow : OpenClaim := { program := "ytdcdbdlleojaaaa", sum := "2f0b8107f4fc76d7f27c84cde89a52dd7eb63fd78f39217707f513ae182ad26f", func := "spyglass/spylaw2.GuideMoves", spec := "guideMoves", apart := false }
def GuideMovesSaid : Prop := guideMovesRow.holds Try.pinned (OpenSpec.ofChange guideMovesSpec)

/-- ITS FALSE NEIGHBOUR: 'it returns false'. Refute it at one input. -/
def guideMovesWrong : ChangeSpec := { name := "guideMoves", fn := fun _ => fun
  | [d1, d2, d3] => { results := [.lit (.bool false)], args := [d1, d2, d3] }
  | _ => none }
def GuideMovesWrongFalsely : Prop := guideMovesRow.holds Try.pinned (OpenSpec.ofChange guideMovesWrong)

/- THE SECOND FORM. 'bulk': how many values and letters a reading holds, each counted each time it is reached (what is shared counts as often as it is met; a slice's spare places count too). A statement '..UptoSaid' is the law's where the arguments, and the package variables that the reading takes, are together of bulk at most 1048576: NARROWER than '..Said'. Prove '..Said' where nothing that the law and all that it calls make is longer than what came in: it says more and counts as full. Else prove '..UptoSaid'. A law counts once. -/
mutual
def uptoBulk {H : Type} : DataW H → Nat
  | .lit (.string bytes) => bytes.length + 1
  | .lit _ => 1
  | .nil => 1
  | .ptr d => uptoBulk d + 1
  | .slice elems spare => uptoBulkAll elems + uptoBulkAll spare + 1
  | .agg parts => uptoBulkAll parts + 1
  | .iface _ d => uptoBulk d + 1
  | .map entries => uptoBulkEntries entries + 1
  | .held _ => 1
def uptoBulkAll {H : Type} : List (DataW H) → Nat
  | [] => 0
  | d :: r => uptoBulk d + uptoBulkAll r
def uptoBulkEntries {H : Type} : List (Lit × DataW H) → Nat
  | [] => 0
  | x :: r => uptoBulkEntry x + uptoBulkEntries r
def uptoBulkEntry {H : Type} : Lit × DataW H → Nat
  | (.string bytes, d) => bytes.length + uptoBulk d + 1
  | (_, d) => uptoBulk d + 1
 end
def uptoSmall : (H : Type) → List (DataW H) → Bool := fun _ ds => decide (uptoBulkAll ds ≤ 1048576)
def OpenSpec.upto (s : _root_.Go.ChangeSpec) : _root_.Go.OpenSpec := { _root_.Go.OpenSpec.ofChange s with cond := some uptoSmall }

/-- 'spylaw2.WhyCounts', WHERE WHAT IT READS IS OF BULK AT MOST 1048576: true; the input reads as it did. -/
def whyCountsUptoRow : OpenClaim := { program := "ytdcdbdlleojaaaa", sum := "2f0b8107f4fc76d7f27c84cde89a52dd7eb63fd78f39217707f513ae182ad26f", func := "spyglass/spylaw2.WhyCounts", spec := "whyCounts", apart := false, narrowed := true }
def WhyCountsUptoSaid : Prop := whyCountsUptoRow.holds Try.pinned (OpenSpec.upto whyCountsSpec)

/-- 'spylaw2.ReplanKept', WHERE WHAT IT READS IS OF BULK AT MOST 1048576: true; the input reads as it did. -/
def replanKeptUptoRow : OpenClaim := { program := "ytdcdbdlleojaaaa", sum := "2f0b8107f4fc76d7f27c84cde89a52dd7eb63fd78f39217707f513ae182ad26f", func := "spyglass/spylaw2.ReplanKept", spec := "replanKept", apart := false, narrowed := true }
def ReplanKeptUptoSaid : Prop := replanKeptUptoRow.holds Try.pinned (OpenSpec.upto replanKeptSpec)

/-- 'spylaw2.BusBodies', WHERE WHAT IT READS IS OF BULK AT MOST 1048576: true; the input reads as it did. -/
def busBodiesUptoRow : OpenClaim := { program := "ytdcdbdlleojaaaa", sum := "2f0b8107f4fc76d7f27c84cde89a52dd7eb63fd78f39217707f513ae182ad26f", func := "spyglass/spylaw2.BusBodies", spec := "busBodies", apart := false, narrowed := true }
def BusBodiesUptoSaid : Prop := busBodiesUptoRow.holds Try.pinned (OpenSpec.upto busBodiesSpec)

/-- 'spylaw2.GuideLoops', WHERE WHAT IT READS IS OF BULK AT MOST 1048576: true; the input reads as it did. -/
def guideLoopsUptoRow : OpenClaim := { program := "ytdcdbdlleojaaaa", sum := "2f0b8107f4fc76d7f27c84cde89a52dd7eb63fd78f39217707f513ae182ad26f", func := "spyglass/spylaw2.GuideLoops", spec := "guideLoops", unfollowed := true, recurses := true, apart := false, narrowed := true }
def GuideLoopsUptoSaid : Prop := guideLoopsUptoRow.holds Try.pinned (OpenSpec.upto guideLoopsSpec)

/-- 'spylaw2.SlewFastest', WHERE WHAT IT READS IS OF BULK AT MOST 1048576: true; the input reads as it did. -/
def slewFastestUptoRow : OpenClaim := { program := "ytdcdbdlleojaaaa", sum := "2f0b8107f4fc76d7f27c84cde89a52dd7eb63fd78f39217707f513ae182ad26f", func := "spyglass/spylaw2.SlewFastest", spec := "slewFastest", apart := false, narrowed := true }
def SlewFastestUptoSaid : Prop := slewFastestUptoRow.holds Try.pinned (OpenSpec.upto slewFastestSpec)

/-- 'spylaw2.SlewSteps', WHERE WHAT IT READS IS OF BULK AT MOST 1048576: true; the input reads as it did. -/
def slewStepsUptoRow : OpenClaim := { program := "ytdcdbdlleojaaaa", sum := "2f0b8107f4fc76d7f27c84cde89a52dd7eb63fd78f39217707f513ae182ad26f", func := "spyglass/spylaw2.SlewSteps", spec := "slewSteps", apart := false, narrowed := true }
def SlewStepsUptoSaid : Prop := slewStepsUptoRow.holds Try.pinned (OpenSpec.upto slewStepsSpec)

/-- 'spylaw2.GuideSearches', WHERE WHAT IT READS IS OF BULK AT MOST 1048576: true; the input reads as it did. -/
def guideSearchesUptoRow : OpenClaim := { program := "ytdcdbdlleojaaaa", sum := "2f0b8107f4fc76d7f27c84cde89a52dd7eb63fd78f39217707f513ae182ad26f", func := "spyglass/spylaw2.GuideSearches", spec := "guideSearches", apart := false, narrowed := true }
def GuideSearchesUptoSaid : Prop := guideSearchesUptoRow.holds Try.pinned (OpenSpec.upto guideSearchesSpec)

/-- 'spylaw2.BusNoises', WHERE WHAT IT READS IS OF BULK AT MOST 1048576: true; the input reads as it did. -/
def busNoisesUptoRow : OpenClaim := { program := "ytdcdbdlleojaaaa", sum := "2f0b8107f4fc76d7f27c84cde89a52dd7eb63fd78f39217707f513ae182ad26f", func := "spyglass/spylaw2.BusNoises", spec := "busNoises", apart := false, narrowed := true }
def BusNoisesUptoSaid : Prop := busNoisesUptoRow.holds Try.pinned (OpenSpec.upto busNoisesSpec)

/-- 'spylaw2.CameraSteps', WHERE WHAT IT READS IS OF BULK AT MOST 1048576: true; the input reads as it did. -/
def cameraStepsUptoRow : OpenClaim := { program := "ytdcdbdlleojaaaa", sum := "2f0b8107f4fc76d7f27c84cde89a52dd7eb63fd78f39217707f513ae182ad26f", func := "spyglass/spylaw2.CameraSteps", spec := "cameraSteps", apart := false, narrowed := true }
def CameraStepsUptoSaid : Prop := cameraStepsUptoRow.holds Try.pinned (OpenSpec.upto cameraStepsSpec)

/-- 'spylaw2.CameraOrders', WHERE WHAT IT READS IS OF BULK AT MOST 1048576: true; the input reads as it did. -/
def cameraOrdersUptoRow : OpenClaim := { program := "ytdcdbdlleojaaaa", sum := "2f0b8107f4fc76d7f27c84cde89a52dd7eb63fd78f39217707f513ae182ad26f", func := "spyglass/spylaw2.CameraOrders", spec := "cameraOrders", apart := false, narrowed := true }
def CameraOrdersUptoSaid : Prop := cameraOrdersUptoRow.holds Try.pinned (OpenSpec.upto cameraOrdersSpec)

/-- 'spylaw2.BusParses', WHERE WHAT IT READS IS OF BULK AT MOST 1048576: true; the input reads as it did. -/
def busParsesUptoRow : OpenClaim := { program := "ytdcdbdlleojaaaa", sum := "2f0b8107f4fc76d7f27c84cde89a52dd7eb63fd78f39217707f513ae182ad26f", func := "spyglass/spylaw2.BusParses", spec := "busParses", apart := false, narrowed := true }
def BusParsesUptoSaid : Prop := busParsesUptoRow.holds Try.pinned (OpenSpec.upto busParsesSpec)

/-- 'spylaw2.GuideMoves', WHERE WHAT IT READS IS OF BULK AT MOST 1048576: true; the input reads as it did. -/
def guideMovesUptoRow : OpenClaim := { program := "ytdcdbdlleojaaaa", sum := "2f0b8107f4fc76d7f27c84cde89a52dd7eb63fd78f39217707f513ae182ad26f", func := "spyglass/spylaw2.GuideMoves", spec := "guideMoves", apart := false, narrowed := true }
def GuideMovesUptoSaid : Prop := guideMovesUptoRow.holds Try.pinned (OpenSpec.upto guideMovesSpec)

end Rows
end Go.Proofs.Ytdcdbdlleojaaaa
