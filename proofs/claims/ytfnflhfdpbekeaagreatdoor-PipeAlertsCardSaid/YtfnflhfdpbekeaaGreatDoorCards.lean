/-
  DERIVED. GIVEN WITH THE SEED: THE CARDS: each row of YtfnflhfdpbekeaaGreatDoorRows.lean that lists a variable, with what it lists TIED to the program's text (the seventh form; the later family's looks); each row that meets fmt, with fmt's text TOLD by the authors' own Lean function (tested against real Go, not proved from fmt's source: count such statements apart). THE CARD IS WHAT COUNTS. Prove the row's statement (the work); the ties are given (YtfnflhfdpbekeaaGreatDoorTie.lean); close each card by the builder's one call (the guide's Derived/Test/ToyasCard.lean, 'card_holds'). Laid BY PROGRAM, IN A SANDBOX (cutbox-door.mjs). By AI agents, Wed Nov 11 2026. No macro, syntax, notation, axiom, sorry.
-/
import Derived.Test.YtfnflhfdpbekeaaGreatDoorRows
import GoSem.ClaimSeven
namespace Go.Proofs.YtfnflhfdpbekeaaGreatDoor
namespace Rows

/-- THE TIED CARD OF 'spylaw2.PipeAlerts'. -/
def pipeAlertsCard : Claim7 := { stood := { row := pipeAlertsRow, standIns := [], harness := (true, "3d1a23e64cdca71fade801c567dd57b7f9192e17bbe9224fea634f8ae83a06c1"), looks := true }, kinds := [], alts := [], laidByText := true, laidKinds := [.data, .data, .data, .data, .sentinel, .sentinel, .listed, .data, .pinned], laidTests := true, laidLooks := .later }
def PipeAlertsCardSaid : Prop := Claim7.holds Tryz.pinned (.plain (OpenSpec.ofChange pipeAlertsSpec)) pipeAlertsCard

/-- THE SECOND FORM's CARD OF 'spylaw2.PipeAlerts'. -/
def pipeAlertsUptoCard : Claim7 := { stood := { row := pipeAlertsUptoRow, standIns := [], harness := (true, "3d1a23e64cdca71fade801c567dd57b7f9192e17bbe9224fea634f8ae83a06c1"), looks := true }, kinds := [], alts := [], laidByText := true, laidKinds := [.data, .data, .data, .data, .sentinel, .sentinel, .listed, .data, .pinned], laidTests := true, laidLooks := .later }
def PipeAlertsUptoCardSaid : Prop := Claim7.holds Tryz.pinned (.plain (OpenSpec.upto pipeAlertsSpec)) pipeAlertsUptoCard
end Rows
end Go.Proofs.YtfnflhfdpbekeaaGreatDoor
