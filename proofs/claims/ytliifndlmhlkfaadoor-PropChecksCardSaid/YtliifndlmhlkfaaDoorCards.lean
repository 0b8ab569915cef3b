/-
  DERIVED. GIVEN WITH THE SEED: THE CARDS: each row of YtliifndlmhlkfaaDoorRows.lean that lists a variable, with what it lists TIED to the program's text (the seventh form; the later family's looks); each row that meets fmt, with fmt's text TOLD by the authors' own Lean function (tested against real Go, not proved from fmt's source: count such statements apart). THE CARD IS WHAT COUNTS. Prove the row's statement (the work); the ties are given (YtliifndlmhlkfaaDoorTie.lean); close each card by the builder's one call (the guide's Derived/Test/ToyasCard.lean, 'card_holds'). Laid BY PROGRAM, IN A SANDBOX (cutbox-door.mjs). By AI agents, Wed Nov 11 2026. No macro, syntax, notation, axiom, sorry.
-/
import Derived.Test.YtliifndlmhlkfaaDoorRows
import GoSem.ClaimSeven
namespace Go.Proofs.YtliifndlmhlkfaaDoor
namespace Rows

/-- THE TIED CARD OF 'spylaw2.PropChecks'. -/
def propChecksCard : Claim7 := { stood := { row := propChecksRow, standIns := [], harness := (true, "02b2b56a2ef7bd2144e6436baebb858ac6f1e11bb80fcf49de5b2cb0af821da1"), looks := false }, kinds := [], alts := [], laidByText := true, laidKinds := [.data, .data, .data], laidTests := true, laidLooks := .later }
def PropChecksCardSaid : Prop := Claim7.holds Tryd.pinned (.plain (OpenSpec.ofChange propChecksSpec)) propChecksCard

/-- THE TIED CARD OF 'spylaw2.PropNights'. -/
def propNightsCard : Claim7 := { stood := { row := propNightsRow, standIns := [], harness := (true, "02b2b56a2ef7bd2144e6436baebb858ac6f1e11bb80fcf49de5b2cb0af821da1"), looks := false }, kinds := [], alts := [], laidByText := true, laidKinds := [.data, .data, .data], laidTests := true, laidLooks := .later }
def PropNightsCardSaid : Prop := Claim7.holds Tryd.pinned (.plain (OpenSpec.ofChange propNightsSpec)) propNightsCard

/-- THE SECOND FORM's CARD OF 'spylaw2.PropChecks'. -/
def propChecksUptoCard : Claim7 := { stood := { row := propChecksUptoRow, standIns := [], harness := (true, "02b2b56a2ef7bd2144e6436baebb858ac6f1e11bb80fcf49de5b2cb0af821da1"), looks := false }, kinds := [], alts := [], laidByText := true, laidKinds := [.data, .data, .data], laidTests := true, laidLooks := .later }
def PropChecksUptoCardSaid : Prop := Claim7.holds Tryd.pinned (.plain (OpenSpec.upto propChecksSpec)) propChecksUptoCard

/-- THE SECOND FORM's CARD OF 'spylaw2.PropNights'. -/
def propNightsUptoCard : Claim7 := { stood := { row := propNightsUptoRow, standIns := [], harness := (true, "02b2b56a2ef7bd2144e6436baebb858ac6f1e11bb80fcf49de5b2cb0af821da1"), looks := false }, kinds := [], alts := [], laidByText := true, laidKinds := [.data, .data, .data], laidTests := true, laidLooks := .later }
def PropNightsUptoCardSaid : Prop := Claim7.holds Tryd.pinned (.plain (OpenSpec.upto propNightsSpec)) propNightsUptoCard
end Rows
end Go.Proofs.YtliifndlmhlkfaaDoor
