/-
  DERIVED. GIVEN WITH THE SEED: THE CARDS: each row of YtgmdmfbdolbpnaaDoorRows.lean that lists a variable, with what it lists TIED to the program's text (the seventh form; the later family's looks); each row that meets fmt, with fmt's text TOLD by the authors' own Lean function (tested against real Go, not proved from fmt's source: count such statements apart). THE CARD IS WHAT COUNTS. Prove the row's statement (the work); the ties are given (YtgmdmfbdolbpnaaDoorTie.lean); close each card by the builder's one call (the guide's Derived/Test/ToyasCard.lean, 'card_holds'). Laid BY PROGRAM, IN A SANDBOX (cutbox-door.mjs). By AI agents, Wed Nov 11 2026. No macro, syntax, notation, axiom, sorry.
-/
import Derived.Test.YtgmdmfbdolbpnaaDoorRows
import GoSem.ClaimSeven
namespace Go.Proofs.YtgmdmfbdolbpnaaDoor
namespace Rows

/-- THE TIED CARD OF 'spylaw2.PropTexts'. -/
def propTextsCard : Claim7 := { stood := { row := propTextsRow, standIns := [], harness := (true, "1f4976dd34890e464eee546b59c7acf7aa9596af608876ab3cc31949a1708082"), looks := true }, kinds := [], alts := [], laidByText := true, laidKinds := [.data, .data, .data], laidTests := true, laidLooks := .later }
def PropTextsCardSaid : Prop := Claim7.holds Tryd.pinned (.plain (OpenSpec.ofChange propTextsSpec)) propTextsCard

/-- THE TIED CARD OF 'spylaw2.PropWords'. -/
def propWordsCard : Claim7 := { stood := { row := propWordsRow, standIns := [], harness := (true, "1f4976dd34890e464eee546b59c7acf7aa9596af608876ab3cc31949a1708082"), looks := true }, kinds := [], alts := [], laidByText := true, laidKinds := [.data, .data, .data, .data, .pinned], laidTests := true, laidLooks := .later }
def PropWordsCardSaid : Prop := Claim7.holds Tryd.pinned (.plain (OpenSpec.ofChange propWordsSpec)) propWordsCard

/-- THE TIED CARD OF 'spylaw2.PropReads'. -/
def propReadsCard : Claim7 := { stood := { row := propReadsRow, standIns := [], harness := (true, "1f4976dd34890e464eee546b59c7acf7aa9596af608876ab3cc31949a1708082"), looks := true }, kinds := [], alts := [], laidByText := true, laidKinds := [.data, .data, .data, .data, .pinned], laidTests := true, laidLooks := .later }
def PropReadsCardSaid : Prop := Claim7.holds Tryd.pinned (.plain (OpenSpec.ofChange propReadsSpec)) propReadsCard

/-- THE SECOND FORM's CARD OF 'spylaw2.PropTexts'. -/
def propTextsUptoCard : Claim7 := { stood := { row := propTextsUptoRow, standIns := [], harness := (true, "1f4976dd34890e464eee546b59c7acf7aa9596af608876ab3cc31949a1708082"), looks := true }, kinds := [], alts := [], laidByText := true, laidKinds := [.data, .data, .data], laidTests := true, laidLooks := .later }
def PropTextsUptoCardSaid : Prop := Claim7.holds Tryd.pinned (.plain (OpenSpec.upto propTextsSpec)) propTextsUptoCard

/-- THE SECOND FORM's CARD OF 'spylaw2.PropWords'. -/
def propWordsUptoCard : Claim7 := { stood := { row := propWordsUptoRow, standIns := [], harness := (true, "1f4976dd34890e464eee546b59c7acf7aa9596af608876ab3cc31949a1708082"), looks := true }, kinds := [], alts := [], laidByText := true, laidKinds := [.data, .data, .data, .data, .pinned], laidTests := true, laidLooks := .later }
def PropWordsUptoCardSaid : Prop := Claim7.holds Tryd.pinned (.plain (OpenSpec.upto propWordsSpec)) propWordsUptoCard

/-- THE SECOND FORM's CARD OF 'spylaw2.PropReads'. -/
def propReadsUptoCard : Claim7 := { stood := { row := propReadsUptoRow, standIns := [], harness := (true, "1f4976dd34890e464eee546b59c7acf7aa9596af608876ab3cc31949a1708082"), looks := true }, kinds := [], alts := [], laidByText := true, laidKinds := [.data, .data, .data, .data, .pinned], laidTests := true, laidLooks := .later }
def PropReadsUptoCardSaid : Prop := Claim7.holds Tryd.pinned (.plain (OpenSpec.upto propReadsSpec)) propReadsUptoCard
end Rows
end Go.Proofs.YtgmdmfbdolbpnaaDoor
