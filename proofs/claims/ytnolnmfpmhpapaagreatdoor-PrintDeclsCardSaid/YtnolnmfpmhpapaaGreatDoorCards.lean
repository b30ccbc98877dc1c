/-
  DERIVED. GIVEN WITH THE SEED: THE CARDS: each row of YtnolnmfpmhpapaaGreatDoorRows.lean that lists a variable, with what it lists TIED to the program's text (the seventh form; the later family's looks); each row that meets fmt, with fmt's text TOLD by the authors' own Lean function (tested against real Go, not proved from fmt's source: count such statements apart). THE CARD IS WHAT COUNTS. Prove the row's statement (the work); the ties are given (YtnolnmfpmhpapaaGreatDoorTie.lean); close each card by the builder's one call (the guide's Derived/Test/ToyasCard.lean, 'card_holds'). Laid BY PROGRAM, IN A SANDBOX (cutbox-door.mjs). By AI agents, Wed Nov 11 2026. No macro, syntax, notation, axiom, sorry.
-/
import Derived.Test.YtnolnmfpmhpapaaGreatDoorRows
import GoSem.ClaimSeven
namespace Go.Proofs.YtnolnmfpmhpapaaGreatDoor
namespace Rows

/-- THE TIED CARD OF 'trusslaw14.ModeBack'. -/
def modeBackCard : Claim7 := { stood := { row := modeBackRow, standIns := [], harness := (true, "185b26e6cca830f7bbfbd4b1d180571776208de5d4ca169efa254b78591b6679"), looks := true }, kinds := [], alts := [], laidByText := true, laidKinds := [.data, .data, .data], laidTests := true, laidLooks := .later }
def ModeBackCardSaid : Prop := Claim7.holds Tryz.pinned (.plain (OpenSpec.ofChange modeBackSpec)) modeBackCard

/-- THE TIED CARD OF 'trusslaw14.ModeItems'. -/
def modeItemsCard : Claim7 := { stood := { row := modeItemsRow, standIns := [], harness := (true, "185b26e6cca830f7bbfbd4b1d180571776208de5d4ca169efa254b78591b6679"), looks := true }, kinds := [], alts := [], laidByText := true, laidKinds := [.data, .data, .data], laidTests := true, laidLooks := .later }
def ModeItemsCardSaid : Prop := Claim7.holds Tryz.pinned (.plain (OpenSpec.ofChange modeItemsSpec)) modeItemsCard

/-- THE TIED CARD OF 'trusslaw07.PrintTerms'. -/
def printTermsCard : Claim7 := { stood := { row := printTermsRow, standIns := [], harness := (true, "185b26e6cca830f7bbfbd4b1d180571776208de5d4ca169efa254b78591b6679"), looks := true }, kinds := [], alts := [], laidByText := true, laidKinds := [.data, .data, .data], laidTests := true, laidLooks := .later }
def PrintTermsCardSaid : Prop := Claim7.holds Tryz.pinned (.plain (OpenSpec.ofChange printTermsSpec)) printTermsCard

/-- THE TIED CARD OF 'trusslaw07.PrintFree'. -/
def printFreeCard : Claim7 := { stood := { row := printFreeRow, standIns := [], harness := (true, "185b26e6cca830f7bbfbd4b1d180571776208de5d4ca169efa254b78591b6679"), looks := true }, kinds := [], alts := [], laidByText := true, laidKinds := [.data, .data, .data], laidTests := true, laidLooks := .later }
def PrintFreeCardSaid : Prop := Claim7.holds Tryz.pinned (.plain (OpenSpec.ofChange printFreeSpec)) printFreeCard

/-- THE TIED CARD OF 'trusslaw07.PrintOnce'. -/
def printOnceCard : Claim7 := { stood := { row := printOnceRow, standIns := [], harness := (true, "185b26e6cca830f7bbfbd4b1d180571776208de5d4ca169efa254b78591b6679"), looks := true }, kinds := [], alts := [], laidByText := true, laidKinds := [.data, .data, .data], laidTests := true, laidLooks := .later }
def PrintOnceCardSaid : Prop := Claim7.holds Tryz.pinned (.plain (OpenSpec.ofChange printOnceSpec)) printOnceCard

/-- THE TIED CARD OF 'trusslaw07.PrintDecls'. -/
def printDeclsCard : Claim7 := { stood := { row := printDeclsRow, standIns := [], harness := (true, "185b26e6cca830f7bbfbd4b1d180571776208de5d4ca169efa254b78591b6679"), looks := true }, kinds := [], alts := [], laidByText := true, laidKinds := [.data, .data, .data], laidTests := true, laidLooks := .later }
def PrintDeclsCardSaid : Prop := Claim7.holds Tryz.pinned (.plain (OpenSpec.ofChange printDeclsSpec)) printDeclsCard

/-- THE TIED CARD OF 'trusslaw07.PrintContexts'. -/
def printContextsCard : Claim7 := { stood := { row := printContextsRow, standIns := [], harness := (true, "185b26e6cca830f7bbfbd4b1d180571776208de5d4ca169efa254b78591b6679"), looks := true }, kinds := [], alts := [], laidByText := true, laidKinds := [.data, .data, .data], laidTests := true, laidLooks := .later }
def PrintContextsCardSaid : Prop := Claim7.holds Tryz.pinned (.plain (OpenSpec.ofChange printContextsSpec)) printContextsCard

/-- THE SECOND FORM's CARD OF 'trusslaw14.ModeBack'. -/
def modeBackUptoCard : Claim7 := { stood := { row := modeBackUptoRow, standIns := [], harness := (true, "185b26e6cca830f7bbfbd4b1d180571776208de5d4ca169efa254b78591b6679"), looks := true }, kinds := [], alts := [], laidByText := true, laidKinds := [.data, .data, .data], laidTests := true, laidLooks := .later }
def ModeBackUptoCardSaid : Prop := Claim7.holds Tryz.pinned (.plain (OpenSpec.upto modeBackSpec)) modeBackUptoCard

/-- THE SECOND FORM's CARD OF 'trusslaw14.ModeItems'. -/
def modeItemsUptoCard : Claim7 := { stood := { row := modeItemsUptoRow, standIns := [], harness := (true, "185b26e6cca830f7bbfbd4b1d180571776208de5d4ca169efa254b78591b6679"), looks := true }, kinds := [], alts := [], laidByText := true, laidKinds := [.data, .data, .data], laidTests := true, laidLooks := .later }
def ModeItemsUptoCardSaid : Prop := Claim7.holds Tryz.pinned (.plain (OpenSpec.upto modeItemsSpec)) modeItemsUptoCard

/-- THE SECOND FORM's CARD OF 'trusslaw07.PrintTerms'. -/
def printTermsUptoCard : Claim7 := { stood := { row := printTermsUptoRow, standIns := [], harness := (true, "185b26e6cca830f7bbfbd4b1d180571776208de5d4ca169efa254b78591b6679"), looks := true }, kinds := [], alts := [], laidByText := true, laidKinds := [.data, .data, .data], laidTests := true, laidLooks := .later }
def PrintTermsUptoCardSaid : Prop := Claim7.holds Tryz.pinned (.plain (OpenSpec.upto printTermsSpec)) printTermsUptoCard

/-- THE SECOND FORM's CARD OF 'trusslaw07.PrintFree'. -/
def printFreeUptoCard : Claim7 := { stood := { row := printFreeUptoRow, standIns := [], harness := (true, "185b26e6cca830f7bbfbd4b1d180571776208de5d4ca169efa254b78591b6679"), looks := true }, kinds := [], alts := [], laidByText := true, laidKinds := [.data, .data, .data], laidTests := true, laidLooks := .later }
def PrintFreeUptoCardSaid : Prop := Claim7.holds Tryz.pinned (.plain (OpenSpec.upto printFreeSpec)) printFreeUptoCard

/-- THE SECOND FORM's CARD OF 'trusslaw07.PrintOnce'. -/
def printOnceUptoCard : Claim7 := { stood := { row := printOnceUptoRow, standIns := [], harness := (true, "185b26e6cca830f7bbfbd4b1d180571776208de5d4ca169efa254b78591b6679"), looks := true }, kinds := [], alts := [], laidByText := true, laidKinds := [.data, .data, .data], laidTests := true, laidLooks := .later }
def PrintOnceUptoCardSaid : Prop := Claim7.holds Tryz.pinned (.plain (OpenSpec.upto printOnceSpec)) printOnceUptoCard

/-- THE SECOND FORM's CARD OF 'trusslaw07.PrintDecls'. -/
def printDeclsUptoCard : Claim7 := { stood := { row := printDeclsUptoRow, standIns := [], harness := (true, "185b26e6cca830f7bbfbd4b1d180571776208de5d4ca169efa254b78591b6679"), looks := true }, kinds := [], alts := [], laidByText := true, laidKinds := [.data, .data, .data], laidTests := true, laidLooks := .later }
def PrintDeclsUptoCardSaid : Prop := Claim7.holds Tryz.pinned (.plain (OpenSpec.upto printDeclsSpec)) printDeclsUptoCard

/-- THE SECOND FORM's CARD OF 'trusslaw07.PrintContexts'. -/
def printContextsUptoCard : Claim7 := { stood := { row := printContextsUptoRow, standIns := [], harness := (true, "185b26e6cca830f7bbfbd4b1d180571776208de5d4ca169efa254b78591b6679"), looks := true }, kinds := [], alts := [], laidByText := true, laidKinds := [.data, .data, .data], laidTests := true, laidLooks := .later }
def PrintContextsUptoCardSaid : Prop := Claim7.holds Tryz.pinned (.plain (OpenSpec.upto printContextsSpec)) printContextsUptoCard
end Rows
end Go.Proofs.YtnolnmfpmhpapaaGreatDoor
