/-
  DERIVED. GIVEN WITH THE SEED: THE CARDS: each row of YtpibdcjdamibdaaGreatDoorRows.lean that lists a variable, with what it lists TIED to the program's text (the seventh form; the later family's looks); each row that meets fmt, with fmt's text TOLD by the authors' own Lean function (tested against real Go, not proved from fmt's source: count such statements apart). THE CARD IS WHAT COUNTS. Prove the row's statement (the work); the ties are given (YtpibdcjdamibdaaGreatDoorTie.lean); close each card by the builder's one call (the guide's Derived/Test/ToyasCard.lean, 'card_holds'). Laid BY PROGRAM, IN A SANDBOX (cutbox-door.mjs). By AI agents, Wed Nov 11 2026. No macro, syntax, notation, axiom, sorry.
-/
import Derived.Test.YtpibdcjdamibdaaGreatDoorRows
import GoSem.ClaimSeven
namespace Go.Proofs.YtpibdcjdamibdaaGreatDoor
namespace Rows

/-- THE TIED CARD OF 'trusslaw07.PrintFree'. -/
def printFreeCard : Claim7 := { stood := { row := printFreeRow, standIns := [], harness := (true, "2ec2fbd42a1da2db79c369b39067d0c462011c384d735f7402b3eb777f9cd143"), looks := false }, kinds := [], alts := [], laidByText := true, laidKinds := [.data, .data, .data], laidTests := true, laidLooks := .later }
def PrintFreeCardSaid : Prop := Claim7.holds Tryz.pinned (.plain (OpenSpec.ofChange printFreeSpec)) printFreeCard

/-- THE TIED CARD OF 'trusslaw07.PrintOnce'. -/
def printOnceCard : Claim7 := { stood := { row := printOnceRow, standIns := [], harness := (true, "2ec2fbd42a1da2db79c369b39067d0c462011c384d735f7402b3eb777f9cd143"), looks := false }, kinds := [], alts := [], laidByText := true, laidKinds := [.data, .data, .data], laidTests := true, laidLooks := .later }
def PrintOnceCardSaid : Prop := Claim7.holds Tryz.pinned (.plain (OpenSpec.ofChange printOnceSpec)) printOnceCard

/-- THE TIED CARD OF 'trusslaw07.PrintContexts'. -/
def printContextsCard : Claim7 := { stood := { row := printContextsRow, standIns := [], harness := (true, "2ec2fbd42a1da2db79c369b39067d0c462011c384d735f7402b3eb777f9cd143"), looks := false }, kinds := [], alts := [], laidByText := true, laidKinds := [.data, .data, .data], laidTests := true, laidLooks := .later }
def PrintContextsCardSaid : Prop := Claim7.holds Tryz.pinned (.plain (OpenSpec.ofChange printContextsSpec)) printContextsCard

/-- THE SECOND FORM's CARD OF 'trusslaw07.PrintFree'. -/
def printFreeUptoCard : Claim7 := { stood := { row := printFreeUptoRow, standIns := [], harness := (true, "2ec2fbd42a1da2db79c369b39067d0c462011c384d735f7402b3eb777f9cd143"), looks := false }, kinds := [], alts := [], laidByText := true, laidKinds := [.data, .data, .data], laidTests := true, laidLooks := .later }
def PrintFreeUptoCardSaid : Prop := Claim7.holds Tryz.pinned (.plain (OpenSpec.upto printFreeSpec)) printFreeUptoCard

/-- THE SECOND FORM's CARD OF 'trusslaw07.PrintOnce'. -/
def printOnceUptoCard : Claim7 := { stood := { row := printOnceUptoRow, standIns := [], harness := (true, "2ec2fbd42a1da2db79c369b39067d0c462011c384d735f7402b3eb777f9cd143"), looks := false }, kinds := [], alts := [], laidByText := true, laidKinds := [.data, .data, .data], laidTests := true, laidLooks := .later }
def PrintOnceUptoCardSaid : Prop := Claim7.holds Tryz.pinned (.plain (OpenSpec.upto printOnceSpec)) printOnceUptoCard

/-- THE SECOND FORM's CARD OF 'trusslaw07.PrintContexts'. -/
def printContextsUptoCard : Claim7 := { stood := { row := printContextsUptoRow, standIns := [], harness := (true, "2ec2fbd42a1da2db79c369b39067d0c462011c384d735f7402b3eb777f9cd143"), looks := false }, kinds := [], alts := [], laidByText := true, laidKinds := [.data, .data, .data], laidTests := true, laidLooks := .later }
def PrintContextsUptoCardSaid : Prop := Claim7.holds Tryz.pinned (.plain (OpenSpec.upto printContextsSpec)) printContextsUptoCard
end Rows
end Go.Proofs.YtpibdcjdamibdaaGreatDoor
