/-
  DERIVED. GIVEN WITH THE SEED: THE CARDS: each row of YtogicnodmgdnbaaGreatDoorRows.lean that lists a variable, with what it lists TIED to the program's text (the seventh form; the later family's looks); each row that meets fmt, with fmt's text TOLD by the authors' own Lean function (tested against real Go, not proved from fmt's source: count such statements apart). THE CARD IS WHAT COUNTS. Prove the row's statement (the work); the ties are given (YtogicnodmgdnbaaGreatDoorTie.lean); close each card by the builder's one call (the guide's Derived/Test/ToyasCard.lean, 'card_holds'). Laid BY PROGRAM, IN A SANDBOX (cutbox-door.mjs). By AI agents, Wed Nov 11 2026. No macro, syntax, notation, axiom, sorry.
-/
import Derived.Test.YtogicnodmgdnbaaGreatDoorRows
import GoSem.ClaimSeven
namespace Go.Proofs.YtogicnodmgdnbaaGreatDoor
namespace Rows

/-- THE TIED CARD OF 'trusslaw14.ModeBack'. -/
def modeBackCard : Claim7 := { stood := { row := modeBackRow, standIns := [], harness := (true, "d068fd9bab5788f1b75df8f61cec510d30c2e2777fd536834d8297285ab7d35c"), looks := true }, kinds := [], alts := [], laidByText := true, laidKinds := [.data, .data, .data], laidTests := true, laidLooks := .later }
def ModeBackCardSaid : Prop := Claim7.holds Tryz.pinned (.plain (OpenSpec.ofChange modeBackSpec)) modeBackCard

/-- THE TIED CARD OF 'trusslaw14.ModeItems'. -/
def modeItemsCard : Claim7 := { stood := { row := modeItemsRow, standIns := [], harness := (true, "d068fd9bab5788f1b75df8f61cec510d30c2e2777fd536834d8297285ab7d35c"), looks := true }, kinds := [], alts := [], laidByText := true, laidKinds := [.data, .data, .data], laidTests := true, laidLooks := .later }
def ModeItemsCardSaid : Prop := Claim7.holds Tryz.pinned (.plain (OpenSpec.ofChange modeItemsSpec)) modeItemsCard

/-- THE SECOND FORM's CARD OF 'trusslaw14.ModeBack'. -/
def modeBackUptoCard : Claim7 := { stood := { row := modeBackUptoRow, standIns := [], harness := (true, "d068fd9bab5788f1b75df8f61cec510d30c2e2777fd536834d8297285ab7d35c"), looks := true }, kinds := [], alts := [], laidByText := true, laidKinds := [.data, .data, .data], laidTests := true, laidLooks := .later }
def ModeBackUptoCardSaid : Prop := Claim7.holds Tryz.pinned (.plain (OpenSpec.upto modeBackSpec)) modeBackUptoCard

/-- THE SECOND FORM's CARD OF 'trusslaw14.ModeItems'. -/
def modeItemsUptoCard : Claim7 := { stood := { row := modeItemsUptoRow, standIns := [], harness := (true, "d068fd9bab5788f1b75df8f61cec510d30c2e2777fd536834d8297285ab7d35c"), looks := true }, kinds := [], alts := [], laidByText := true, laidKinds := [.data, .data, .data], laidTests := true, laidLooks := .later }
def ModeItemsUptoCardSaid : Prop := Claim7.holds Tryz.pinned (.plain (OpenSpec.upto modeItemsSpec)) modeItemsUptoCard
end Rows
end Go.Proofs.YtogicnodmgdnbaaGreatDoor
