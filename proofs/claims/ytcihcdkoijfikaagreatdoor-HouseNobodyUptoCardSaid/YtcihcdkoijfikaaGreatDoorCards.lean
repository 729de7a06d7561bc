/-
  DERIVED. GIVEN WITH THE SEED: THE CARDS: each row of YtcihcdkoijfikaaGreatDoorRows.lean that lists a variable, with what it lists TIED to the program's text (the seventh form; the later family's looks); each row that meets fmt, with fmt's text TOLD by the authors' own Lean function (tested against real Go, not proved from fmt's source: count such statements apart). THE CARD IS WHAT COUNTS. Prove the row's statement (the work); the ties are given (YtcihcdkoijfikaaGreatDoorTie.lean); close each card by the builder's one call (the guide's Derived/Test/ToyasCard.lean, 'card_holds'). Laid BY PROGRAM, IN A SANDBOX (cutbox-door.mjs). By AI agents, Wed Nov 11 2026. No macro, syntax, notation, axiom, sorry.
-/
import Derived.Test.YtcihcdkoijfikaaGreatDoorRows
import GoSem.ClaimSeven
namespace Go.Proofs.YtcihcdkoijfikaaGreatDoor
namespace Rows

/-- THE TIED CARD OF 'clavecintop.TopWhole'. -/
def topWholeCard : Claim7 := { stood := { row := topWholeRow, standIns := [], harness := (true, "35567cff45d8e1a8685547cfb5d9cb4c6c26e33c2d89d99f8bc5e472b68bf5d8"), looks := true }, kinds := [], alts := [], laidByText := true, laidKinds := [.data, .data, .data, .pinned, .data, .sentinel, .sentinel, .data, .listed], laidTests := true, laidLooks := .later }
def TopWholeCardSaid : Prop := Claim7.holds Tryz.pinned (.plain (OpenSpec.ofChange topWholeSpec)) topWholeCard

/-- THE TIED CARD OF 'clavecintop.TopUndone'. -/
def topUndoneCard : Claim7 := { stood := { row := topUndoneRow, standIns := [], harness := (true, "35567cff45d8e1a8685547cfb5d9cb4c6c26e33c2d89d99f8bc5e472b68bf5d8"), looks := true }, kinds := [], alts := [], laidByText := true, laidKinds := [.data, .data, .data, .pinned, .data, .sentinel, .sentinel, .data, .listed], laidTests := true, laidLooks := .later }
def TopUndoneCardSaid : Prop := Claim7.holds Tryz.pinned (.plain (OpenSpec.ofChange topUndoneSpec)) topUndoneCard

/-- THE TIED CARD OF 'clavecinlaw10.HouseTries'. -/
def houseTriesCard : Claim7 := { stood := { row := houseTriesRow, standIns := [], harness := (true, "35567cff45d8e1a8685547cfb5d9cb4c6c26e33c2d89d99f8bc5e472b68bf5d8"), looks := true }, kinds := [], alts := [], laidByText := true, laidKinds := [.pinned, .data, .sentinel, .sentinel, .data, .data, .data, .data, .listed], laidTests := true, laidLooks := .later }
def HouseTriesCardSaid : Prop := Claim7.holds Tryz.pinned (.plain (OpenSpec.ofChange houseTriesSpec)) houseTriesCard

/-- THE TIED CARD OF 'clavecinlaw10.HouseRefused'. -/
def houseRefusedCard : Claim7 := { stood := { row := houseRefusedRow, standIns := [], harness := (true, "35567cff45d8e1a8685547cfb5d9cb4c6c26e33c2d89d99f8bc5e472b68bf5d8"), looks := true }, kinds := [], alts := [], laidByText := true, laidKinds := [.pinned, .data, .sentinel, .sentinel, .data, .data, .data, .data, .listed], laidTests := true, laidLooks := .later }
def HouseRefusedCardSaid : Prop := Claim7.holds Tryz.pinned (.plain (OpenSpec.ofChange houseRefusedSpec)) houseRefusedCard

/-- THE TIED CARD OF 'clavecinlaw10.HouseCrash'. -/
def houseCrashCard : Claim7 := { stood := { row := houseCrashRow, standIns := [], harness := (true, "35567cff45d8e1a8685547cfb5d9cb4c6c26e33c2d89d99f8bc5e472b68bf5d8"), looks := true }, kinds := [], alts := [], laidByText := true, laidKinds := [.pinned, .data, .sentinel, .sentinel, .data, .data, .data, .data, .listed], laidTests := true, laidLooks := .later }
def HouseCrashCardSaid : Prop := Claim7.holds Tryz.pinned (.plain (OpenSpec.ofChange houseCrashSpec)) houseCrashCard

/-- THE TIED CARD OF 'clavecinlaw10.HouseConserves'. -/
def houseConservesCard : Claim7 := { stood := { row := houseConservesRow, standIns := [], harness := (true, "35567cff45d8e1a8685547cfb5d9cb4c6c26e33c2d89d99f8bc5e472b68bf5d8"), looks := true }, kinds := [], alts := [], laidByText := true, laidKinds := [.pinned, .data, .sentinel, .sentinel, .data, .data, .data, .data, .listed], laidTests := true, laidLooks := .later }
def HouseConservesCardSaid : Prop := Claim7.holds Tryz.pinned (.plain (OpenSpec.ofChange houseConservesSpec)) houseConservesCard

/-- THE TIED CARD OF 'clavecinlaw10.HouseCloned'. -/
def houseClonedCard : Claim7 := { stood := { row := houseClonedRow, standIns := [], harness := (true, "35567cff45d8e1a8685547cfb5d9cb4c6c26e33c2d89d99f8bc5e472b68bf5d8"), looks := true }, kinds := [], alts := [], laidByText := true, laidKinds := [.pinned, .data, .sentinel, .sentinel, .data, .data, .data, .data, .listed], laidTests := true, laidLooks := .later }
def HouseClonedCardSaid : Prop := Claim7.holds Tryz.pinned (.plain (OpenSpec.ofChange houseClonedSpec)) houseClonedCard

/-- THE TIED CARD OF 'clavecinlaw10.HouseNotes'. -/
def houseNotesCard : Claim7 := { stood := { row := houseNotesRow, standIns := [], harness := (true, "35567cff45d8e1a8685547cfb5d9cb4c6c26e33c2d89d99f8bc5e472b68bf5d8"), looks := true }, kinds := [], alts := [], laidByText := true, laidKinds := [.pinned, .data, .sentinel, .sentinel, .data, .data, .data, .data, .listed], laidTests := true, laidLooks := .later }
def HouseNotesCardSaid : Prop := Claim7.holds Tryz.pinned (.plain (OpenSpec.ofChange houseNotesSpec)) houseNotesCard

/-- THE TIED CARD OF 'clavecinlaw10.HouseLines'. -/
def houseLinesCard : Claim7 := { stood := { row := houseLinesRow, standIns := [], harness := (true, "35567cff45d8e1a8685547cfb5d9cb4c6c26e33c2d89d99f8bc5e472b68bf5d8"), looks := true }, kinds := [], alts := [], laidByText := true, laidKinds := [.pinned, .data, .sentinel, .sentinel, .data, .data, .data, .data, .listed], laidTests := true, laidLooks := .later }
def HouseLinesCardSaid : Prop := Claim7.holds Tryz.pinned (.plain (OpenSpec.ofChange houseLinesSpec)) houseLinesCard

/-- THE TIED CARD OF 'clavecinlaw10.HouseWords'. -/
def houseWordsCard : Claim7 := { stood := { row := houseWordsRow, standIns := [], harness := (true, "35567cff45d8e1a8685547cfb5d9cb4c6c26e33c2d89d99f8bc5e472b68bf5d8"), looks := true }, kinds := [], alts := [], laidByText := true, laidKinds := [.pinned, .data, .sentinel, .sentinel, .data, .data, .data, .data, .listed], laidTests := true, laidLooks := .later }
def HouseWordsCardSaid : Prop := Claim7.holds Tryz.pinned (.plain (OpenSpec.ofChange houseWordsSpec)) houseWordsCard

/-- THE TIED CARD OF 'clavecinlaw10.HousePrinted'. -/
def housePrintedCard : Claim7 := { stood := { row := housePrintedRow, standIns := [], harness := (true, "35567cff45d8e1a8685547cfb5d9cb4c6c26e33c2d89d99f8bc5e472b68bf5d8"), looks := true }, kinds := [], alts := [], laidByText := true, laidKinds := [.pinned, .data, .sentinel, .sentinel, .data, .data, .data, .data, .listed], laidTests := true, laidLooks := .later }
def HousePrintedCardSaid : Prop := Claim7.holds Tryz.pinned (.plain (OpenSpec.ofChange housePrintedSpec)) housePrintedCard

/-- THE TIED CARD OF 'clavecinlaw10.HouseNobody'. -/
def houseNobodyCard : Claim7 := { stood := { row := houseNobodyRow, standIns := [], harness := (true, "35567cff45d8e1a8685547cfb5d9cb4c6c26e33c2d89d99f8bc5e472b68bf5d8"), looks := true }, kinds := [], alts := [], laidByText := true, laidKinds := [.data, .data, .data, .pinned, .data, .sentinel, .sentinel, .data, .listed], laidTests := true, laidLooks := .later }
def HouseNobodyCardSaid : Prop := Claim7.holds Tryz.pinned (.plain (OpenSpec.ofChange houseNobodySpec)) houseNobodyCard

/-- THE TIED CARD OF 'clavecinlaw10.HouseRuns'. -/
def houseRunsCard : Claim7 := { stood := { row := houseRunsRow, standIns := [], harness := (true, "35567cff45d8e1a8685547cfb5d9cb4c6c26e33c2d89d99f8bc5e472b68bf5d8"), looks := true }, kinds := [], alts := [], laidByText := true, laidKinds := [.pinned, .data, .sentinel, .sentinel, .data, .data, .data, .data, .listed], laidTests := true, laidLooks := .later }
def HouseRunsCardSaid : Prop := Claim7.holds Tryz.pinned (.plain (OpenSpec.ofChange houseRunsSpec)) houseRunsCard

/-- THE TIED CARD OF 'clavecinlaw10.HouseTexts'. -/
def houseTextsCard : Claim7 := { stood := { row := houseTextsRow, standIns := [], harness := (true, "35567cff45d8e1a8685547cfb5d9cb4c6c26e33c2d89d99f8bc5e472b68bf5d8"), looks := true }, kinds := [], alts := [], laidByText := true, laidKinds := [.pinned, .data, .sentinel, .sentinel, .data, .data, .data, .data, .listed], laidTests := true, laidLooks := .later }
def HouseTextsCardSaid : Prop := Claim7.holds Tryz.pinned (.plain (OpenSpec.ofChange houseTextsSpec)) houseTextsCard

/-- THE TIED CARD OF 'clavecinlaw10.HousePieces'. -/
def housePiecesCard : Claim7 := { stood := { row := housePiecesRow, standIns := [], harness := (true, "35567cff45d8e1a8685547cfb5d9cb4c6c26e33c2d89d99f8bc5e472b68bf5d8"), looks := true }, kinds := [], alts := [], laidByText := true, laidKinds := [.pinned, .data, .sentinel, .sentinel, .data, .data, .data, .data, .listed], laidTests := true, laidLooks := .later }
def HousePiecesCardSaid : Prop := Claim7.holds Tryz.pinned (.plain (OpenSpec.ofChange housePiecesSpec)) housePiecesCard

/-- THE TIED CARD OF 'clavecintop.TopTuned'. -/
def topTunedCard : Claim7 := { stood := { row := topTunedRow, standIns := [], harness := (true, "35567cff45d8e1a8685547cfb5d9cb4c6c26e33c2d89d99f8bc5e472b68bf5d8"), looks := true }, kinds := [], alts := [], laidByText := true, laidKinds := [.data, .data, .data, .pinned, .data, .sentinel, .sentinel, .data, .listed], laidTests := true, laidLooks := .later }
def TopTunedCardSaid : Prop := Claim7.holds Tryz.pinned (.plain (OpenSpec.ofChange topTunedSpec)) topTunedCard

/-- THE TIED CARD OF 'clavecintop.TopProofs'. -/
def topProofsCard : Claim7 := { stood := { row := topProofsRow, standIns := [], harness := (true, "35567cff45d8e1a8685547cfb5d9cb4c6c26e33c2d89d99f8bc5e472b68bf5d8"), looks := true }, kinds := [], alts := [], laidByText := true, laidKinds := [.data, .data, .data, .pinned, .data, .sentinel, .sentinel, .data, .listed], laidTests := true, laidLooks := .later }
def TopProofsCardSaid : Prop := Claim7.holds Tryz.pinned (.plain (OpenSpec.ofChange topProofsSpec)) topProofsCard

/-- THE SECOND FORM's CARD OF 'clavecintop.TopWhole'. -/
def topWholeUptoCard : Claim7 := { stood := { row := topWholeUptoRow, standIns := [], harness := (true, "35567cff45d8e1a8685547cfb5d9cb4c6c26e33c2d89d99f8bc5e472b68bf5d8"), looks := true }, kinds := [], alts := [], laidByText := true, laidKinds := [.data, .data, .data, .pinned, .data, .sentinel, .sentinel, .data, .listed], laidTests := true, laidLooks := .later }
def TopWholeUptoCardSaid : Prop := Claim7.holds Tryz.pinned (.plain (OpenSpec.upto topWholeSpec)) topWholeUptoCard

/-- THE SECOND FORM's CARD OF 'clavecintop.TopUndone'. -/
def topUndoneUptoCard : Claim7 := { stood := { row := topUndoneUptoRow, standIns := [], harness := (true, "35567cff45d8e1a8685547cfb5d9cb4c6c26e33c2d89d99f8bc5e472b68bf5d8"), looks := true }, kinds := [], alts := [], laidByText := true, laidKinds := [.data, .data, .data, .pinned, .data, .sentinel, .sentinel, .data, .listed], laidTests := true, laidLooks := .later }
def TopUndoneUptoCardSaid : Prop := Claim7.holds Tryz.pinned (.plain (OpenSpec.upto topUndoneSpec)) topUndoneUptoCard

/-- THE SECOND FORM's CARD OF 'clavecinlaw10.HouseTries'. -/
def houseTriesUptoCard : Claim7 := { stood := { row := houseTriesUptoRow, standIns := [], harness := (true, "35567cff45d8e1a8685547cfb5d9cb4c6c26e33c2d89d99f8bc5e472b68bf5d8"), looks := true }, kinds := [], alts := [], laidByText := true, laidKinds := [.pinned, .data, .sentinel, .sentinel, .data, .data, .data, .data, .listed], laidTests := true, laidLooks := .later }
def HouseTriesUptoCardSaid : Prop := Claim7.holds Tryz.pinned (.plain (OpenSpec.upto houseTriesSpec)) houseTriesUptoCard

/-- THE SECOND FORM's CARD OF 'clavecinlaw10.HouseRefused'. -/
def houseRefusedUptoCard : Claim7 := { stood := { row := houseRefusedUptoRow, standIns := [], harness := (true, "35567cff45d8e1a8685547cfb5d9cb4c6c26e33c2d89d99f8bc5e472b68bf5d8"), looks := true }, kinds := [], alts := [], laidByText := true, laidKinds := [.pinned, .data, .sentinel, .sentinel, .data, .data, .data, .data, .listed], laidTests := true, laidLooks := .later }
def HouseRefusedUptoCardSaid : Prop := Claim7.holds Tryz.pinned (.plain (OpenSpec.upto houseRefusedSpec)) houseRefusedUptoCard

/-- THE SECOND FORM's CARD OF 'clavecinlaw10.HouseCrash'. -/
def houseCrashUptoCard : Claim7 := { stood := { row := houseCrashUptoRow, standIns := [], harness := (true, "35567cff45d8e1a8685547cfb5d9cb4c6c26e33c2d89d99f8bc5e472b68bf5d8"), looks := true }, kinds := [], alts := [], laidByText := true, laidKinds := [.pinned, .data, .sentinel, .sentinel, .data, .data, .data, .data, .listed], laidTests := true, laidLooks := .later }
def HouseCrashUptoCardSaid : Prop := Claim7.holds Tryz.pinned (.plain (OpenSpec.upto houseCrashSpec)) houseCrashUptoCard

/-- THE SECOND FORM's CARD OF 'clavecinlaw10.HouseConserves'. -/
def houseConservesUptoCard : Claim7 := { stood := { row := houseConservesUptoRow, standIns := [], harness := (true, "35567cff45d8e1a8685547cfb5d9cb4c6c26e33c2d89d99f8bc5e472b68bf5d8"), looks := true }, kinds := [], alts := [], laidByText := true, laidKinds := [.pinned, .data, .sentinel, .sentinel, .data, .data, .data, .data, .listed], laidTests := true, laidLooks := .later }
def HouseConservesUptoCardSaid : Prop := Claim7.holds Tryz.pinned (.plain (OpenSpec.upto houseConservesSpec)) houseConservesUptoCard

/-- THE SECOND FORM's CARD OF 'clavecinlaw10.HouseCloned'. -/
def houseClonedUptoCard : Claim7 := { stood := { row := houseClonedUptoRow, standIns := [], harness := (true, "35567cff45d8e1a8685547cfb5d9cb4c6c26e33c2d89d99f8bc5e472b68bf5d8"), looks := true }, kinds := [], alts := [], laidByText := true, laidKinds := [.pinned, .data, .sentinel, .sentinel, .data, .data, .data, .data, .listed], laidTests := true, laidLooks := .later }
def HouseClonedUptoCardSaid : Prop := Claim7.holds Tryz.pinned (.plain (OpenSpec.upto houseClonedSpec)) houseClonedUptoCard

/-- THE SECOND FORM's CARD OF 'clavecinlaw10.HouseNotes'. -/
def houseNotesUptoCard : Claim7 := { stood := { row := houseNotesUptoRow, standIns := [], harness := (true, "35567cff45d8e1a8685547cfb5d9cb4c6c26e33c2d89d99f8bc5e472b68bf5d8"), looks := true }, kinds := [], alts := [], laidByText := true, laidKinds := [.pinned, .data, .sentinel, .sentinel, .data, .data, .data, .data, .listed], laidTests := true, laidLooks := .later }
def HouseNotesUptoCardSaid : Prop := Claim7.holds Tryz.pinned (.plain (OpenSpec.upto houseNotesSpec)) houseNotesUptoCard

/-- THE SECOND FORM's CARD OF 'clavecinlaw10.HouseLines'. -/
def houseLinesUptoCard : Claim7 := { stood := { row := houseLinesUptoRow, standIns := [], harness := (true, "35567cff45d8e1a8685547cfb5d9cb4c6c26e33c2d89d99f8bc5e472b68bf5d8"), looks := true }, kinds := [], alts := [], laidByText := true, laidKinds := [.pinned, .data, .sentinel, .sentinel, .data, .data, .data, .data, .listed], laidTests := true, laidLooks := .later }
def HouseLinesUptoCardSaid : Prop := Claim7.holds Tryz.pinned (.plain (OpenSpec.upto houseLinesSpec)) houseLinesUptoCard

/-- THE SECOND FORM's CARD OF 'clavecinlaw10.HouseWords'. -/
def houseWordsUptoCard : Claim7 := { stood := { row := houseWordsUptoRow, standIns := [], harness := (true, "35567cff45d8e1a8685547cfb5d9cb4c6c26e33c2d89d99f8bc5e472b68bf5d8"), looks := true }, kinds := [], alts := [], laidByText := true, laidKinds := [.pinned, .data, .sentinel, .sentinel, .data, .data, .data, .data, .listed], laidTests := true, laidLooks := .later }
def HouseWordsUptoCardSaid : Prop := Claim7.holds Tryz.pinned (.plain (OpenSpec.upto houseWordsSpec)) houseWordsUptoCard

/-- THE SECOND FORM's CARD OF 'clavecinlaw10.HousePrinted'. -/
def housePrintedUptoCard : Claim7 := { stood := { row := housePrintedUptoRow, standIns := [], harness := (true, "35567cff45d8e1a8685547cfb5d9cb4c6c26e33c2d89d99f8bc5e472b68bf5d8"), looks := true }, kinds := [], alts := [], laidByText := true, laidKinds := [.pinned, .data, .sentinel, .sentinel, .data, .data, .data, .data, .listed], laidTests := true, laidLooks := .later }
def HousePrintedUptoCardSaid : Prop := Claim7.holds Tryz.pinned (.plain (OpenSpec.upto housePrintedSpec)) housePrintedUptoCard

/-- THE SECOND FORM's CARD OF 'clavecinlaw10.HouseNobody'. -/
def houseNobodyUptoCard : Claim7 := { stood := { row := houseNobodyUptoRow, standIns := [], harness := (true, "35567cff45d8e1a8685547cfb5d9cb4c6c26e33c2d89d99f8bc5e472b68bf5d8"), looks := true }, kinds := [], alts := [], laidByText := true, laidKinds := [.data, .data, .data, .pinned, .data, .sentinel, .sentinel, .data, .listed], laidTests := true, laidLooks := .later }
def HouseNobodyUptoCardSaid : Prop := Claim7.holds Tryz.pinned (.plain (OpenSpec.upto houseNobodySpec)) houseNobodyUptoCard

/-- THE SECOND FORM's CARD OF 'clavecinlaw10.HouseRuns'. -/
def houseRunsUptoCard : Claim7 := { stood := { row := houseRunsUptoRow, standIns := [], harness := (true, "35567cff45d8e1a8685547cfb5d9cb4c6c26e33c2d89d99f8bc5e472b68bf5d8"), looks := true }, kinds := [], alts := [], laidByText := true, laidKinds := [.pinned, .data, .sentinel, .sentinel, .data, .data, .data, .data, .listed], laidTests := true, laidLooks := .later }
def HouseRunsUptoCardSaid : Prop := Claim7.holds Tryz.pinned (.plain (OpenSpec.upto houseRunsSpec)) houseRunsUptoCard

/-- THE SECOND FORM's CARD OF 'clavecinlaw10.HouseTexts'. -/
def houseTextsUptoCard : Claim7 := { stood := { row := houseTextsUptoRow, standIns := [], harness := (true, "35567cff45d8e1a8685547cfb5d9cb4c6c26e33c2d89d99f8bc5e472b68bf5d8"), looks := true }, kinds := [], alts := [], laidByText := true, laidKinds := [.pinned, .data, .sentinel, .sentinel, .data, .data, .data, .data, .listed], laidTests := true, laidLooks := .later }
def HouseTextsUptoCardSaid : Prop := Claim7.holds Tryz.pinned (.plain (OpenSpec.upto houseTextsSpec)) houseTextsUptoCard

/-- THE SECOND FORM's CARD OF 'clavecinlaw10.HousePieces'. -/
def housePiecesUptoCard : Claim7 := { stood := { row := housePiecesUptoRow, standIns := [], harness := (true, "35567cff45d8e1a8685547cfb5d9cb4c6c26e33c2d89d99f8bc5e472b68bf5d8"), looks := true }, kinds := [], alts := [], laidByText := true, laidKinds := [.pinned, .data, .sentinel, .sentinel, .data, .data, .data, .data, .listed], laidTests := true, laidLooks := .later }
def HousePiecesUptoCardSaid : Prop := Claim7.holds Tryz.pinned (.plain (OpenSpec.upto housePiecesSpec)) housePiecesUptoCard

/-- THE SECOND FORM's CARD OF 'clavecintop.TopTuned'. -/
def topTunedUptoCard : Claim7 := { stood := { row := topTunedUptoRow, standIns := [], harness := (true, "35567cff45d8e1a8685547cfb5d9cb4c6c26e33c2d89d99f8bc5e472b68bf5d8"), looks := true }, kinds := [], alts := [], laidByText := true, laidKinds := [.data, .data, .data, .pinned, .data, .sentinel, .sentinel, .data, .listed], laidTests := true, laidLooks := .later }
def TopTunedUptoCardSaid : Prop := Claim7.holds Tryz.pinned (.plain (OpenSpec.upto topTunedSpec)) topTunedUptoCard

/-- THE SECOND FORM's CARD OF 'clavecintop.TopProofs'. -/
def topProofsUptoCard : Claim7 := { stood := { row := topProofsUptoRow, standIns := [], harness := (true, "35567cff45d8e1a8685547cfb5d9cb4c6c26e33c2d89d99f8bc5e472b68bf5d8"), looks := true }, kinds := [], alts := [], laidByText := true, laidKinds := [.data, .data, .data, .pinned, .data, .sentinel, .sentinel, .data, .listed], laidTests := true, laidLooks := .later }
def TopProofsUptoCardSaid : Prop := Claim7.holds Tryz.pinned (.plain (OpenSpec.upto topProofsSpec)) topProofsUptoCard
end Rows
end Go.Proofs.YtcihcdkoijfikaaGreatDoor
