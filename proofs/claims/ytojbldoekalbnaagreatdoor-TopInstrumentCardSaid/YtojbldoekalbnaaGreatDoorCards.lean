/-
  DERIVED. GIVEN WITH THE SEED: THE CARDS: each row of YtojbldoekalbnaaGreatDoorRows.lean that lists a variable, with what it lists TIED to the program's text (the seventh form; the later family's looks); each row that meets fmt, with fmt's text TOLD by the authors' own Lean function (tested against real Go, not proved from fmt's source: count such statements apart). THE CARD IS WHAT COUNTS. Prove the row's statement (the work); the ties are given (YtojbldoekalbnaaGreatDoorTie.lean); close each card by the builder's one call (the guide's Derived/Test/ToyasCard.lean, 'card_holds'). Laid BY PROGRAM, IN A SANDBOX (cutbox-door.mjs). By AI agents, Wed Nov 11 2026. No macro, syntax, notation, axiom, sorry.
-/
import Derived.Test.YtojbldoekalbnaaGreatDoorRows
import GoSem.ClaimSeven
namespace Go.Proofs.YtojbldoekalbnaaGreatDoor
namespace Rows

/-- THE TIED CARD OF 'clavecintop.TopInstrument'. -/
def topInstrumentCard : Claim7 := { stood := { row := topInstrumentRow, standIns := [], harness := (true, "27c09888f7e64c611bc781bccf8cc9800594e4f71701ad6f39b0bf45e2dccd6d"), looks := false }, kinds := [], alts := [], laidByText := true, laidKinds := [.data, .data, .data], laidTests := true, laidLooks := .later }
def TopInstrumentCardSaid : Prop := Claim7.holds Tryz.pinned (.plain (OpenSpec.ofChange topInstrumentSpec)) topInstrumentCard

/-- THE SECOND FORM's CARD OF 'clavecintop.TopInstrument'. -/
def topInstrumentUptoCard : Claim7 := { stood := { row := topInstrumentUptoRow, standIns := [], harness := (true, "27c09888f7e64c611bc781bccf8cc9800594e4f71701ad6f39b0bf45e2dccd6d"), looks := false }, kinds := [], alts := [], laidByText := true, laidKinds := [.data, .data, .data], laidTests := true, laidLooks := .later }
def TopInstrumentUptoCardSaid : Prop := Claim7.holds Tryz.pinned (.plain (OpenSpec.upto topInstrumentSpec)) topInstrumentUptoCard
end Rows
end Go.Proofs.YtojbldoekalbnaaGreatDoor
