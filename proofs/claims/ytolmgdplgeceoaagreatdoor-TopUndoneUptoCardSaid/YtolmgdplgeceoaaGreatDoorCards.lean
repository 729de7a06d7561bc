/-
  DERIVED. GIVEN WITH THE SEED: THE CARDS: each row of YtolmgdplgeceoaaGreatDoorRows.lean that lists a variable, with what it lists TIED to the program's text (the seventh form; the later family's looks); each row that meets fmt, with fmt's text TOLD by the authors' own Lean function (tested against real Go, not proved from fmt's source: count such statements apart). THE CARD IS WHAT COUNTS. Prove the row's statement (the work); the ties are given (YtolmgdplgeceoaaGreatDoorTie.lean); close each card by the builder's one call (the guide's Derived/Test/ToyasCard.lean, 'card_holds'). Laid BY PROGRAM, IN A SANDBOX (cutbox-door.mjs). By AI agents, Wed Nov 11 2026. No macro, syntax, notation, axiom, sorry.
-/
import Derived.Test.YtolmgdplgeceoaaGreatDoorRows
import GoSem.ClaimSeven
namespace Go.Proofs.YtolmgdplgeceoaaGreatDoor
namespace Rows

/-- THE TIED CARD OF 'clavecintop.TopUndone'. -/
def topUndoneCard : Claim7 := { stood := { row := topUndoneRow, standIns := [], harness := (true, "cf10302a51bd354cbce40ff28004db48bc58557275949786b5a81a67ed510958"), looks := true }, kinds := [], alts := [], laidByText := true, laidKinds := [.data, .data, .data, .pinned, .data, .sentinel, .sentinel, .data, .listed], laidTests := true, laidLooks := .later }
def TopUndoneCardSaid : Prop := Claim7.holds Tryz.pinned (.plain (OpenSpec.ofChange topUndoneSpec)) topUndoneCard

/-- THE SECOND FORM's CARD OF 'clavecintop.TopUndone'. -/
def topUndoneUptoCard : Claim7 := { stood := { row := topUndoneUptoRow, standIns := [], harness := (true, "cf10302a51bd354cbce40ff28004db48bc58557275949786b5a81a67ed510958"), looks := true }, kinds := [], alts := [], laidByText := true, laidKinds := [.data, .data, .data, .pinned, .data, .sentinel, .sentinel, .data, .listed], laidTests := true, laidLooks := .later }
def TopUndoneUptoCardSaid : Prop := Claim7.holds Tryz.pinned (.plain (OpenSpec.upto topUndoneSpec)) topUndoneUptoCard
end Rows
end Go.Proofs.YtolmgdplgeceoaaGreatDoor
