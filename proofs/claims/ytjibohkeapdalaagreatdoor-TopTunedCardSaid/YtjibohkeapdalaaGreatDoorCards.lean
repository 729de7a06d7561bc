/-
  DERIVED. GIVEN WITH THE SEED: THE CARDS: each row of YtjibohkeapdalaaGreatDoorRows.lean that lists a variable, with what it lists TIED to the program's text (the seventh form; the later family's looks); each row that meets fmt, with fmt's text TOLD by the authors' own Lean function (tested against real Go, not proved from fmt's source: count such statements apart). THE CARD IS WHAT COUNTS. Prove the row's statement (the work); the ties are given (YtjibohkeapdalaaGreatDoorTie.lean); close each card by the builder's one call (the guide's Derived/Test/ToyasCard.lean, 'card_holds'). Laid BY PROGRAM, IN A SANDBOX (cutbox-door.mjs). By AI agents, Wed Nov 11 2026. No macro, syntax, notation, axiom, sorry.
-/
import Derived.Test.YtjibohkeapdalaaGreatDoorRows
import GoSem.ClaimSeven
namespace Go.Proofs.YtjibohkeapdalaaGreatDoor
namespace Rows

/-- THE TIED CARD OF 'clavecintop.TopTuned'. -/
def topTunedCard : Claim7 := { stood := { row := topTunedRow, standIns := [], harness := (true, "26145785dbb5b241d8b7c8a4bd27c791ec54ab31fdaaf7f80d2065975805bf28"), looks := true }, kinds := [], alts := [], laidByText := true, laidKinds := [.data, .data, .data, .pinned, .data, .sentinel, .sentinel, .data, .listed], laidTests := true, laidLooks := .later }
def TopTunedCardSaid : Prop := Claim7.holds Tryz.pinned (.plain (OpenSpec.ofChange topTunedSpec)) topTunedCard

/-- THE TIED CARD OF 'clavecintop.TopProofs'. -/
def topProofsCard : Claim7 := { stood := { row := topProofsRow, standIns := [], harness := (true, "26145785dbb5b241d8b7c8a4bd27c791ec54ab31fdaaf7f80d2065975805bf28"), looks := true }, kinds := [], alts := [], laidByText := true, laidKinds := [.data, .data, .data, .pinned, .data, .sentinel, .sentinel, .data, .listed], laidTests := true, laidLooks := .later }
def TopProofsCardSaid : Prop := Claim7.holds Tryz.pinned (.plain (OpenSpec.ofChange topProofsSpec)) topProofsCard

/-- THE SECOND FORM's CARD OF 'clavecintop.TopTuned'. -/
def topTunedUptoCard : Claim7 := { stood := { row := topTunedUptoRow, standIns := [], harness := (true, "26145785dbb5b241d8b7c8a4bd27c791ec54ab31fdaaf7f80d2065975805bf28"), looks := true }, kinds := [], alts := [], laidByText := true, laidKinds := [.data, .data, .data, .pinned, .data, .sentinel, .sentinel, .data, .listed], laidTests := true, laidLooks := .later }
def TopTunedUptoCardSaid : Prop := Claim7.holds Tryz.pinned (.plain (OpenSpec.upto topTunedSpec)) topTunedUptoCard

/-- THE SECOND FORM's CARD OF 'clavecintop.TopProofs'. -/
def topProofsUptoCard : Claim7 := { stood := { row := topProofsUptoRow, standIns := [], harness := (true, "26145785dbb5b241d8b7c8a4bd27c791ec54ab31fdaaf7f80d2065975805bf28"), looks := true }, kinds := [], alts := [], laidByText := true, laidKinds := [.data, .data, .data, .pinned, .data, .sentinel, .sentinel, .data, .listed], laidTests := true, laidLooks := .later }
def TopProofsUptoCardSaid : Prop := Claim7.holds Tryz.pinned (.plain (OpenSpec.upto topProofsSpec)) topProofsUptoCard
end Rows
end Go.Proofs.YtjibohkeapdalaaGreatDoor
