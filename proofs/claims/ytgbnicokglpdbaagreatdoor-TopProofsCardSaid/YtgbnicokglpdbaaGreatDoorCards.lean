/-
  DERIVED. GIVEN WITH THE SEED: THE CARDS: each row of YtgbnicokglpdbaaGreatDoorRows.lean that lists a variable, with what it lists TIED to the program's text (the seventh form; the later family's looks); each row that meets fmt, with fmt's text TOLD by the authors' own Lean function (tested against real Go, not proved from fmt's source: count such statements apart). THE CARD IS WHAT COUNTS. Prove the row's statement (the work); the ties are given (YtgbnicokglpdbaaGreatDoorTie.lean); close each card by the builder's one call (the guide's Derived/Test/ToyasCard.lean, 'card_holds'). Laid BY PROGRAM, IN A SANDBOX (cutbox-door.mjs). By AI agents, Wed Nov 11 2026. No macro, syntax, notation, axiom, sorry.
-/
import Derived.Test.YtgbnicokglpdbaaGreatDoorRows
import GoSem.ClaimSeven
namespace Go.Proofs.YtgbnicokglpdbaaGreatDoor
namespace Rows

/-- THE TIED CARD OF 'clavecintop.TopProofs'. -/
def topProofsCard : Claim7 := { stood := { row := topProofsRow, standIns := [], harness := (true, "75866c0774f08814d337b12e421b78a67113663245269ff3bf84c427cc7b99e5"), looks := true }, kinds := [], alts := [], laidByText := true, laidKinds := [.data, .data, .data, .pinned, .data, .sentinel, .sentinel, .data, .listed], laidTests := true, laidLooks := .later }
def TopProofsCardSaid : Prop := Claim7.holds Tryz.pinned (.plain (OpenSpec.ofChange topProofsSpec)) topProofsCard

/-- THE SECOND FORM's CARD OF 'clavecintop.TopProofs'. -/
def topProofsUptoCard : Claim7 := { stood := { row := topProofsUptoRow, standIns := [], harness := (true, "75866c0774f08814d337b12e421b78a67113663245269ff3bf84c427cc7b99e5"), looks := true }, kinds := [], alts := [], laidByText := true, laidKinds := [.data, .data, .data, .pinned, .data, .sentinel, .sentinel, .data, .listed], laidTests := true, laidLooks := .later }
def TopProofsUptoCardSaid : Prop := Claim7.holds Tryz.pinned (.plain (OpenSpec.upto topProofsSpec)) topProofsUptoCard
end Rows
end Go.Proofs.YtgbnicokglpdbaaGreatDoor
