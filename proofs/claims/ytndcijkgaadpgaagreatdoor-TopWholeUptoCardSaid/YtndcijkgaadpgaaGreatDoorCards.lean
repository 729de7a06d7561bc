/-
  DERIVED. GIVEN WITH THE SEED: THE CARDS: each row of YtndcijkgaadpgaaGreatDoorRows.lean that lists a variable, with what it lists TIED to the program's text (the seventh form; the later family's looks); each row that meets fmt, with fmt's text TOLD by the authors' own Lean function (tested against real Go, not proved from fmt's source: count such statements apart). THE CARD IS WHAT COUNTS. Prove the row's statement (the work); the ties are given (YtndcijkgaadpgaaGreatDoorTie.lean); close each card by the builder's one call (the guide's Derived/Test/ToyasCard.lean, 'card_holds'). Laid BY PROGRAM, IN A SANDBOX (cutbox-door.mjs). By AI agents, Wed Nov 11 2026. No macro, syntax, notation, axiom, sorry.
-/
import Derived.Test.YtndcijkgaadpgaaGreatDoorRows
import GoSem.ClaimSeven
namespace Go.Proofs.YtndcijkgaadpgaaGreatDoor
namespace Rows

/-- THE TIED CARD OF 'clavecintop.TopWhole'. -/
def topWholeCard : Claim7 := { stood := { row := topWholeRow, standIns := [], harness := (true, "31def33d80d0e2195238fe8dc28cc36a28ad34586a5fe6e377f7b2866e6bd3e2"), looks := true }, kinds := [], alts := [], laidByText := true, laidKinds := [.data, .data, .data, .pinned, .data, .sentinel, .sentinel, .data, .listed], laidTests := true, laidLooks := .later }
def TopWholeCardSaid : Prop := Claim7.holds Tryz.pinned (.plain (OpenSpec.ofChange topWholeSpec)) topWholeCard

/-- THE TIED CARD OF 'clavecinlaw10.HouseNobody'. -/
def houseNobodyCard : Claim7 := { stood := { row := houseNobodyRow, standIns := [], harness := (true, "31def33d80d0e2195238fe8dc28cc36a28ad34586a5fe6e377f7b2866e6bd3e2"), looks := true }, kinds := [], alts := [], laidByText := true, laidKinds := [.data, .data, .data, .pinned, .data, .sentinel, .sentinel, .data, .listed], laidTests := true, laidLooks := .later }
def HouseNobodyCardSaid : Prop := Claim7.holds Tryz.pinned (.plain (OpenSpec.ofChange houseNobodySpec)) houseNobodyCard

/-- THE SECOND FORM's CARD OF 'clavecintop.TopWhole'. -/
def topWholeUptoCard : Claim7 := { stood := { row := topWholeUptoRow, standIns := [], harness := (true, "31def33d80d0e2195238fe8dc28cc36a28ad34586a5fe6e377f7b2866e6bd3e2"), looks := true }, kinds := [], alts := [], laidByText := true, laidKinds := [.data, .data, .data, .pinned, .data, .sentinel, .sentinel, .data, .listed], laidTests := true, laidLooks := .later }
def TopWholeUptoCardSaid : Prop := Claim7.holds Tryz.pinned (.plain (OpenSpec.upto topWholeSpec)) topWholeUptoCard

/-- THE SECOND FORM's CARD OF 'clavecinlaw10.HouseNobody'. -/
def houseNobodyUptoCard : Claim7 := { stood := { row := houseNobodyUptoRow, standIns := [], harness := (true, "31def33d80d0e2195238fe8dc28cc36a28ad34586a5fe6e377f7b2866e6bd3e2"), looks := true }, kinds := [], alts := [], laidByText := true, laidKinds := [.data, .data, .data, .pinned, .data, .sentinel, .sentinel, .data, .listed], laidTests := true, laidLooks := .later }
def HouseNobodyUptoCardSaid : Prop := Claim7.holds Tryz.pinned (.plain (OpenSpec.upto houseNobodySpec)) houseNobodyUptoCard
end Rows
end Go.Proofs.YtndcijkgaadpgaaGreatDoor
