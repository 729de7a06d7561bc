/-
  No cell of these rows narrows 'for every input' (looked for: loops, veiled, ifaces, maps, wideKeys, modest, calm, conditions, laid).
  DERIVED. THE GIVEN ROWS OF THIS SEAT. 12 by the template 'for every input the law returns true; each argument reads behind the call as it read before'; 0 by the template 'total and deterministic' (their statements: YtfkpioibinpfhaaTotals.lean).
  GIVEN WITH THE SEED: the statements are not yours to turn. If you find one false, say at which input.
  Laid BY PROGRAM, IN A SANDBOX (cutbox-rows.mjs): the forced cells as the released guide's own fill.sh prints them over the translation 26c1bacd3a9f697e… (all of the seat's roots in one cut). By AI agents, Wed Nov 11 2026. No macro, syntax, notation, axiom, sorry.
-/
import Derived.Test.YtfkpioibinpfhaaChecked
import GoSem.Claim
import GoSem.ClaimJoined
import GoSem.ClaimMapViews
import Derived.JoinedTies
import Derived.KernelRfl
namespace Go.Proofs.Ytfkpioibinpfhaa
/- THE CELL 'sum', in the pinned program and in every row, IS THE sha256 OF THE DUMP (.gsa) THAT YtfkpioibinpfhaaProg.lean LOADS. Nothing in Lean hashes anything: it is a label: what it is worth is what the hold of that sum in a sandbox is worth. -/
noncomputable def Try.pinned : Pinned := { name := "ytfkpioibinpfhaa", sum := "26c1bacd3a9f697ecd5b22a796fd4b2dcbadf537a2eaa06c107ff9f5554c5e95", checked := Try.checked }
namespace Rows
def none {H : Type} : Left H := { results := [], args := [] }

/-- 'clavecinlaw08.PanelBests': WHATEVER THE INPUT: true; the input reads as it did. -/
def panelBestsSpec : ChangeSpec := { name := "panelBests", fn := fun _ => fun
  | [d] => { results := [.lit (.bool true)], args := [d] }
  | _ => none }
def panelBestsRow : OpenClaim := { program := "ytfkpioibinpfhaa", sum := "26c1bacd3a9f697ecd5b22a796fd4b2dcbadf537a2eaa06c107ff9f5554c5e95", func := "clavecin/clavecinlaw08.PanelBests", spec := "panelBests", unfollowed := true, recurses := true, apart := false }
def PanelBestsSaid : Prop := panelBestsRow.holds Try.pinned (OpenSpec.ofChange panelBestsSpec)

/-- ITS FALSE NEIGHBOUR: 'it returns false'. Refute it at one input. -/
def panelBestsWrong : ChangeSpec := { name := "panelBests", fn := fun _ => fun
  | [d] => { results := [.lit (.bool false)], args := [d] }
  | _ => none }
def PanelBestsWrongFalsely : Prop := panelBestsRow.holds Try.pinned (OpenSpec.ofChange panelBestsWrong)

/-- 'clavecinlaw08.PanelTurned': WHATEVER THE INPUT: true; the input reads as it did. -/
def panelTurnedSpec : ChangeSpec := { name := "panelTurned", fn := fun _ => fun
  | [d1, d2] => { results := [.lit (.bool true)], args := [d1, d2] }
  | _ => none }
def panelTurnedRow : OpenClaim := { program := "ytfkpioibinpfhaa", sum := "26c1bacd3a9f697ecd5b22a796fd4b2dcbadf537a2eaa06c107ff9f5554c5e95", func := "clavecin/clavecinlaw08.PanelTurned", spec := "panelTurned", unfollowed := true, recurses := true, apart := false }
def PanelTurnedSaid : Prop := panelTurnedRow.holds Try.pinned (OpenSpec.ofChange panelTurnedSpec)

/-- ITS FALSE NEIGHBOUR: 'it returns false'. Refute it at one input. -/
def panelTurnedWrong : ChangeSpec := { name := "panelTurned", fn := fun _ => fun
  | [d1, d2] => { results := [.lit (.bool false)], args := [d1, d2] }
  | _ => none }
def PanelTurnedWrongFalsely : Prop := panelTurnedRow.holds Try.pinned (OpenSpec.ofChange panelTurnedWrong)

/-- 'clavecinlaw08.PanelSharper': WHATEVER THE INPUT: true; the input reads as it did. -/
def panelSharperSpec : ChangeSpec := { name := "panelSharper", fn := fun _ => fun
  | [d1, d2] => { results := [.lit (.bool true)], args := [d1, d2] }
  | _ => none }
def panelSharperRow : OpenClaim := { program := "ytfkpioibinpfhaa", sum := "26c1bacd3a9f697ecd5b22a796fd4b2dcbadf537a2eaa06c107ff9f5554c5e95", func := "clavecin/clavecinlaw08.PanelSharper", spec := "panelSharper", unfollowed := true, recurses := true, apart := false }
def PanelSharperSaid : Prop := panelSharperRow.holds Try.pinned (OpenSpec.ofChange panelSharperSpec)

/-- ITS FALSE NEIGHBOUR: 'it returns false'. Refute it at one input. -/
def panelSharperWrong : ChangeSpec := { name := "panelSharper", fn := fun _ => fun
  | [d1, d2] => { results := [.lit (.bool false)], args := [d1, d2] }
  | _ => none }
def PanelSharperWrongFalsely : Prop := panelSharperRow.holds Try.pinned (OpenSpec.ofChange panelSharperWrong)

/-- 'clavecinlaw08.PanelTables': WHATEVER THE INPUT: true; the input reads as it did. -/
def panelTablesSpec : ChangeSpec := { name := "panelTables", fn := fun _ => fun
  | [d] => { results := [.lit (.bool true)], args := [d] }
  | _ => none }
def panelTablesRow : OpenClaim := { program := "ytfkpioibinpfhaa", sum := "26c1bacd3a9f697ecd5b22a796fd4b2dcbadf537a2eaa06c107ff9f5554c5e95", func := "clavecin/clavecinlaw08.PanelTables", spec := "panelTables", unfollowed := true, recurses := true, apart := false }
def PanelTablesSaid : Prop := panelTablesRow.holds Try.pinned (OpenSpec.ofChange panelTablesSpec)

/-- ITS FALSE NEIGHBOUR: 'it returns false'. Refute it at one input. -/
def panelTablesWrong : ChangeSpec := { name := "panelTables", fn := fun _ => fun
  | [d] => { results := [.lit (.bool false)], args := [d] }
  | _ => none }
def PanelTablesWrongFalsely : Prop := panelTablesRow.holds Try.pinned (OpenSpec.ofChange panelTablesWrong)

/-- 'clavecinlaw08.PanelGrows': WHATEVER THE INPUT: true; the input reads as it did. -/
def panelGrowsSpec : ChangeSpec := { name := "panelGrows", fn := fun _ => fun
  | [d1, d2] => { results := [.lit (.bool true)], args := [d1, d2] }
  | _ => none }
def panelGrowsRow : OpenClaim := { program := "ytfkpioibinpfhaa", sum := "26c1bacd3a9f697ecd5b22a796fd4b2dcbadf537a2eaa06c107ff9f5554c5e95", func := "clavecin/clavecinlaw08.PanelGrows", spec := "panelGrows", unfollowed := true, recurses := true, apart := false }
def PanelGrowsSaid : Prop := panelGrowsRow.holds Try.pinned (OpenSpec.ofChange panelGrowsSpec)

/-- ITS FALSE NEIGHBOUR: 'it returns false'. Refute it at one input. -/
def panelGrowsWrong : ChangeSpec := { name := "panelGrows", fn := fun _ => fun
  | [d1, d2] => { results := [.lit (.bool false)], args := [d1, d2] }
  | _ => none }
def PanelGrowsWrongFalsely : Prop := panelGrowsRow.holds Try.pinned (OpenSpec.ofChange panelGrowsWrong)

/-- 'clavecinlaw08.PanelCeiling': WHATEVER THE INPUT: true; the input reads as it did. -/
def panelCeilingSpec : ChangeSpec := { name := "panelCeiling", fn := fun _ => fun
  | [d] => { results := [.lit (.bool true)], args := [d] }
  | _ => none }
def panelCeilingRow : OpenClaim := { program := "ytfkpioibinpfhaa", sum := "26c1bacd3a9f697ecd5b22a796fd4b2dcbadf537a2eaa06c107ff9f5554c5e95", func := "clavecin/clavecinlaw08.PanelCeiling", spec := "panelCeiling", unfollowed := true, recurses := true, apart := false }
def PanelCeilingSaid : Prop := panelCeilingRow.holds Try.pinned (OpenSpec.ofChange panelCeilingSpec)

/-- ITS FALSE NEIGHBOUR: 'it returns false'. Refute it at one input. -/
def panelCeilingWrong : ChangeSpec := { name := "panelCeiling", fn := fun _ => fun
  | [d] => { results := [.lit (.bool false)], args := [d] }
  | _ => none }
def PanelCeilingWrongFalsely : Prop := panelCeilingRow.holds Try.pinned (OpenSpec.ofChange panelCeilingWrong)

/-- 'clavecinlaw08.PanelBounds': WHATEVER THE INPUT: true; the input reads as it did. -/
def panelBoundsSpec : ChangeSpec := { name := "panelBounds", fn := fun _ => fun
  | [d1, d2] => { results := [.lit (.bool true)], args := [d1, d2] }
  | _ => none }
def panelBoundsRow : OpenClaim := { program := "ytfkpioibinpfhaa", sum := "26c1bacd3a9f697ecd5b22a796fd4b2dcbadf537a2eaa06c107ff9f5554c5e95", func := "clavecin/clavecinlaw08.PanelBounds", spec := "panelBounds", unfollowed := true, recurses := true, apart := false }
def PanelBoundsSaid : Prop := panelBoundsRow.holds Try.pinned (OpenSpec.ofChange panelBoundsSpec)

/-- ITS FALSE NEIGHBOUR: 'it returns false'. Refute it at one input. -/
def panelBoundsWrong : ChangeSpec := { name := "panelBounds", fn := fun _ => fun
  | [d1, d2] => { results := [.lit (.bool false)], args := [d1, d2] }
  | _ => none }
def PanelBoundsWrongFalsely : Prop := panelBoundsRow.holds Try.pinned (OpenSpec.ofChange panelBoundsWrong)

/-- 'clavecinlaw08.PanelApart': WHATEVER THE INPUT: true; the input reads as it did. -/
def panelApartSpec : ChangeSpec := { name := "panelApart", fn := fun _ => fun
  | [d1, d2, d3] => { results := [.lit (.bool true)], args := [d1, d2, d3] }
  | _ => none }
def panelApartRow : OpenClaim := { program := "ytfkpioibinpfhaa", sum := "26c1bacd3a9f697ecd5b22a796fd4b2dcbadf537a2eaa06c107ff9f5554c5e95", func := "clavecin/clavecinlaw08.PanelApart", spec := "panelApart", unfollowed := true, recurses := true, apart := false }
def PanelApartSaid : Prop := panelApartRow.holds Try.pinned (OpenSpec.ofChange panelApartSpec)

/-- ITS FALSE NEIGHBOUR: 'it returns false'. Refute it at one input. -/
def panelApartWrong : ChangeSpec := { name := "panelApart", fn := fun _ => fun
  | [d1, d2, d3] => { results := [.lit (.bool false)], args := [d1, d2, d3] }
  | _ => none }
def PanelApartWrongFalsely : Prop := panelApartRow.holds Try.pinned (OpenSpec.ofChange panelApartWrong)

/-- 'clavecinlaw08.PanelOptimal': WHATEVER THE INPUT: true; the input reads as it did. -/
def panelOptimalSpec : ChangeSpec := { name := "panelOptimal", fn := fun _ => fun
  | [d1, d2] => { results := [.lit (.bool true)], args := [d1, d2] }
  | _ => none }
def panelOptimalRow : OpenClaim := { program := "ytfkpioibinpfhaa", sum := "26c1bacd3a9f697ecd5b22a796fd4b2dcbadf537a2eaa06c107ff9f5554c5e95", func := "clavecin/clavecinlaw08.PanelOptimal", spec := "panelOptimal", unfollowed := true, recurses := true, apart := false }
def PanelOptimalSaid : Prop := panelOptimalRow.holds Try.pinned (OpenSpec.ofChange panelOptimalSpec)

/-- ITS FALSE NEIGHBOUR: 'it returns false'. Refute it at one input. -/
def panelOptimalWrong : ChangeSpec := { name := "panelOptimal", fn := fun _ => fun
  | [d1, d2] => { results := [.lit (.bool false)], args := [d1, d2] }
  | _ => none }
def PanelOptimalWrongFalsely : Prop := panelOptimalRow.holds Try.pinned (OpenSpec.ofChange panelOptimalWrong)

/-- 'clavecinlaw08.PanelSheets': WHATEVER THE INPUT: true; the input reads as it did. -/
def panelSheetsSpec : ChangeSpec := { name := "panelSheets", fn := fun _ => fun
  | [d1, d2, d3] => { results := [.lit (.bool true)], args := [d1, d2, d3] }
  | _ => none }
def panelSheetsRow : OpenClaim := { program := "ytfkpioibinpfhaa", sum := "26c1bacd3a9f697ecd5b22a796fd4b2dcbadf537a2eaa06c107ff9f5554c5e95", func := "clavecin/clavecinlaw08.PanelSheets", spec := "panelSheets", unfollowed := true, recurses := true, apart := false }
def PanelSheetsSaid : Prop := panelSheetsRow.holds Try.pinned (OpenSpec.ofChange panelSheetsSpec)

/-- ITS FALSE NEIGHBOUR: 'it returns false'. Refute it at one input. -/
def panelSheetsWrong : ChangeSpec := { name := "panelSheets", fn := fun _ => fun
  | [d1, d2, d3] => { results := [.lit (.bool false)], args := [d1, d2, d3] }
  | _ => none }
def PanelSheetsWrongFalsely : Prop := panelSheetsRow.holds Try.pinned (OpenSpec.ofChange panelSheetsWrong)

/-- 'clavecinlaw08.PanelReads': WHATEVER THE INPUT: true; the input reads as it did. -/
def panelReadsSpec : ChangeSpec := { name := "panelReads", fn := fun _ => fun
  | [d1, d2] => { results := [.lit (.bool true)], args := [d1, d2] }
  | _ => none }
def panelReadsRow : OpenClaim := { program := "ytfkpioibinpfhaa", sum := "26c1bacd3a9f697ecd5b22a796fd4b2dcbadf537a2eaa06c107ff9f5554c5e95", func := "clavecin/clavecinlaw08.PanelReads", spec := "panelReads", unfollowed := true, recurses := true, apart := false }
def PanelReadsSaid : Prop := panelReadsRow.holds Try.pinned (OpenSpec.ofChange panelReadsSpec)

/-- ITS FALSE NEIGHBOUR: 'it returns false'. Refute it at one input. -/
def panelReadsWrong : ChangeSpec := { name := "panelReads", fn := fun _ => fun
  | [d1, d2] => { results := [.lit (.bool false)], args := [d1, d2] }
  | _ => none }
def PanelReadsWrongFalsely : Prop := panelReadsRow.holds Try.pinned (OpenSpec.ofChange panelReadsWrong)

/-- 'clavecinlaw08.PanelArea': WHATEVER THE INPUT: true; the input reads as it did. -/
def panelAreaSpec : ChangeSpec := { name := "panelArea", fn := fun _ => fun
  | [d1, d2, d3] => { results := [.lit (.bool true)], args := [d1, d2, d3] }
  | _ => none }
def panelAreaRow : OpenClaim := { program := "ytfkpioibinpfhaa", sum := "26c1bacd3a9f697ecd5b22a796fd4b2dcbadf537a2eaa06c107ff9f5554c5e95", func := "clavecin/clavecinlaw08.PanelArea", spec := "panelArea", unfollowed := true, recurses := true, apart := false }
def PanelAreaSaid : Prop := panelAreaRow.holds Try.pinned (OpenSpec.ofChange panelAreaSpec)

/-- ITS FALSE NEIGHBOUR: 'it returns false'. Refute it at one input. -/
def panelAreaWrong : ChangeSpec := { name := "panelArea", fn := fun _ => fun
  | [d1, d2, d3] => { results := [.lit (.bool false)], args := [d1, d2, d3] }
  | _ => none }
def PanelAreaWrongFalsely : Prop := panelAreaRow.holds Try.pinned (OpenSpec.ofChange panelAreaWrong)

/- THE SECOND FORM. 'bulk': how many values and letters a reading holds, each counted each time it is reached (what is shared counts as often as it is met; a slice's spare places count too). A statement '..UptoSaid' is the law's where the arguments, and the package variables that the reading takes, are together of bulk at most 1048576: NARROWER than '..Said'. Prove '..Said' where nothing that the law and all that it calls make is longer than what came in: it says more and counts as full. Else prove '..UptoSaid'. A law counts once. -/
mutual
def uptoBulk {H : Type} : DataW H → Nat
  | .lit (.string bytes) => bytes.length + 1
  | .lit _ => 1
  | .nil => 1
  | .ptr d => uptoBulk d + 1
  | .slice elems spare => uptoBulkAll elems + uptoBulkAll spare + 1
  | .agg parts => uptoBulkAll parts + 1
  | .iface _ d => uptoBulk d + 1
  | .map entries => uptoBulkEntries entries + 1
  | .held _ => 1
def uptoBulkAll {H : Type} : List (DataW H) → Nat
  | [] => 0
  | d :: r => uptoBulk d + uptoBulkAll r
def uptoBulkEntries {H : Type} : List (Lit × DataW H) → Nat
  | [] => 0
  | x :: r => uptoBulkEntry x + uptoBulkEntries r
def uptoBulkEntry {H : Type} : Lit × DataW H → Nat
  | (.string bytes, d) => bytes.length + uptoBulk d + 1
  | (_, d) => uptoBulk d + 1
 end
def uptoSmall : (H : Type) → List (DataW H) → Bool := fun _ ds => decide (uptoBulkAll ds ≤ 1048576)
def OpenSpec.upto (s : _root_.Go.ChangeSpec) : _root_.Go.OpenSpec := { _root_.Go.OpenSpec.ofChange s with cond := some uptoSmall }

/-- 'clavecinlaw08.PanelBests', WHERE WHAT IT READS IS OF BULK AT MOST 1048576: true; the input reads as it did. -/
def panelBestsUptoRow : OpenClaim := { program := "ytfkpioibinpfhaa", sum := "26c1bacd3a9f697ecd5b22a796fd4b2dcbadf537a2eaa06c107ff9f5554c5e95", func := "clavecin/clavecinlaw08.PanelBests", spec := "panelBests", unfollowed := true, recurses := true, apart := false, narrowed := true }
def PanelBestsUptoSaid : Prop := panelBestsUptoRow.holds Try.pinned (OpenSpec.upto panelBestsSpec)

/-- 'clavecinlaw08.PanelTurned', WHERE WHAT IT READS IS OF BULK AT MOST 1048576: true; the input reads as it did. -/
def panelTurnedUptoRow : OpenClaim := { program := "ytfkpioibinpfhaa", sum := "26c1bacd3a9f697ecd5b22a796fd4b2dcbadf537a2eaa06c107ff9f5554c5e95", func := "clavecin/clavecinlaw08.PanelTurned", spec := "panelTurned", unfollowed := true, recurses := true, apart := false, narrowed := true }
def PanelTurnedUptoSaid : Prop := panelTurnedUptoRow.holds Try.pinned (OpenSpec.upto panelTurnedSpec)

/-- 'clavecinlaw08.PanelSharper', WHERE WHAT IT READS IS OF BULK AT MOST 1048576: true; the input reads as it did. -/
def panelSharperUptoRow : OpenClaim := { program := "ytfkpioibinpfhaa", sum := "26c1bacd3a9f697ecd5b22a796fd4b2dcbadf537a2eaa06c107ff9f5554c5e95", func := "clavecin/clavecinlaw08.PanelSharper", spec := "panelSharper", unfollowed := true, recurses := true, apart := false, narrowed := true }
def PanelSharperUptoSaid : Prop := panelSharperUptoRow.holds Try.pinned (OpenSpec.upto panelSharperSpec)

/-- 'clavecinlaw08.PanelTables', WHERE WHAT IT READS IS OF BULK AT MOST 1048576: true; the input reads as it did. -/
def panelTablesUptoRow : OpenClaim := { program := "ytfkpioibinpfhaa", sum := "26c1bacd3a9f697ecd5b22a796fd4b2dcbadf537a2eaa06c107ff9f5554c5e95", func := "clavecin/clavecinlaw08.PanelTables", spec := "panelTables", unfollowed := true, recurses := true, apart := false, narrowed := true }
def PanelTablesUptoSaid : Prop := panelTablesUptoRow.holds Try.pinned (OpenSpec.upto panelTablesSpec)

/-- 'clavecinlaw08.PanelGrows', WHERE WHAT IT READS IS OF BULK AT MOST 1048576: true; the input reads as it did. -/
def panelGrowsUptoRow : OpenClaim := { program := "ytfkpioibinpfhaa", sum := "26c1bacd3a9f697ecd5b22a796fd4b2dcbadf537a2eaa06c107ff9f5554c5e95", func := "clavecin/clavecinlaw08.PanelGrows", spec := "panelGrows", unfollowed := true, recurses := true, apart := false, narrowed := true }
def PanelGrowsUptoSaid : Prop := panelGrowsUptoRow.holds Try.pinned (OpenSpec.upto panelGrowsSpec)

/-- 'clavecinlaw08.PanelCeiling', WHERE WHAT IT READS IS OF BULK AT MOST 1048576: true; the input reads as it did. -/
def panelCeilingUptoRow : OpenClaim := { program := "ytfkpioibinpfhaa", sum := "26c1bacd3a9f697ecd5b22a796fd4b2dcbadf537a2eaa06c107ff9f5554c5e95", func := "clavecin/clavecinlaw08.PanelCeiling", spec := "panelCeiling", unfollowed := true, recurses := true, apart := false, narrowed := true }
def PanelCeilingUptoSaid : Prop := panelCeilingUptoRow.holds Try.pinned (OpenSpec.upto panelCeilingSpec)

/-- 'clavecinlaw08.PanelBounds', WHERE WHAT IT READS IS OF BULK AT MOST 1048576: true; the input reads as it did. -/
def panelBoundsUptoRow : OpenClaim := { program := "ytfkpioibinpfhaa", sum := "26c1bacd3a9f697ecd5b22a796fd4b2dcbadf537a2eaa06c107ff9f5554c5e95", func := "clavecin/clavecinlaw08.PanelBounds", spec := "panelBounds", unfollowed := true, recurses := true, apart := false, narrowed := true }
def PanelBoundsUptoSaid : Prop := panelBoundsUptoRow.holds Try.pinned (OpenSpec.upto panelBoundsSpec)

/-- 'clavecinlaw08.PanelApart', WHERE WHAT IT READS IS OF BULK AT MOST 1048576: true; the input reads as it did. -/
def panelApartUptoRow : OpenClaim := { program := "ytfkpioibinpfhaa", sum := "26c1bacd3a9f697ecd5b22a796fd4b2dcbadf537a2eaa06c107ff9f5554c5e95", func := "clavecin/clavecinlaw08.PanelApart", spec := "panelApart", unfollowed := true, recurses := true, apart := false, narrowed := true }
def PanelApartUptoSaid : Prop := panelApartUptoRow.holds Try.pinned (OpenSpec.upto panelApartSpec)

/-- 'clavecinlaw08.PanelOptimal', WHERE WHAT IT READS IS OF BULK AT MOST 1048576: true; the input reads as it did. -/
def panelOptimalUptoRow : OpenClaim := { program := "ytfkpioibinpfhaa", sum := "26c1bacd3a9f697ecd5b22a796fd4b2dcbadf537a2eaa06c107ff9f5554c5e95", func := "clavecin/clavecinlaw08.PanelOptimal", spec := "panelOptimal", unfollowed := true, recurses := true, apart := false, narrowed := true }
def PanelOptimalUptoSaid : Prop := panelOptimalUptoRow.holds Try.pinned (OpenSpec.upto panelOptimalSpec)

/-- 'clavecinlaw08.PanelSheets', WHERE WHAT IT READS IS OF BULK AT MOST 1048576: true; the input reads as it did. -/
def panelSheetsUptoRow : OpenClaim := { program := "ytfkpioibinpfhaa", sum := "26c1bacd3a9f697ecd5b22a796fd4b2dcbadf537a2eaa06c107ff9f5554c5e95", func := "clavecin/clavecinlaw08.PanelSheets", spec := "panelSheets", unfollowed := true, recurses := true, apart := false, narrowed := true }
def PanelSheetsUptoSaid : Prop := panelSheetsUptoRow.holds Try.pinned (OpenSpec.upto panelSheetsSpec)

/-- 'clavecinlaw08.PanelReads', WHERE WHAT IT READS IS OF BULK AT MOST 1048576: true; the input reads as it did. -/
def panelReadsUptoRow : OpenClaim := { program := "ytfkpioibinpfhaa", sum := "26c1bacd3a9f697ecd5b22a796fd4b2dcbadf537a2eaa06c107ff9f5554c5e95", func := "clavecin/clavecinlaw08.PanelReads", spec := "panelReads", unfollowed := true, recurses := true, apart := false, narrowed := true }
def PanelReadsUptoSaid : Prop := panelReadsUptoRow.holds Try.pinned (OpenSpec.upto panelReadsSpec)

/-- 'clavecinlaw08.PanelArea', WHERE WHAT IT READS IS OF BULK AT MOST 1048576: true; the input reads as it did. -/
def panelAreaUptoRow : OpenClaim := { program := "ytfkpioibinpfhaa", sum := "26c1bacd3a9f697ecd5b22a796fd4b2dcbadf537a2eaa06c107ff9f5554c5e95", func := "clavecin/clavecinlaw08.PanelArea", spec := "panelArea", unfollowed := true, recurses := true, apart := false, narrowed := true }
def PanelAreaUptoSaid : Prop := panelAreaUptoRow.holds Try.pinned (OpenSpec.upto panelAreaSpec)

end Rows
end Go.Proofs.Ytfkpioibinpfhaa
