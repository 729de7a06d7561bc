/-
  No cell of these rows narrows 'for every input' (looked for: loops, veiled, ifaces, maps, wideKeys, modest, calm, conditions, laid).
  DERIVED. THE GIVEN ROWS OF THIS SEAT. 5 by the template 'for every input the law returns true; each argument reads behind the call as it read before'; 0 by the template 'total and deterministic' (their statements: YtojbldoekalbnaaGreatTotals.lean).
  GIVEN WITH THE SEED: the statements are not yours to turn. If you find one false, say at which input.
  Laid BY PROGRAM, IN A SANDBOX (cutbox-rows.mjs): the forced cells as the released guide's own fill.sh prints them over the translation fb121685a0fd8770… (all of the seat's roots in one cut). By AI agents, Wed Nov 11 2026. No macro, syntax, notation, axiom, sorry.
-/
import Derived.Test.YtojbldoekalbnaaGreatChecked
import GoSem.Claim
import GoSem.ClaimJoined
import GoSem.ClaimMapViews
import Derived.JoinedTies
import Derived.KernelRfl
namespace Go.Proofs.YtojbldoekalbnaaGreat
/- THE CELL 'sum', in the pinned program and in every row, IS THE sha256 OF THE DUMP (.gsa) THAT YtojbldoekalbnaaGreatProg.lean LOADS. Nothing in Lean hashes anything: it is a label: what it is worth is what the hold of that sum in a sandbox is worth. -/
noncomputable def Tryz.pinned : Pinned := { name := "ytojbldoekalbnaagreat", sum := "fb121685a0fd8770a37135afb895ebbb6ad557b31d7024b2b4d1efb653df6d7e", checked := Tryz.checked }
namespace Rows
def none {H : Type} : Left H := { results := [], args := [] }

/-- 'clavecinlaw03.TemperFolded': WHATEVER THE INPUT: true; the input reads as it did. -/
def temperFoldedSpec : ChangeSpec := { name := "temperFolded", fn := fun _ => fun
  | [d1, d2] => { results := [.lit (.bool true)], args := [d1, d2] }
  | _ => none }
def temperFoldedRow : OpenClaim := { program := "ytojbldoekalbnaagreat", sum := "fb121685a0fd8770a37135afb895ebbb6ad557b31d7024b2b4d1efb653df6d7e", func := "clavecin/clavecinlaw03.TemperFolded", spec := "temperFolded", unfollowed := true, recurses := true, apart := false }
def TemperFoldedSaid : Prop := temperFoldedRow.holds Tryz.pinned (OpenSpec.ofChange temperFoldedSpec)

/-- ITS FALSE NEIGHBOUR: 'it returns false'. Refute it at one input. -/
def temperFoldedWrong : ChangeSpec := { name := "temperFolded", fn := fun _ => fun
  | [d1, d2] => { results := [.lit (.bool false)], args := [d1, d2] }
  | _ => none }
def TemperFoldedWrongFalsely : Prop := temperFoldedRow.holds Tryz.pinned (OpenSpec.ofChange temperFoldedWrong)

/-- 'clavecinlaw03.TemperTones': WHATEVER THE INPUT: true; the input reads as it did. -/
def temperTonesSpec : ChangeSpec := { name := "temperTones", fn := fun _ => fun
  | [d1, d2] => { results := [.lit (.bool true)], args := [d1, d2] }
  | _ => none }
def temperTonesRow : OpenClaim := { program := "ytojbldoekalbnaagreat", sum := "fb121685a0fd8770a37135afb895ebbb6ad557b31d7024b2b4d1efb653df6d7e", func := "clavecin/clavecinlaw03.TemperTones", spec := "temperTones", unfollowed := true, recurses := true, apart := false }
def TemperTonesSaid : Prop := temperTonesRow.holds Tryz.pinned (OpenSpec.ofChange temperTonesSpec)

/-- ITS FALSE NEIGHBOUR: 'it returns false'. Refute it at one input. -/
def temperTonesWrong : ChangeSpec := { name := "temperTones", fn := fun _ => fun
  | [d1, d2] => { results := [.lit (.bool false)], args := [d1, d2] }
  | _ => none }
def TemperTonesWrongFalsely : Prop := temperTonesRow.holds Tryz.pinned (OpenSpec.ofChange temperTonesWrong)

/-- 'clavecinlaw03.TemperScales': WHATEVER THE INPUT: true; the input reads as it did. -/
def temperScalesSpec : ChangeSpec := { name := "temperScales", fn := fun _ => fun
  | [d1, d2, d3] => { results := [.lit (.bool true)], args := [d1, d2, d3] }
  | _ => none }
def temperScalesRow : OpenClaim := { program := "ytojbldoekalbnaagreat", sum := "fb121685a0fd8770a37135afb895ebbb6ad557b31d7024b2b4d1efb653df6d7e", func := "clavecin/clavecinlaw03.TemperScales", spec := "temperScales", unfollowed := true, recurses := true, apart := false }
def TemperScalesSaid : Prop := temperScalesRow.holds Tryz.pinned (OpenSpec.ofChange temperScalesSpec)

/-- ITS FALSE NEIGHBOUR: 'it returns false'. Refute it at one input. -/
def temperScalesWrong : ChangeSpec := { name := "temperScales", fn := fun _ => fun
  | [d1, d2, d3] => { results := [.lit (.bool false)], args := [d1, d2, d3] }
  | _ => none }
def TemperScalesWrongFalsely : Prop := temperScalesRow.holds Tryz.pinned (OpenSpec.ofChange temperScalesWrong)

/-- 'clavecinlaw03.TemperRises': WHATEVER THE INPUT: true; the input reads as it did. -/
def temperRisesSpec : ChangeSpec := { name := "temperRises", fn := fun _ => fun
  | [d1, d2, d3] => { results := [.lit (.bool true)], args := [d1, d2, d3] }
  | _ => none }
def temperRisesRow : OpenClaim := { program := "ytojbldoekalbnaagreat", sum := "fb121685a0fd8770a37135afb895ebbb6ad557b31d7024b2b4d1efb653df6d7e", func := "clavecin/clavecinlaw03.TemperRises", spec := "temperRises", unfollowed := true, recurses := true, apart := false }
def TemperRisesSaid : Prop := temperRisesRow.holds Tryz.pinned (OpenSpec.ofChange temperRisesSpec)

/-- ITS FALSE NEIGHBOUR: 'it returns false'. Refute it at one input. -/
def temperRisesWrong : ChangeSpec := { name := "temperRises", fn := fun _ => fun
  | [d1, d2, d3] => { results := [.lit (.bool false)], args := [d1, d2, d3] }
  | _ => none }
def TemperRisesWrongFalsely : Prop := temperRisesRow.holds Tryz.pinned (OpenSpec.ofChange temperRisesWrong)

/-- 'clavecinlaw03.TemperBeats': WHATEVER THE INPUT: true; the input reads as it did. -/
def temperBeatsSpec : ChangeSpec := { name := "temperBeats", fn := fun _ => fun
  | [d1, d2, d3] => { results := [.lit (.bool true)], args := [d1, d2, d3] }
  | _ => none }
def temperBeatsRow : OpenClaim := { program := "ytojbldoekalbnaagreat", sum := "fb121685a0fd8770a37135afb895ebbb6ad557b31d7024b2b4d1efb653df6d7e", func := "clavecin/clavecinlaw03.TemperBeats", spec := "temperBeats", unfollowed := true, recurses := true, apart := false }
def TemperBeatsSaid : Prop := temperBeatsRow.holds Tryz.pinned (OpenSpec.ofChange temperBeatsSpec)

/-- ITS FALSE NEIGHBOUR: 'it returns false'. Refute it at one input. -/
def temperBeatsWrong : ChangeSpec := { name := "temperBeats", fn := fun _ => fun
  | [d1, d2, d3] => { results := [.lit (.bool false)], args := [d1, d2, d3] }
  | _ => none }
def TemperBeatsWrongFalsely : Prop := temperBeatsRow.holds Tryz.pinned (OpenSpec.ofChange temperBeatsWrong)

/- THE SECOND FORM. 'bulk': how many values and letters a reading holds, each counted each time it is reached (what is shared counts as often as it is met; a slice's spare places count too). A statement '..UptoSaid' is the law's where the arguments, and the package variables that the reading takes, are together of bulk at most 1048576: NARROWER than '..Said'. Prove '..Said' where nothing that the law and all that it calls make is longer than what came in: it says more and counts as full. Else prove '..UptoSaid'. A law counts once. -/
mutual
def uptoBulk {H : Type} : DataW H → Nat
  | .lit (.string bytes) => bytes.length + 1
  | .lit _ => 1
  | .nil => 1
  | .ptr d => uptoBulk d + 1
  | .slice elems spare => uptoBulkAll elems + uptoBulkAll spare + 1
  | .agg parts => uptoBulkAll parts + 1
  | .iface _ d => uptoBulk d + 1
  | .map entries => uptoBulkEntries entries + 1
  | .held _ => 1
def uptoBulkAll {H : Type} : List (DataW H) → Nat
  | [] => 0
  | d :: r => uptoBulk d + uptoBulkAll r
def uptoBulkEntries {H : Type} : List (Lit × DataW H) → Nat
  | [] => 0
  | x :: r => uptoBulkEntry x + uptoBulkEntries r
def uptoBulkEntry {H : Type} : Lit × DataW H → Nat
  | (.string bytes, d) => bytes.length + uptoBulk d + 1
  | (_, d) => uptoBulk d + 1
 end
def uptoSmall : (H : Type) → List (DataW H) → Bool := fun _ ds => decide (uptoBulkAll ds ≤ 1048576)
def OpenSpec.upto (s : _root_.Go.ChangeSpec) : _root_.Go.OpenSpec := { _root_.Go.OpenSpec.ofChange s with cond := some uptoSmall }

/-- 'clavecinlaw03.TemperFolded', WHERE WHAT IT READS IS OF BULK AT MOST 1048576: true; the input reads as it did. -/
def temperFoldedUptoRow : OpenClaim := { program := "ytojbldoekalbnaagreat", sum := "fb121685a0fd8770a37135afb895ebbb6ad557b31d7024b2b4d1efb653df6d7e", func := "clavecin/clavecinlaw03.TemperFolded", spec := "temperFolded", unfollowed := true, recurses := true, apart := false, narrowed := true }
def TemperFoldedUptoSaid : Prop := temperFoldedUptoRow.holds Tryz.pinned (OpenSpec.upto temperFoldedSpec)

/-- 'clavecinlaw03.TemperTones', WHERE WHAT IT READS IS OF BULK AT MOST 1048576: true; the input reads as it did. -/
def temperTonesUptoRow : OpenClaim := { program := "ytojbldoekalbnaagreat", sum := "fb121685a0fd8770a37135afb895ebbb6ad557b31d7024b2b4d1efb653df6d7e", func := "clavecin/clavecinlaw03.TemperTones", spec := "temperTones", unfollowed := true, recurses := true, apart := false, narrowed := true }
def TemperTonesUptoSaid : Prop := temperTonesUptoRow.holds Tryz.pinned (OpenSpec.upto temperTonesSpec)

/-- 'clavecinlaw03.TemperScales', WHERE WHAT IT READS IS OF BULK AT MOST 1048576: true; the input reads as it did. -/
def temperScalesUptoRow : OpenClaim := { program := "ytojbldoekalbnaagreat", sum := "fb121685a0fd8770a37135afb895ebbb6ad557b31d7024b2b4d1efb653df6d7e", func := "clavecin/clavecinlaw03.TemperScales", spec := "temperScales", unfollowed := true, recurses := true, apart := false, narrowed := true }
def TemperScalesUptoSaid : Prop := temperScalesUptoRow.holds Tryz.pinned (OpenSpec.upto temperScalesSpec)

/-- 'clavecinlaw03.TemperRises', WHERE WHAT IT READS IS OF BULK AT MOST 1048576: true; the input reads as it did. -/
def temperRisesUptoRow : OpenClaim := { program := "ytojbldoekalbnaagreat", sum := "fb121685a0fd8770a37135afb895ebbb6ad557b31d7024b2b4d1efb653df6d7e", func := "clavecin/clavecinlaw03.TemperRises", spec := "temperRises", unfollowed := true, recurses := true, apart := false, narrowed := true }
def TemperRisesUptoSaid : Prop := temperRisesUptoRow.holds Tryz.pinned (OpenSpec.upto temperRisesSpec)

/-- 'clavecinlaw03.TemperBeats', WHERE WHAT IT READS IS OF BULK AT MOST 1048576: true; the input reads as it did. -/
def temperBeatsUptoRow : OpenClaim := { program := "ytojbldoekalbnaagreat", sum := "fb121685a0fd8770a37135afb895ebbb6ad557b31d7024b2b4d1efb653df6d7e", func := "clavecin/clavecinlaw03.TemperBeats", spec := "temperBeats", unfollowed := true, recurses := true, apart := false, narrowed := true }
def TemperBeatsUptoSaid : Prop := temperBeatsUptoRow.holds Tryz.pinned (OpenSpec.upto temperBeatsSpec)

end Rows
end Go.Proofs.YtojbldoekalbnaaGreat
