/-
  No cell of these rows narrows 'for every input' (looked for: loops, veiled, ifaces, maps, wideKeys, modest, calm, conditions, laid).
  DERIVED. THE GIVEN ROWS OF THIS SEAT. 13 by the template 'for every input the law returns true; each argument reads behind the call as it read before'; 0 by the template 'total and deterministic' (their statements: YtgmphiklkllnlaaTotals.lean).
  GIVEN WITH THE SEED: the statements are not yours to turn. If you find one false, say at which input.
  Laid BY PROGRAM, IN A SANDBOX (cutbox-rows.mjs): the forced cells as the released guide's own fill.sh prints them over the translation 552064d19fff8586… (all of the seat's roots in one cut). By AI agents, Wed Nov 11 2026. No macro, syntax, notation, axiom, sorry.
-/
import Derived.Test.YtgmphiklkllnlaaChecked
import GoSem.Claim
import GoSem.ClaimJoined
import GoSem.ClaimMapViews
import Derived.JoinedTies
import Derived.KernelRfl
namespace Go.Proofs.Ytgmphiklkllnlaa
/- THE CELL 'sum', in the pinned program and in every row, IS THE sha256 OF THE DUMP (.gsa) THAT YtgmphiklkllnlaaProg.lean LOADS. Nothing in Lean hashes anything: it is a label: what it is worth is what the hold of that sum in a sandbox is worth. -/
noncomputable def Try.pinned : Pinned := { name := "ytgmphiklkllnlaa", sum := "552064d19fff858643b18ccd1ab90ea985bee95b46e1f0ad4ac7b68d8eb1fa8b", checked := Try.checked }
namespace Rows
def none {H : Type} : Left H := { results := [], args := [] }

/-- 'clavecinlaw03.TemperBests': WHATEVER THE INPUT: true; the input reads as it did. -/
def temperBestsSpec : ChangeSpec := { name := "temperBests", fn := fun _ => fun
  | [d] => { results := [.lit (.bool true)], args := [d] }
  | _ => none }
def temperBestsRow : OpenClaim := { program := "ytgmphiklkllnlaa", sum := "552064d19fff858643b18ccd1ab90ea985bee95b46e1f0ad4ac7b68d8eb1fa8b", func := "clavecin/clavecinlaw03.TemperBests", spec := "temperBests", unfollowed := true, recurses := true, apart := false }
def TemperBestsSaid : Prop := temperBestsRow.holds Try.pinned (OpenSpec.ofChange temperBestsSpec)

/-- ITS FALSE NEIGHBOUR: 'it returns false'. Refute it at one input. -/
def temperBestsWrong : ChangeSpec := { name := "temperBests", fn := fun _ => fun
  | [d] => { results := [.lit (.bool false)], args := [d] }
  | _ => none }
def TemperBestsWrongFalsely : Prop := temperBestsRow.holds Try.pinned (OpenSpec.ofChange temperBestsWrong)

/-- 'clavecinlaw03.TemperBearings': WHATEVER THE INPUT: true; the input reads as it did. -/
def temperBearingsSpec : ChangeSpec := { name := "temperBearings", fn := fun _ => fun
  | [d1, d2] => { results := [.lit (.bool true)], args := [d1, d2] }
  | _ => none }
def temperBearingsRow : OpenClaim := { program := "ytgmphiklkllnlaa", sum := "552064d19fff858643b18ccd1ab90ea985bee95b46e1f0ad4ac7b68d8eb1fa8b", func := "clavecin/clavecinlaw03.TemperBearings", spec := "temperBearings", unfollowed := true, recurses := true, apart := false }
def TemperBearingsSaid : Prop := temperBearingsRow.holds Try.pinned (OpenSpec.ofChange temperBearingsSpec)

/-- ITS FALSE NEIGHBOUR: 'it returns false'. Refute it at one input. -/
def temperBearingsWrong : ChangeSpec := { name := "temperBearings", fn := fun _ => fun
  | [d1, d2] => { results := [.lit (.bool false)], args := [d1, d2] }
  | _ => none }
def TemperBearingsWrongFalsely : Prop := temperBearingsRow.holds Try.pinned (OpenSpec.ofChange temperBearingsWrong)

/-- 'clavecinlaw03.TemperMirrors': WHATEVER THE INPUT: true; the input reads as it did. -/
def temperMirrorsSpec : ChangeSpec := { name := "temperMirrors", fn := fun _ => fun
  | [d] => { results := [.lit (.bool true)], args := [d] }
  | _ => none }
def temperMirrorsRow : OpenClaim := { program := "ytgmphiklkllnlaa", sum := "552064d19fff858643b18ccd1ab90ea985bee95b46e1f0ad4ac7b68d8eb1fa8b", func := "clavecin/clavecinlaw03.TemperMirrors", spec := "temperMirrors", unfollowed := true, recurses := true, apart := false }
def TemperMirrorsSaid : Prop := temperMirrorsRow.holds Try.pinned (OpenSpec.ofChange temperMirrorsSpec)

/-- ITS FALSE NEIGHBOUR: 'it returns false'. Refute it at one input. -/
def temperMirrorsWrong : ChangeSpec := { name := "temperMirrors", fn := fun _ => fun
  | [d] => { results := [.lit (.bool false)], args := [d] }
  | _ => none }
def TemperMirrorsWrongFalsely : Prop := temperMirrorsRow.holds Try.pinned (OpenSpec.ofChange temperMirrorsWrong)

/-- 'clavecinlaw03.TemperTree': WHATEVER THE INPUT: true; the input reads as it did. -/
def temperTreeSpec : ChangeSpec := { name := "temperTree", fn := fun _ => fun
  | [d1, d2] => { results := [.lit (.bool true)], args := [d1, d2] }
  | _ => none }
def temperTreeRow : OpenClaim := { program := "ytgmphiklkllnlaa", sum := "552064d19fff858643b18ccd1ab90ea985bee95b46e1f0ad4ac7b68d8eb1fa8b", func := "clavecin/clavecinlaw03.TemperTree", spec := "temperTree", unfollowed := true, recurses := true, apart := false }
def TemperTreeSaid : Prop := temperTreeRow.holds Try.pinned (OpenSpec.ofChange temperTreeSpec)

/-- ITS FALSE NEIGHBOUR: 'it returns false'. Refute it at one input. -/
def temperTreeWrong : ChangeSpec := { name := "temperTree", fn := fun _ => fun
  | [d1, d2] => { results := [.lit (.bool false)], args := [d1, d2] }
  | _ => none }
def TemperTreeWrongFalsely : Prop := temperTreeRow.holds Try.pinned (OpenSpec.ofChange temperTreeWrong)

/-- 'clavecinlaw03.TemperPassages': WHATEVER THE INPUT: true; the input reads as it did. -/
def temperPassagesSpec : ChangeSpec := { name := "temperPassages", fn := fun _ => fun
  | [d1, d2, d3] => { results := [.lit (.bool true)], args := [d1, d2, d3] }
  | _ => none }
def temperPassagesRow : OpenClaim := { program := "ytgmphiklkllnlaa", sum := "552064d19fff858643b18ccd1ab90ea985bee95b46e1f0ad4ac7b68d8eb1fa8b", func := "clavecin/clavecinlaw03.TemperPassages", spec := "temperPassages", unfollowed := true, recurses := true, apart := false }
def TemperPassagesSaid : Prop := temperPassagesRow.holds Try.pinned (OpenSpec.ofChange temperPassagesSpec)

/-- ITS FALSE NEIGHBOUR: 'it returns false'. Refute it at one input. -/
def temperPassagesWrong : ChangeSpec := { name := "temperPassages", fn := fun _ => fun
  | [d1, d2, d3] => { results := [.lit (.bool false)], args := [d1, d2, d3] }
  | _ => none }
def TemperPassagesWrongFalsely : Prop := temperPassagesRow.holds Try.pinned (OpenSpec.ofChange temperPassagesWrong)

/-- 'clavecinlaw03.TemperNarrow': WHATEVER THE INPUT: true; the input reads as it did. -/
def temperNarrowSpec : ChangeSpec := { name := "temperNarrow", fn := fun _ => fun
  | [d1, d2, d3] => { results := [.lit (.bool true)], args := [d1, d2, d3] }
  | _ => none }
def temperNarrowRow : OpenClaim := { program := "ytgmphiklkllnlaa", sum := "552064d19fff858643b18ccd1ab90ea985bee95b46e1f0ad4ac7b68d8eb1fa8b", func := "clavecin/clavecinlaw03.TemperNarrow", spec := "temperNarrow", unfollowed := true, recurses := true, apart := false }
def TemperNarrowSaid : Prop := temperNarrowRow.holds Try.pinned (OpenSpec.ofChange temperNarrowSpec)

/-- ITS FALSE NEIGHBOUR: 'it returns false'. Refute it at one input. -/
def temperNarrowWrong : ChangeSpec := { name := "temperNarrow", fn := fun _ => fun
  | [d1, d2, d3] => { results := [.lit (.bool false)], args := [d1, d2, d3] }
  | _ => none }
def TemperNarrowWrongFalsely : Prop := temperNarrowRow.holds Try.pinned (OpenSpec.ofChange temperNarrowWrong)

/-- 'clavecinlaw03.TemperComma': WHATEVER THE INPUT: true; the input reads as it did. -/
def temperCommaSpec : ChangeSpec := { name := "temperComma", fn := fun _ => fun
  | [d1, d2, d3] => { results := [.lit (.bool true)], args := [d1, d2, d3] }
  | _ => none }
def temperCommaRow : OpenClaim := { program := "ytgmphiklkllnlaa", sum := "552064d19fff858643b18ccd1ab90ea985bee95b46e1f0ad4ac7b68d8eb1fa8b", func := "clavecin/clavecinlaw03.TemperComma", spec := "temperComma", unfollowed := true, recurses := true, apart := false }
def TemperCommaSaid : Prop := temperCommaRow.holds Try.pinned (OpenSpec.ofChange temperCommaSpec)

/-- ITS FALSE NEIGHBOUR: 'it returns false'. Refute it at one input. -/
def temperCommaWrong : ChangeSpec := { name := "temperComma", fn := fun _ => fun
  | [d1, d2, d3] => { results := [.lit (.bool false)], args := [d1, d2, d3] }
  | _ => none }
def TemperCommaWrongFalsely : Prop := temperCommaRow.holds Try.pinned (OpenSpec.ofChange temperCommaWrong)

/-- 'clavecinlaw03.TemperChecks': WHATEVER THE INPUT: true; the input reads as it did. -/
def temperChecksSpec : ChangeSpec := { name := "temperChecks", fn := fun _ => fun
  | [d1, d2] => { results := [.lit (.bool true)], args := [d1, d2] }
  | _ => none }
def temperChecksRow : OpenClaim := { program := "ytgmphiklkllnlaa", sum := "552064d19fff858643b18ccd1ab90ea985bee95b46e1f0ad4ac7b68d8eb1fa8b", func := "clavecin/clavecinlaw03.TemperChecks", spec := "temperChecks", unfollowed := true, recurses := true, apart := false }
def TemperChecksSaid : Prop := temperChecksRow.holds Try.pinned (OpenSpec.ofChange temperChecksSpec)

/-- ITS FALSE NEIGHBOUR: 'it returns false'. Refute it at one input. -/
def temperChecksWrong : ChangeSpec := { name := "temperChecks", fn := fun _ => fun
  | [d1, d2] => { results := [.lit (.bool false)], args := [d1, d2] }
  | _ => none }
def TemperChecksWrongFalsely : Prop := temperChecksRow.holds Try.pinned (OpenSpec.ofChange temperChecksWrong)

/-- 'clavecinlaw03.TemperOptimal': WHATEVER THE INPUT: true; the input reads as it did. -/
def temperOptimalSpec : ChangeSpec := { name := "temperOptimal", fn := fun _ => fun
  | [d1, d2] => { results := [.lit (.bool true)], args := [d1, d2] }
  | _ => none }
def temperOptimalRow : OpenClaim := { program := "ytgmphiklkllnlaa", sum := "552064d19fff858643b18ccd1ab90ea985bee95b46e1f0ad4ac7b68d8eb1fa8b", func := "clavecin/clavecinlaw03.TemperOptimal", spec := "temperOptimal", unfollowed := true, recurses := true, apart := false }
def TemperOptimalSaid : Prop := temperOptimalRow.holds Try.pinned (OpenSpec.ofChange temperOptimalSpec)

/-- ITS FALSE NEIGHBOUR: 'it returns false'. Refute it at one input. -/
def temperOptimalWrong : ChangeSpec := { name := "temperOptimal", fn := fun _ => fun
  | [d1, d2] => { results := [.lit (.bool false)], args := [d1, d2] }
  | _ => none }
def TemperOptimalWrongFalsely : Prop := temperOptimalRow.holds Try.pinned (OpenSpec.ofChange temperOptimalWrong)

/-- 'clavecinlaw03.TemperRotates': WHATEVER THE INPUT: true; the input reads as it did. -/
def temperRotatesSpec : ChangeSpec := { name := "temperRotates", fn := fun _ => fun
  | [d1, d2, d3] => { results := [.lit (.bool true)], args := [d1, d2, d3] }
  | _ => none }
def temperRotatesRow : OpenClaim := { program := "ytgmphiklkllnlaa", sum := "552064d19fff858643b18ccd1ab90ea985bee95b46e1f0ad4ac7b68d8eb1fa8b", func := "clavecin/clavecinlaw03.TemperRotates", spec := "temperRotates", unfollowed := true, recurses := true, apart := false }
def TemperRotatesSaid : Prop := temperRotatesRow.holds Try.pinned (OpenSpec.ofChange temperRotatesSpec)

/-- ITS FALSE NEIGHBOUR: 'it returns false'. Refute it at one input. -/
def temperRotatesWrong : ChangeSpec := { name := "temperRotates", fn := fun _ => fun
  | [d1, d2, d3] => { results := [.lit (.bool false)], args := [d1, d2, d3] }
  | _ => none }
def TemperRotatesWrongFalsely : Prop := temperRotatesRow.holds Try.pinned (OpenSpec.ofChange temperRotatesWrong)

/-- 'clavecinlaw03.TemperBetters': WHATEVER THE INPUT: true; the input reads as it did. -/
def temperBettersSpec : ChangeSpec := { name := "temperBetters", fn := fun _ => fun
  | [d1, d2] => { results := [.lit (.bool true)], args := [d1, d2] }
  | _ => none }
def temperBettersRow : OpenClaim := { program := "ytgmphiklkllnlaa", sum := "552064d19fff858643b18ccd1ab90ea985bee95b46e1f0ad4ac7b68d8eb1fa8b", func := "clavecin/clavecinlaw03.TemperBetters", spec := "temperBetters", unfollowed := true, recurses := true, apart := false }
def TemperBettersSaid : Prop := temperBettersRow.holds Try.pinned (OpenSpec.ofChange temperBettersSpec)

/-- ITS FALSE NEIGHBOUR: 'it returns false'. Refute it at one input. -/
def temperBettersWrong : ChangeSpec := { name := "temperBetters", fn := fun _ => fun
  | [d1, d2] => { results := [.lit (.bool false)], args := [d1, d2] }
  | _ => none }
def TemperBettersWrongFalsely : Prop := temperBettersRow.holds Try.pinned (OpenSpec.ofChange temperBettersWrong)

/-- 'clavecinlaw03.TemperLocal': WHATEVER THE INPUT: true; the input reads as it did. -/
def temperLocalSpec : ChangeSpec := { name := "temperLocal", fn := fun _ => fun
  | [d] => { results := [.lit (.bool true)], args := [d] }
  | _ => none }
def temperLocalRow : OpenClaim := { program := "ytgmphiklkllnlaa", sum := "552064d19fff858643b18ccd1ab90ea985bee95b46e1f0ad4ac7b68d8eb1fa8b", func := "clavecin/clavecinlaw03.TemperLocal", spec := "temperLocal", unfollowed := true, recurses := true, apart := false }
def TemperLocalSaid : Prop := temperLocalRow.holds Try.pinned (OpenSpec.ofChange temperLocalSpec)

/-- ITS FALSE NEIGHBOUR: 'it returns false'. Refute it at one input. -/
def temperLocalWrong : ChangeSpec := { name := "temperLocal", fn := fun _ => fun
  | [d] => { results := [.lit (.bool false)], args := [d] }
  | _ => none }
def TemperLocalWrongFalsely : Prop := temperLocalRow.holds Try.pinned (OpenSpec.ofChange temperLocalWrong)

/-- 'clavecinlaw03.TemperWalks': WHATEVER THE INPUT: true; the input reads as it did. -/
def temperWalksSpec : ChangeSpec := { name := "temperWalks", fn := fun _ => fun
  | [d1, d2] => { results := [.lit (.bool true)], args := [d1, d2] }
  | _ => none }
def temperWalksRow : OpenClaim := { program := "ytgmphiklkllnlaa", sum := "552064d19fff858643b18ccd1ab90ea985bee95b46e1f0ad4ac7b68d8eb1fa8b", func := "clavecin/clavecinlaw03.TemperWalks", spec := "temperWalks", unfollowed := true, recurses := true, apart := false }
def TemperWalksSaid : Prop := temperWalksRow.holds Try.pinned (OpenSpec.ofChange temperWalksSpec)

/-- ITS FALSE NEIGHBOUR: 'it returns false'. Refute it at one input. -/
def temperWalksWrong : ChangeSpec := { name := "temperWalks", fn := fun _ => fun
  | [d1, d2] => { results := [.lit (.bool false)], args := [d1, d2] }
  | _ => none }
def TemperWalksWrongFalsely : Prop := temperWalksRow.holds Try.pinned (OpenSpec.ofChange temperWalksWrong)

/- THE SECOND FORM. 'bulk': how many values and letters a reading holds, each counted each time it is reached (what is shared counts as often as it is met; a slice's spare places count too). A statement '..UptoSaid' is the law's where the arguments, and the package variables that the reading takes, are together of bulk at most 1048576: NARROWER than '..Said'. Prove '..Said' where nothing that the law and all that it calls make is longer than what came in: it says more and counts as full. Else prove '..UptoSaid'. A law counts once. -/
mutual
def uptoBulk {H : Type} : DataW H → Nat
  | .lit (.string bytes) => bytes.length + 1
  | .lit _ => 1
  | .nil => 1
  | .ptr d => uptoBulk d + 1
  | .slice elems spare => uptoBulkAll elems + uptoBulkAll spare + 1
  | .agg parts => uptoBulkAll parts + 1
  | .iface _ d => uptoBulk d + 1
  | .map entries => uptoBulkEntries entries + 1
  | .held _ => 1
def uptoBulkAll {H : Type} : List (DataW H) → Nat
  | [] => 0
  | d :: r => uptoBulk d + uptoBulkAll r
def uptoBulkEntries {H : Type} : List (Lit × DataW H) → Nat
  | [] => 0
  | x :: r => uptoBulkEntry x + uptoBulkEntries r
def uptoBulkEntry {H : Type} : Lit × DataW H → Nat
  | (.string bytes, d) => bytes.length + uptoBulk d + 1
  | (_, d) => uptoBulk d + 1
 end
def uptoSmall : (H : Type) → List (DataW H) → Bool := fun _ ds => decide (uptoBulkAll ds ≤ 1048576)
def OpenSpec.upto (s : _root_.Go.ChangeSpec) : _root_.Go.OpenSpec := { _root_.Go.OpenSpec.ofChange s with cond := some uptoSmall }

/-- 'clavecinlaw03.TemperBests', WHERE WHAT IT READS IS OF BULK AT MOST 1048576: true; the input reads as it did. -/
def temperBestsUptoRow : OpenClaim := { program := "ytgmphiklkllnlaa", sum := "552064d19fff858643b18ccd1ab90ea985bee95b46e1f0ad4ac7b68d8eb1fa8b", func := "clavecin/clavecinlaw03.TemperBests", spec := "temperBests", unfollowed := true, recurses := true, apart := false, narrowed := true }
def TemperBestsUptoSaid : Prop := temperBestsUptoRow.holds Try.pinned (OpenSpec.upto temperBestsSpec)

/-- 'clavecinlaw03.TemperBearings', WHERE WHAT IT READS IS OF BULK AT MOST 1048576: true; the input reads as it did. -/
def temperBearingsUptoRow : OpenClaim := { program := "ytgmphiklkllnlaa", sum := "552064d19fff858643b18ccd1ab90ea985bee95b46e1f0ad4ac7b68d8eb1fa8b", func := "clavecin/clavecinlaw03.TemperBearings", spec := "temperBearings", unfollowed := true, recurses := true, apart := false, narrowed := true }
def TemperBearingsUptoSaid : Prop := temperBearingsUptoRow.holds Try.pinned (OpenSpec.upto temperBearingsSpec)

/-- 'clavecinlaw03.TemperMirrors', WHERE WHAT IT READS IS OF BULK AT MOST 1048576: true; the input reads as it did. -/
def temperMirrorsUptoRow : OpenClaim := { program := "ytgmphiklkllnlaa", sum := "552064d19fff858643b18ccd1ab90ea985bee95b46e1f0ad4ac7b68d8eb1fa8b", func := "clavecin/clavecinlaw03.TemperMirrors", spec := "temperMirrors", unfollowed := true, recurses := true, apart := false, narrowed := true }
def TemperMirrorsUptoSaid : Prop := temperMirrorsUptoRow.holds Try.pinned (OpenSpec.upto temperMirrorsSpec)

/-- 'clavecinlaw03.TemperTree', WHERE WHAT IT READS IS OF BULK AT MOST 1048576: true; the input reads as it did. -/
def temperTreeUptoRow : OpenClaim := { program := "ytgmphiklkllnlaa", sum := "552064d19fff858643b18ccd1ab90ea985bee95b46e1f0ad4ac7b68d8eb1fa8b", func := "clavecin/clavecinlaw03.TemperTree", spec := "temperTree", unfollowed := true, recurses := true, apart := false, narrowed := true }
def TemperTreeUptoSaid : Prop := temperTreeUptoRow.holds Try.pinned (OpenSpec.upto temperTreeSpec)

/-- 'clavecinlaw03.TemperPassages', WHERE WHAT IT READS IS OF BULK AT MOST 1048576: true; the input reads as it did. -/
def temperPassagesUptoRow : OpenClaim := { program := "ytgmphiklkllnlaa", sum := "552064d19fff858643b18ccd1ab90ea985bee95b46e1f0ad4ac7b68d8eb1fa8b", func := "clavecin/clavecinlaw03.TemperPassages", spec := "temperPassages", unfollowed := true, recurses := true, apart := false, narrowed := true }
def TemperPassagesUptoSaid : Prop := temperPassagesUptoRow.holds Try.pinned (OpenSpec.upto temperPassagesSpec)

/-- 'clavecinlaw03.TemperNarrow', WHERE WHAT IT READS IS OF BULK AT MOST 1048576: true; the input reads as it did. -/
def temperNarrowUptoRow : OpenClaim := { program := "ytgmphiklkllnlaa", sum := "552064d19fff858643b18ccd1ab90ea985bee95b46e1f0ad4ac7b68d8eb1fa8b", func := "clavecin/clavecinlaw03.TemperNarrow", spec := "temperNarrow", unfollowed := true, recurses := true, apart := false, narrowed := true }
def TemperNarrowUptoSaid : Prop := temperNarrowUptoRow.holds Try.pinned (OpenSpec.upto temperNarrowSpec)

/-- 'clavecinlaw03.TemperComma', WHERE WHAT IT READS IS OF BULK AT MOST 1048576: true; the input reads as it did. -/
def temperCommaUptoRow : OpenClaim := { program := "ytgmphiklkllnlaa", sum := "552064d19fff858643b18ccd1ab90ea985bee95b46e1f0ad4ac7b68d8eb1fa8b", func := "clavecin/clavecinlaw03.TemperComma", spec := "temperComma", unfollowed := true, recurses := true, apart := false, narrowed := true }
def TemperCommaUptoSaid : Prop := temperCommaUptoRow.holds Try.pinned (OpenSpec.upto temperCommaSpec)

/-- 'clavecinlaw03.TemperChecks', WHERE WHAT IT READS IS OF BULK AT MOST 1048576: true; the input reads as it did. -/
def temperChecksUptoRow : OpenClaim := { program := "ytgmphiklkllnlaa", sum := "552064d19fff858643b18ccd1ab90ea985bee95b46e1f0ad4ac7b68d8eb1fa8b", func := "clavecin/clavecinlaw03.TemperChecks", spec := "temperChecks", unfollowed := true, recurses := true, apart := false, narrowed := true }
def TemperChecksUptoSaid : Prop := temperChecksUptoRow.holds Try.pinned (OpenSpec.upto temperChecksSpec)

/-- 'clavecinlaw03.TemperOptimal', WHERE WHAT IT READS IS OF BULK AT MOST 1048576: true; the input reads as it did. -/
def temperOptimalUptoRow : OpenClaim := { program := "ytgmphiklkllnlaa", sum := "552064d19fff858643b18ccd1ab90ea985bee95b46e1f0ad4ac7b68d8eb1fa8b", func := "clavecin/clavecinlaw03.TemperOptimal", spec := "temperOptimal", unfollowed := true, recurses := true, apart := false, narrowed := true }
def TemperOptimalUptoSaid : Prop := temperOptimalUptoRow.holds Try.pinned (OpenSpec.upto temperOptimalSpec)

/-- 'clavecinlaw03.TemperRotates', WHERE WHAT IT READS IS OF BULK AT MOST 1048576: true; the input reads as it did. -/
def temperRotatesUptoRow : OpenClaim := { program := "ytgmphiklkllnlaa", sum := "552064d19fff858643b18ccd1ab90ea985bee95b46e1f0ad4ac7b68d8eb1fa8b", func := "clavecin/clavecinlaw03.TemperRotates", spec := "temperRotates", unfollowed := true, recurses := true, apart := false, narrowed := true }
def TemperRotatesUptoSaid : Prop := temperRotatesUptoRow.holds Try.pinned (OpenSpec.upto temperRotatesSpec)

/-- 'clavecinlaw03.TemperBetters', WHERE WHAT IT READS IS OF BULK AT MOST 1048576: true; the input reads as it did. -/
def temperBettersUptoRow : OpenClaim := { program := "ytgmphiklkllnlaa", sum := "552064d19fff858643b18ccd1ab90ea985bee95b46e1f0ad4ac7b68d8eb1fa8b", func := "clavecin/clavecinlaw03.TemperBetters", spec := "temperBetters", unfollowed := true, recurses := true, apart := false, narrowed := true }
def TemperBettersUptoSaid : Prop := temperBettersUptoRow.holds Try.pinned (OpenSpec.upto temperBettersSpec)

/-- 'clavecinlaw03.TemperLocal', WHERE WHAT IT READS IS OF BULK AT MOST 1048576: true; the input reads as it did. -/
def temperLocalUptoRow : OpenClaim := { program := "ytgmphiklkllnlaa", sum := "552064d19fff858643b18ccd1ab90ea985bee95b46e1f0ad4ac7b68d8eb1fa8b", func := "clavecin/clavecinlaw03.TemperLocal", spec := "temperLocal", unfollowed := true, recurses := true, apart := false, narrowed := true }
def TemperLocalUptoSaid : Prop := temperLocalUptoRow.holds Try.pinned (OpenSpec.upto temperLocalSpec)

/-- 'clavecinlaw03.TemperWalks', WHERE WHAT IT READS IS OF BULK AT MOST 1048576: true; the input reads as it did. -/
def temperWalksUptoRow : OpenClaim := { program := "ytgmphiklkllnlaa", sum := "552064d19fff858643b18ccd1ab90ea985bee95b46e1f0ad4ac7b68d8eb1fa8b", func := "clavecin/clavecinlaw03.TemperWalks", spec := "temperWalks", unfollowed := true, recurses := true, apart := false, narrowed := true }
def TemperWalksUptoSaid : Prop := temperWalksUptoRow.holds Try.pinned (OpenSpec.upto temperWalksSpec)

end Rows
end Go.Proofs.Ytgmphiklkllnlaa
