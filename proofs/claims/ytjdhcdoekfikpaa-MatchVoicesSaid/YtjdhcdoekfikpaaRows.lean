/-
  No cell of these rows narrows 'for every input' (looked for: loops, veiled, ifaces, maps, wideKeys, modest, calm, conditions, laid).
  DERIVED. THE GIVEN ROWS OF THIS SEAT. 17 by the template 'for every input the law returns true; each argument reads behind the call as it read before'; 0 by the template 'total and deterministic' (their statements: YtjdhcdoekfikpaaTotals.lean).
  GIVEN WITH THE SEED: the statements are not yours to turn. If you find one false, say at which input.
  Laid BY PROGRAM, IN A SANDBOX (cutbox-rows.mjs): the forced cells as the released guide's own fill.sh prints them over the translation 69bf43265adabbe2… (all of the seat's roots in one cut). By AI agents, Wed Nov 11 2026. No macro, syntax, notation, axiom, sorry.
-/
import Derived.Test.YtjdhcdoekfikpaaChecked
import GoSem.Claim
import GoSem.ClaimJoined
import GoSem.ClaimMapViews
import Derived.JoinedTies
import Derived.KernelRfl
namespace Go.Proofs.Ytjdhcdoekfikpaa
/- THE CELL 'sum', in the pinned program and in every row, IS THE sha256 OF THE DUMP (.gsa) THAT YtjdhcdoekfikpaaProg.lean LOADS. Nothing in Lean hashes anything: it is a label: what it is worth is what the hold of that sum in a sandbox is worth. -/
noncomputable def Try.pinned : Pinned := { name := "ytjdhcdoekfikpaa", sum := "69bf43265adabbe25c83ec40e2ed1c53217c576725436934da6924f10ce6b6d7", checked := Try.checked }
namespace Rows
def none {H : Type} : Left H := { results := [], args := [] }

/-- 'clavecinlaw05.MatchBests': WHATEVER THE INPUT: true; the input reads as it did. -/
def matchBestsSpec : ChangeSpec := { name := "matchBests", fn := fun _ => fun
  | [d] => { results := [.lit (.bool true)], args := [d] }
  | _ => none }
def matchBestsRow : OpenClaim := { program := "ytjdhcdoekfikpaa", sum := "69bf43265adabbe25c83ec40e2ed1c53217c576725436934da6924f10ce6b6d7", func := "clavecin/clavecinlaw05.MatchBests", spec := "matchBests", unfollowed := true, recurses := true, apart := false }
def MatchBestsSaid : Prop := matchBestsRow.holds Try.pinned (OpenSpec.ofChange matchBestsSpec)

/-- ITS FALSE NEIGHBOUR: 'it returns false'. Refute it at one input. -/
def matchBestsWrong : ChangeSpec := { name := "matchBests", fn := fun _ => fun
  | [d] => { results := [.lit (.bool false)], args := [d] }
  | _ => none }
def MatchBestsWrongFalsely : Prop := matchBestsRow.holds Try.pinned (OpenSpec.ofChange matchBestsWrong)

/-- 'clavecinlaw05.MatchHalls': WHATEVER THE INPUT: true; the input reads as it did. -/
def matchHallsSpec : ChangeSpec := { name := "matchHalls", fn := fun _ => fun
  | [d] => { results := [.lit (.bool true)], args := [d] }
  | _ => none }
def matchHallsRow : OpenClaim := { program := "ytjdhcdoekfikpaa", sum := "69bf43265adabbe25c83ec40e2ed1c53217c576725436934da6924f10ce6b6d7", func := "clavecin/clavecinlaw05.MatchHalls", spec := "matchHalls", unfollowed := true, recurses := true, apart := false }
def MatchHallsSaid : Prop := matchHallsRow.holds Try.pinned (OpenSpec.ofChange matchHallsSpec)

/-- ITS FALSE NEIGHBOUR: 'it returns false'. Refute it at one input. -/
def matchHallsWrong : ChangeSpec := { name := "matchHalls", fn := fun _ => fun
  | [d] => { results := [.lit (.bool false)], args := [d] }
  | _ => none }
def MatchHallsWrongFalsely : Prop := matchHallsRow.holds Try.pinned (OpenSpec.ofChange matchHallsWrong)

/-- 'clavecinlaw05.MatchLeast': WHATEVER THE INPUT: true; the input reads as it did. -/
def matchLeastSpec : ChangeSpec := { name := "matchLeast", fn := fun _ => fun
  | [d1, d2] => { results := [.lit (.bool true)], args := [d1, d2] }
  | _ => none }
def matchLeastRow : OpenClaim := { program := "ytjdhcdoekfikpaa", sum := "69bf43265adabbe25c83ec40e2ed1c53217c576725436934da6924f10ce6b6d7", func := "clavecin/clavecinlaw05.MatchLeast", spec := "matchLeast", unfollowed := true, recurses := true, apart := false }
def MatchLeastSaid : Prop := matchLeastRow.holds Try.pinned (OpenSpec.ofChange matchLeastSpec)

/-- ITS FALSE NEIGHBOUR: 'it returns false'. Refute it at one input. -/
def matchLeastWrong : ChangeSpec := { name := "matchLeast", fn := fun _ => fun
  | [d1, d2] => { results := [.lit (.bool false)], args := [d1, d2] }
  | _ => none }
def MatchLeastWrongFalsely : Prop := matchLeastRow.holds Try.pinned (OpenSpec.ofChange matchLeastWrong)

/-- 'clavecinlaw05.MatchForced': WHATEVER THE INPUT: true; the input reads as it did. -/
def matchForcedSpec : ChangeSpec := { name := "matchForced", fn := fun _ => fun
  | [d1, d2] => { results := [.lit (.bool true)], args := [d1, d2] }
  | _ => none }
def matchForcedRow : OpenClaim := { program := "ytjdhcdoekfikpaa", sum := "69bf43265adabbe25c83ec40e2ed1c53217c576725436934da6924f10ce6b6d7", func := "clavecin/clavecinlaw05.MatchForced", spec := "matchForced", unfollowed := true, recurses := true, apart := false }
def MatchForcedSaid : Prop := matchForcedRow.holds Try.pinned (OpenSpec.ofChange matchForcedSpec)

/-- ITS FALSE NEIGHBOUR: 'it returns false'. Refute it at one input. -/
def matchForcedWrong : ChangeSpec := { name := "matchForced", fn := fun _ => fun
  | [d1, d2] => { results := [.lit (.bool false)], args := [d1, d2] }
  | _ => none }
def MatchForcedWrongFalsely : Prop := matchForcedRow.holds Try.pinned (OpenSpec.ofChange matchForcedWrong)

/-- 'clavecinlaw05.MatchColumns': WHATEVER THE INPUT: true; the input reads as it did. -/
def matchColumnsSpec : ChangeSpec := { name := "matchColumns", fn := fun _ => fun
  | [d1, d2, d3] => { results := [.lit (.bool true)], args := [d1, d2, d3] }
  | _ => none }
def matchColumnsRow : OpenClaim := { program := "ytjdhcdoekfikpaa", sum := "69bf43265adabbe25c83ec40e2ed1c53217c576725436934da6924f10ce6b6d7", func := "clavecin/clavecinlaw05.MatchColumns", spec := "matchColumns", unfollowed := true, recurses := true, apart := false }
def MatchColumnsSaid : Prop := matchColumnsRow.holds Try.pinned (OpenSpec.ofChange matchColumnsSpec)

/-- ITS FALSE NEIGHBOUR: 'it returns false'. Refute it at one input. -/
def matchColumnsWrong : ChangeSpec := { name := "matchColumns", fn := fun _ => fun
  | [d1, d2, d3] => { results := [.lit (.bool false)], args := [d1, d2, d3] }
  | _ => none }
def MatchColumnsWrongFalsely : Prop := matchColumnsRow.holds Try.pinned (OpenSpec.ofChange matchColumnsWrong)

/-- 'clavecinlaw05.MatchShifts': WHATEVER THE INPUT: true; the input reads as it did. -/
def matchShiftsSpec : ChangeSpec := { name := "matchShifts", fn := fun _ => fun
  | [d1, d2, d3] => { results := [.lit (.bool true)], args := [d1, d2, d3] }
  | _ => none }
def matchShiftsRow : OpenClaim := { program := "ytjdhcdoekfikpaa", sum := "69bf43265adabbe25c83ec40e2ed1c53217c576725436934da6924f10ce6b6d7", func := "clavecin/clavecinlaw05.MatchShifts", spec := "matchShifts", unfollowed := true, recurses := true, apart := false }
def MatchShiftsSaid : Prop := matchShiftsRow.holds Try.pinned (OpenSpec.ofChange matchShiftsSpec)

/-- ITS FALSE NEIGHBOUR: 'it returns false'. Refute it at one input. -/
def matchShiftsWrong : ChangeSpec := { name := "matchShifts", fn := fun _ => fun
  | [d1, d2, d3] => { results := [.lit (.bool false)], args := [d1, d2, d3] }
  | _ => none }
def MatchShiftsWrongFalsely : Prop := matchShiftsRow.holds Try.pinned (OpenSpec.ofChange matchShiftsWrong)

/-- 'clavecinlaw05.MatchMosts': WHATEVER THE INPUT: true; the input reads as it did. -/
def matchMostsSpec : ChangeSpec := { name := "matchMosts", fn := fun _ => fun
  | [d] => { results := [.lit (.bool true)], args := [d] }
  | _ => none }
def matchMostsRow : OpenClaim := { program := "ytjdhcdoekfikpaa", sum := "69bf43265adabbe25c83ec40e2ed1c53217c576725436934da6924f10ce6b6d7", func := "clavecin/clavecinlaw05.MatchMosts", spec := "matchMosts", unfollowed := true, recurses := true, apart := false }
def MatchMostsSaid : Prop := matchMostsRow.holds Try.pinned (OpenSpec.ofChange matchMostsSpec)

/-- ITS FALSE NEIGHBOUR: 'it returns false'. Refute it at one input. -/
def matchMostsWrong : ChangeSpec := { name := "matchMosts", fn := fun _ => fun
  | [d] => { results := [.lit (.bool false)], args := [d] }
  | _ => none }
def MatchMostsWrongFalsely : Prop := matchMostsRow.holds Try.pinned (OpenSpec.ofChange matchMostsWrong)

/-- 'clavecinlaw05.MatchEither': WHATEVER THE INPUT: true; the input reads as it did. -/
def matchEitherSpec : ChangeSpec := { name := "matchEither", fn := fun _ => fun
  | [d] => { results := [.lit (.bool true)], args := [d] }
  | _ => none }
def matchEitherRow : OpenClaim := { program := "ytjdhcdoekfikpaa", sum := "69bf43265adabbe25c83ec40e2ed1c53217c576725436934da6924f10ce6b6d7", func := "clavecin/clavecinlaw05.MatchEither", spec := "matchEither", unfollowed := true, recurses := true, apart := false }
def MatchEitherSaid : Prop := matchEitherRow.holds Try.pinned (OpenSpec.ofChange matchEitherSpec)

/-- ITS FALSE NEIGHBOUR: 'it returns false'. Refute it at one input. -/
def matchEitherWrong : ChangeSpec := { name := "matchEither", fn := fun _ => fun
  | [d] => { results := [.lit (.bool false)], args := [d] }
  | _ => none }
def MatchEitherWrongFalsely : Prop := matchEitherRow.holds Try.pinned (OpenSpec.ofChange matchEitherWrong)

/-- 'clavecinlaw05.MatchCover': WHATEVER THE INPUT: true; the input reads as it did. -/
def matchCoverSpec : ChangeSpec := { name := "matchCover", fn := fun _ => fun
  | [d] => { results := [.lit (.bool true)], args := [d] }
  | _ => none }
def matchCoverRow : OpenClaim := { program := "ytjdhcdoekfikpaa", sum := "69bf43265adabbe25c83ec40e2ed1c53217c576725436934da6924f10ce6b6d7", func := "clavecin/clavecinlaw05.MatchCover", spec := "matchCover", unfollowed := true, recurses := true, apart := false }
def MatchCoverSaid : Prop := matchCoverRow.holds Try.pinned (OpenSpec.ofChange matchCoverSpec)

/-- ITS FALSE NEIGHBOUR: 'it returns false'. Refute it at one input. -/
def matchCoverWrong : ChangeSpec := { name := "matchCover", fn := fun _ => fun
  | [d] => { results := [.lit (.bool false)], args := [d] }
  | _ => none }
def MatchCoverWrongFalsely : Prop := matchCoverRow.holds Try.pinned (OpenSpec.ofChange matchCoverWrong)

/-- 'clavecinlaw05.MatchTurned': WHATEVER THE INPUT: true; the input reads as it did. -/
def matchTurnedSpec : ChangeSpec := { name := "matchTurned", fn := fun _ => fun
  | [d] => { results := [.lit (.bool true)], args := [d] }
  | _ => none }
def matchTurnedRow : OpenClaim := { program := "ytjdhcdoekfikpaa", sum := "69bf43265adabbe25c83ec40e2ed1c53217c576725436934da6924f10ce6b6d7", func := "clavecin/clavecinlaw05.MatchTurned", spec := "matchTurned", unfollowed := true, recurses := true, apart := false }
def MatchTurnedSaid : Prop := matchTurnedRow.holds Try.pinned (OpenSpec.ofChange matchTurnedSpec)

/-- ITS FALSE NEIGHBOUR: 'it returns false'. Refute it at one input. -/
def matchTurnedWrong : ChangeSpec := { name := "matchTurned", fn := fun _ => fun
  | [d] => { results := [.lit (.bool false)], args := [d] }
  | _ => none }
def MatchTurnedWrongFalsely : Prop := matchTurnedRow.holds Try.pinned (OpenSpec.ofChange matchTurnedWrong)

/-- 'clavecinlaw05.MatchChecks': WHATEVER THE INPUT: true; the input reads as it did. -/
def matchChecksSpec : ChangeSpec := { name := "matchChecks", fn := fun _ => fun
  | [d1, d2] => { results := [.lit (.bool true)], args := [d1, d2] }
  | _ => none }
def matchChecksRow : OpenClaim := { program := "ytjdhcdoekfikpaa", sum := "69bf43265adabbe25c83ec40e2ed1c53217c576725436934da6924f10ce6b6d7", func := "clavecin/clavecinlaw05.MatchChecks", spec := "matchChecks", unfollowed := true, recurses := true, apart := false }
def MatchChecksSaid : Prop := matchChecksRow.holds Try.pinned (OpenSpec.ofChange matchChecksSpec)

/-- ITS FALSE NEIGHBOUR: 'it returns false'. Refute it at one input. -/
def matchChecksWrong : ChangeSpec := { name := "matchChecks", fn := fun _ => fun
  | [d1, d2] => { results := [.lit (.bool false)], args := [d1, d2] }
  | _ => none }
def MatchChecksWrongFalsely : Prop := matchChecksRow.holds Try.pinned (OpenSpec.ofChange matchChecksWrong)

/-- 'clavecinlaw05.MatchTables': WHATEVER THE INPUT: true; the input reads as it did. -/
def matchTablesSpec : ChangeSpec := { name := "matchTables", fn := fun _ => fun
  | [d] => { results := [.lit (.bool true)], args := [d] }
  | _ => none }
def matchTablesRow : OpenClaim := { program := "ytjdhcdoekfikpaa", sum := "69bf43265adabbe25c83ec40e2ed1c53217c576725436934da6924f10ce6b6d7", func := "clavecin/clavecinlaw05.MatchTables", spec := "matchTables", unfollowed := true, recurses := true, apart := false }
def MatchTablesSaid : Prop := matchTablesRow.holds Try.pinned (OpenSpec.ofChange matchTablesSpec)

/-- ITS FALSE NEIGHBOUR: 'it returns false'. Refute it at one input. -/
def matchTablesWrong : ChangeSpec := { name := "matchTables", fn := fun _ => fun
  | [d] => { results := [.lit (.bool false)], args := [d] }
  | _ => none }
def MatchTablesWrongFalsely : Prop := matchTablesRow.holds Try.pinned (OpenSpec.ofChange matchTablesWrong)

/-- 'clavecinlaw05.MatchWithouts': WHATEVER THE INPUT: true; the input reads as it did. -/
def matchWithoutsSpec : ChangeSpec := { name := "matchWithouts", fn := fun _ => fun
  | [d1, d2] => { results := [.lit (.bool true)], args := [d1, d2] }
  | _ => none }
def matchWithoutsRow : OpenClaim := { program := "ytjdhcdoekfikpaa", sum := "69bf43265adabbe25c83ec40e2ed1c53217c576725436934da6924f10ce6b6d7", func := "clavecin/clavecinlaw05.MatchWithouts", spec := "matchWithouts", unfollowed := true, recurses := true, apart := false }
def MatchWithoutsSaid : Prop := matchWithoutsRow.holds Try.pinned (OpenSpec.ofChange matchWithoutsSpec)

/-- ITS FALSE NEIGHBOUR: 'it returns false'. Refute it at one input. -/
def matchWithoutsWrong : ChangeSpec := { name := "matchWithouts", fn := fun _ => fun
  | [d1, d2] => { results := [.lit (.bool false)], args := [d1, d2] }
  | _ => none }
def MatchWithoutsWrongFalsely : Prop := matchWithoutsRow.holds Try.pinned (OpenSpec.ofChange matchWithoutsWrong)

/-- 'clavecinlaw05.MatchFewer': WHATEVER THE INPUT: true; the input reads as it did. -/
def matchFewerSpec : ChangeSpec := { name := "matchFewer", fn := fun _ => fun
  | [d1, d2] => { results := [.lit (.bool true)], args := [d1, d2] }
  | _ => none }
def matchFewerRow : OpenClaim := { program := "ytjdhcdoekfikpaa", sum := "69bf43265adabbe25c83ec40e2ed1c53217c576725436934da6924f10ce6b6d7", func := "clavecin/clavecinlaw05.MatchFewer", spec := "matchFewer", unfollowed := true, recurses := true, apart := false }
def MatchFewerSaid : Prop := matchFewerRow.holds Try.pinned (OpenSpec.ofChange matchFewerSpec)

/-- ITS FALSE NEIGHBOUR: 'it returns false'. Refute it at one input. -/
def matchFewerWrong : ChangeSpec := { name := "matchFewer", fn := fun _ => fun
  | [d1, d2] => { results := [.lit (.bool false)], args := [d1, d2] }
  | _ => none }
def MatchFewerWrongFalsely : Prop := matchFewerRow.holds Try.pinned (OpenSpec.ofChange matchFewerWrong)

/-- 'clavecinlaw05.MatchVoices': WHATEVER THE INPUT: true; the input reads as it did. -/
def matchVoicesSpec : ChangeSpec := { name := "matchVoices", fn := fun _ => fun
  | [d] => { results := [.lit (.bool true)], args := [d] }
  | _ => none }
def matchVoicesRow : OpenClaim := { program := "ytjdhcdoekfikpaa", sum := "69bf43265adabbe25c83ec40e2ed1c53217c576725436934da6924f10ce6b6d7", func := "clavecin/clavecinlaw05.MatchVoices", spec := "matchVoices", unfollowed := true, recurses := true, apart := false }
def MatchVoicesSaid : Prop := matchVoicesRow.holds Try.pinned (OpenSpec.ofChange matchVoicesSpec)

/-- ITS FALSE NEIGHBOUR: 'it returns false'. Refute it at one input. -/
def matchVoicesWrong : ChangeSpec := { name := "matchVoices", fn := fun _ => fun
  | [d] => { results := [.lit (.bool false)], args := [d] }
  | _ => none }
def MatchVoicesWrongFalsely : Prop := matchVoicesRow.holds Try.pinned (OpenSpec.ofChange matchVoicesWrong)

/-- 'clavecinlaw05.MatchProves': WHATEVER THE INPUT: true; the input reads as it did. -/
def matchProvesSpec : ChangeSpec := { name := "matchProves", fn := fun _ => fun
  | [d1, d2] => { results := [.lit (.bool true)], args := [d1, d2] }
  | _ => none }
def matchProvesRow : OpenClaim := { program := "ytjdhcdoekfikpaa", sum := "69bf43265adabbe25c83ec40e2ed1c53217c576725436934da6924f10ce6b6d7", func := "clavecin/clavecinlaw05.MatchProves", spec := "matchProves", unfollowed := true, recurses := true, apart := false }
def MatchProvesSaid : Prop := matchProvesRow.holds Try.pinned (OpenSpec.ofChange matchProvesSpec)

/-- ITS FALSE NEIGHBOUR: 'it returns false'. Refute it at one input. -/
def matchProvesWrong : ChangeSpec := { name := "matchProves", fn := fun _ => fun
  | [d1, d2] => { results := [.lit (.bool false)], args := [d1, d2] }
  | _ => none }
def MatchProvesWrongFalsely : Prop := matchProvesRow.holds Try.pinned (OpenSpec.ofChange matchProvesWrong)

/-- 'clavecinlaw05.MatchDual': WHATEVER THE INPUT: true; the input reads as it did. -/
def matchDualSpec : ChangeSpec := { name := "matchDual", fn := fun _ => fun
  | [d] => { results := [.lit (.bool true)], args := [d] }
  | _ => none }
def matchDualRow : OpenClaim := { program := "ytjdhcdoekfikpaa", sum := "69bf43265adabbe25c83ec40e2ed1c53217c576725436934da6924f10ce6b6d7", func := "clavecin/clavecinlaw05.MatchDual", spec := "matchDual", unfollowed := true, recurses := true, apart := false }
def MatchDualSaid : Prop := matchDualRow.holds Try.pinned (OpenSpec.ofChange matchDualSpec)

/-- ITS FALSE NEIGHBOUR: 'it returns false'. Refute it at one input. -/
def matchDualWrong : ChangeSpec := { name := "matchDual", fn := fun _ => fun
  | [d] => { results := [.lit (.bool false)], args := [d] }
  | _ => none }
def MatchDualWrongFalsely : Prop := matchDualRow.holds Try.pinned (OpenSpec.ofChange matchDualWrong)

/- THE SECOND FORM. 'bulk': how many values and letters a reading holds, each counted each time it is reached (what is shared counts as often as it is met; a slice's spare places count too). A statement '..UptoSaid' is the law's where the arguments, and the package variables that the reading takes, are together of bulk at most 1048576: NARROWER than '..Said'. Prove '..Said' where nothing that the law and all that it calls make is longer than what came in: it says more and counts as full. Else prove '..UptoSaid'. A law counts once. -/
mutual
def uptoBulk {H : Type} : DataW H → Nat
  | .lit (.string bytes) => bytes.length + 1
  | .lit _ => 1
  | .nil => 1
  | .ptr d => uptoBulk d + 1
  | .slice elems spare => uptoBulkAll elems + uptoBulkAll spare + 1
  | .agg parts => uptoBulkAll parts + 1
  | .iface _ d => uptoBulk d + 1
  | .map entries => uptoBulkEntries entries + 1
  | .held _ => 1
def uptoBulkAll {H : Type} : List (DataW H) → Nat
  | [] => 0
  | d :: r => uptoBulk d + uptoBulkAll r
def uptoBulkEntries {H : Type} : List (Lit × DataW H) → Nat
  | [] => 0
  | x :: r => uptoBulkEntry x + uptoBulkEntries r
def uptoBulkEntry {H : Type} : Lit × DataW H → Nat
  | (.string bytes, d) => bytes.length + uptoBulk d + 1
  | (_, d) => uptoBulk d + 1
 end
def uptoSmall : (H : Type) → List (DataW H) → Bool := fun _ ds => decide (uptoBulkAll ds ≤ 1048576)
def OpenSpec.upto (s : _root_.Go.ChangeSpec) : _root_.Go.OpenSpec := { _root_.Go.OpenSpec.ofChange s with cond := some uptoSmall }

/-- 'clavecinlaw05.MatchBests', WHERE WHAT IT READS IS OF BULK AT MOST 1048576: true; the input reads as it did. -/
def matchBestsUptoRow : OpenClaim := { program := "ytjdhcdoekfikpaa", sum := "69bf43265adabbe25c83ec40e2ed1c53217c576725436934da6924f10ce6b6d7", func := "clavecin/clavecinlaw05.MatchBests", spec := "matchBests", unfollowed := true, recurses := true, apart := false, narrowed := true }
def MatchBestsUptoSaid : Prop := matchBestsUptoRow.holds Try.pinned (OpenSpec.upto matchBestsSpec)

/-- 'clavecinlaw05.MatchHalls', WHERE WHAT IT READS IS OF BULK AT MOST 1048576: true; the input reads as it did. -/
def matchHallsUptoRow : OpenClaim := { program := "ytjdhcdoekfikpaa", sum := "69bf43265adabbe25c83ec40e2ed1c53217c576725436934da6924f10ce6b6d7", func := "clavecin/clavecinlaw05.MatchHalls", spec := "matchHalls", unfollowed := true, recurses := true, apart := false, narrowed := true }
def MatchHallsUptoSaid : Prop := matchHallsUptoRow.holds Try.pinned (OpenSpec.upto matchHallsSpec)

/-- 'clavecinlaw05.MatchLeast', WHERE WHAT IT READS IS OF BULK AT MOST 1048576: true; the input reads as it did. -/
def matchLeastUptoRow : OpenClaim := { program := "ytjdhcdoekfikpaa", sum := "69bf43265adabbe25c83ec40e2ed1c53217c576725436934da6924f10ce6b6d7", func := "clavecin/clavecinlaw05.MatchLeast", spec := "matchLeast", unfollowed := true, recurses := true, apart := false, narrowed := true }
def MatchLeastUptoSaid : Prop := matchLeastUptoRow.holds Try.pinned (OpenSpec.upto matchLeastSpec)

/-- 'clavecinlaw05.MatchForced', WHERE WHAT IT READS IS OF BULK AT MOST 1048576: true; the input reads as it did. -/
def matchForcedUptoRow : OpenClaim := { program := "ytjdhcdoekfikpaa", sum := "69bf43265adabbe25c83ec40e2ed1c53217c576725436934da6924f10ce6b6d7", func := "clavecin/clavecinlaw05.MatchForced", spec := "matchForced", unfollowed := true, recurses := true, apart := false, narrowed := true }
def MatchForcedUptoSaid : Prop := matchForcedUptoRow.holds Try.pinned (OpenSpec.upto matchForcedSpec)

/-- 'clavecinlaw05.MatchColumns', WHERE WHAT IT READS IS OF BULK AT MOST 1048576: true; the input reads as it did. -/
def matchColumnsUptoRow : OpenClaim := { program := "ytjdhcdoekfikpaa", sum := "69bf43265adabbe25c83ec40e2ed1c53217c576725436934da6924f10ce6b6d7", func := "clavecin/clavecinlaw05.MatchColumns", spec := "matchColumns", unfollowed := true, recurses := true, apart := false, narrowed := true }
def MatchColumnsUptoSaid : Prop := matchColumnsUptoRow.holds Try.pinned (OpenSpec.upto matchColumnsSpec)

/-- 'clavecinlaw05.MatchShifts', WHERE WHAT IT READS IS OF BULK AT MOST 1048576: true; the input reads as it did. -/
def matchShiftsUptoRow : OpenClaim := { program := "ytjdhcdoekfikpaa", sum := "69bf43265adabbe25c83ec40e2ed1c53217c576725436934da6924f10ce6b6d7", func := "clavecin/clavecinlaw05.MatchShifts", spec := "matchShifts", unfollowed := true, recurses := true, apart := false, narrowed := true }
def MatchShiftsUptoSaid : Prop := matchShiftsUptoRow.holds Try.pinned (OpenSpec.upto matchShiftsSpec)

/-- 'clavecinlaw05.MatchMosts', WHERE WHAT IT READS IS OF BULK AT MOST 1048576: true; the input reads as it did. -/
def matchMostsUptoRow : OpenClaim := { program := "ytjdhcdoekfikpaa", sum := "69bf43265adabbe25c83ec40e2ed1c53217c576725436934da6924f10ce6b6d7", func := "clavecin/clavecinlaw05.MatchMosts", spec := "matchMosts", unfollowed := true, recurses := true, apart := false, narrowed := true }
def MatchMostsUptoSaid : Prop := matchMostsUptoRow.holds Try.pinned (OpenSpec.upto matchMostsSpec)

/-- 'clavecinlaw05.MatchEither', WHERE WHAT IT READS IS OF BULK AT MOST 1048576: true; the input reads as it did. -/
def matchEitherUptoRow : OpenClaim := { program := "ytjdhcdoekfikpaa", sum := "69bf43265adabbe25c83ec40e2ed1c53217c576725436934da6924f10ce6b6d7", func := "clavecin/clavecinlaw05.MatchEither", spec := "matchEither", unfollowed := true, recurses := true, apart := false, narrowed := true }
def MatchEitherUptoSaid : Prop := matchEitherUptoRow.holds Try.pinned (OpenSpec.upto matchEitherSpec)

/-- 'clavecinlaw05.MatchCover', WHERE WHAT IT READS IS OF BULK AT MOST 1048576: true; the input reads as it did. -/
def matchCoverUptoRow : OpenClaim := { program := "ytjdhcdoekfikpaa", sum := "69bf43265adabbe25c83ec40e2ed1c53217c576725436934da6924f10ce6b6d7", func := "clavecin/clavecinlaw05.MatchCover", spec := "matchCover", unfollowed := true, recurses := true, apart := false, narrowed := true }
def MatchCoverUptoSaid : Prop := matchCoverUptoRow.holds Try.pinned (OpenSpec.upto matchCoverSpec)

/-- 'clavecinlaw05.MatchTurned', WHERE WHAT IT READS IS OF BULK AT MOST 1048576: true; the input reads as it did. -/
def matchTurnedUptoRow : OpenClaim := { program := "ytjdhcdoekfikpaa", sum := "69bf43265adabbe25c83ec40e2ed1c53217c576725436934da6924f10ce6b6d7", func := "clavecin/clavecinlaw05.MatchTurned", spec := "matchTurned", unfollowed := true, recurses := true, apart := false, narrowed := true }
def MatchTurnedUptoSaid : Prop := matchTurnedUptoRow.holds Try.pinned (OpenSpec.upto matchTurnedSpec)

/-- 'clavecinlaw05.MatchChecks', WHERE WHAT IT READS IS OF BULK AT MOST 1048576: true; the input reads as it did. -/
def matchChecksUptoRow : OpenClaim := { program := "ytjdhcdoekfikpaa", sum := "69bf43265adabbe25c83ec40e2ed1c53217c576725436934da6924f10ce6b6d7", func := "clavecin/clavecinlaw05.MatchChecks", spec := "matchChecks", unfollowed := true, recurses := true, apart := false, narrowed := true }
def MatchChecksUptoSaid : Prop := matchChecksUptoRow.holds Try.pinned (OpenSpec.upto matchChecksSpec)

/-- 'clavecinlaw05.MatchTables', WHERE WHAT IT READS IS OF BULK AT MOST 1048576: true; the input reads as it did. -/
def matchTablesUptoRow : OpenClaim := { program := "ytjdhcdoekfikpaa", sum := "69bf43265adabbe25c83ec40e2ed1c53217c576725436934da6924f10ce6b6d7", func := "clavecin/clavecinlaw05.MatchTables", spec := "matchTables", unfollowed := true, recurses := true, apart := false, narrowed := true }
def MatchTablesUptoSaid : Prop := matchTablesUptoRow.holds Try.pinned (OpenSpec.upto matchTablesSpec)

/-- 'clavecinlaw05.MatchWithouts', WHERE WHAT IT READS IS OF BULK AT MOST 1048576: true; the input reads as it did. -/
def matchWithoutsUptoRow : OpenClaim := { program := "ytjdhcdoekfikpaa", sum := "69bf43265adabbe25c83ec40e2ed1c53217c576725436934da6924f10ce6b6d7", func := "clavecin/clavecinlaw05.MatchWithouts", spec := "matchWithouts", unfollowed := true, recurses := true, apart := false, narrowed := true }
def MatchWithoutsUptoSaid : Prop := matchWithoutsUptoRow.holds Try.pinned (OpenSpec.upto matchWithoutsSpec)

/-- 'clavecinlaw05.MatchFewer', WHERE WHAT IT READS IS OF BULK AT MOST 1048576: true; the input reads as it did. -/
def matchFewerUptoRow : OpenClaim := { program := "ytjdhcdoekfikpaa", sum := "69bf43265adabbe25c83ec40e2ed1c53217c576725436934da6924f10ce6b6d7", func := "clavecin/clavecinlaw05.MatchFewer", spec := "matchFewer", unfollowed := true, recurses := true, apart := false, narrowed := true }
def MatchFewerUptoSaid : Prop := matchFewerUptoRow.holds Try.pinned (OpenSpec.upto matchFewerSpec)

/-- 'clavecinlaw05.MatchVoices', WHERE WHAT IT READS IS OF BULK AT MOST 1048576: true; the input reads as it did. -/
def matchVoicesUptoRow : OpenClaim := { program := "ytjdhcdoekfikpaa", sum := "69bf43265adabbe25c83ec40e2ed1c53217c576725436934da6924f10ce6b6d7", func := "clavecin/clavecinlaw05.MatchVoices", spec := "matchVoices", unfollowed := true, recurses := true, apart := false, narrowed := true }
def MatchVoicesUptoSaid : Prop := matchVoicesUptoRow.holds Try.pinned (OpenSpec.upto matchVoicesSpec)

/-- 'clavecinlaw05.MatchProves', WHERE WHAT IT READS IS OF BULK AT MOST 1048576: true; the input reads as it did. -/
def matchProvesUptoRow : OpenClaim := { program := "ytjdhcdoekfikpaa", sum := "69bf43265adabbe25c83ec40e2ed1c53217c576725436934da6924f10ce6b6d7", func := "clavecin/clavecinlaw05.MatchProves", spec := "matchProves", unfollowed := true, recurses := true, apart := false, narrowed := true }
def MatchProvesUptoSaid : Prop := matchProvesUptoRow.holds Try.pinned (OpenSpec.upto matchProvesSpec)

/-- 'clavecinlaw05.MatchDual', WHERE WHAT IT READS IS OF BULK AT MOST 1048576: true; the input reads as it did. -/
def matchDualUptoRow : OpenClaim := { program := "ytjdhcdoekfikpaa", sum := "69bf43265adabbe25c83ec40e2ed1c53217c576725436934da6924f10ce6b6d7", func := "clavecin/clavecinlaw05.MatchDual", spec := "matchDual", unfollowed := true, recurses := true, apart := false, narrowed := true }
def MatchDualUptoSaid : Prop := matchDualUptoRow.holds Try.pinned (OpenSpec.upto matchDualSpec)

end Rows
end Go.Proofs.Ytjdhcdoekfikpaa
