/-
  Contracts of temper's Cost, and of the document's Fits, Errors, Allowed and Cost; each states its condition.
-/
import Derived.Test.YtojbldoekalbnaaGreatTErr2
namespace Go.Proofs.YtojbldoekalbnaaGreat
open Go.RowKit
/-- What Cost returns of a valid ring. -/
def Rg.costR (r : Rg) (st : List Int) : Int × Int := if r.fitsB st = true then (if r.allowB st = true then (r.cost st, 0) else (0, 6)) else (0, 2)
/-- What the loop of the document's Fits sums. -/
def Sumd (st : List Int) (k : Nat) (T : Int) : Prop := T = (st.take k).sum
end Go.Proofs.YtojbldoekalbnaaGreat
