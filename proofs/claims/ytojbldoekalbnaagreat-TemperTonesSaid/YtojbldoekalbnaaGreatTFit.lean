/-
  Contracts of temper's fits and off; each states its condition.
-/
import Derived.Test.YtojbldoekalbnaaGreatTChk
import Derived.Test.YtojbldoekalbnaaGreatTDv
namespace Go.Proofs.YtojbldoekalbnaaGreat
open Go.RowKit
theorem fitsB_len {r : Rg} {st : List Int} (h : ¬ (st.length : Int) = r.N) : r.fitsB st = false := by
  unfold Rg.fitsB; simp [h]
theorem bool_ret {R : Ending → World → Prop} {w : World} {b c : Bool} (h : R (.returned (.bool c)) w) (e : b = c) : R (.returned (.bool b)) w := by rw [e]; exact h
end Go.Proofs.YtojbldoekalbnaaGreat
