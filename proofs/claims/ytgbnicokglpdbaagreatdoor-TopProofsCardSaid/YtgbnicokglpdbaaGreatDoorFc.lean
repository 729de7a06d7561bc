/-
The closed facts of the row, each by itself; conditions: those of each theorem.
-/
import Derived.Test.YtgbnicokglpdbaaGreatDoorRows
import Derived.JoinedCond
namespace Go.Proofs.YtgbnicokglpdbaaGreatDoor
open Go
theorem Lp:((Rows.topProofsRow.inPlace==Tryz.pinned.checked.prog.inPlace 3))=true:=by kernel_rfl
end Go.Proofs.YtgbnicokglpdbaaGreatDoor
