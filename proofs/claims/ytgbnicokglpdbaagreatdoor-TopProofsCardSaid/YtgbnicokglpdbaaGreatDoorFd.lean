/-
The closed facts of the row, each by itself; conditions: those of each theorem.
-/
import Derived.Test.YtgbnicokglpdbaaGreatDoorRows
import Derived.JoinedCond
namespace Go.Proofs.YtgbnicokglpdbaaGreatDoor
section
open Go
theorem JY:((Rows.topProofsRow.unfollowed==Tryz.pinned.checked.prog.unfollowed 3))=true:=by kernel_rfl
end
section
open Go
theorem KK:((Rows.topProofsRow.named==Tryz.pinned.checked.prog.varsNamed 3))=true:=by kernel_rfl
end
end Go.Proofs.YtgbnicokglpdbaaGreatDoor
