/-
  The closed facts of the row, each by itself.
-/
import Derived.Test.YtolmgdplgeceoaaGreatDoorRows
import Derived.JoinedCond
import Derived.KernelRfl
namespace Go.Proofs.YtolmgdplgeceoaaGreatDoor
open Go
theorem uc12 : ((Rows.topUndoneUptoRow.named == Tryz.pinned.checked.prog.varsNamed 3)) = true := by kernel_rfl
end Go.Proofs.YtolmgdplgeceoaaGreatDoor
