/-
  The closed facts of the row, each by itself.
-/
import Derived.Test.YtndcijkgaadpgaaGreatDoorRows
import Derived.JoinedCond
import Derived.KernelRfl
namespace Go.Proofs.YtndcijkgaadpgaaGreatDoor
open Go
theorem uc9 : ((Rows.topWholeUptoRow.inPlace == Tryz.pinned.checked.prog.inPlace 3)) = true := by kernel_rfl
end Go.Proofs.YtndcijkgaadpgaaGreatDoor
