/-
  The closed facts of the row, each by itself. The closed facts of the row, each by itself.
-/
import Derived.Test.YtndcijkgaadpgaaGreatDoorRows
import Derived.JoinedCond
import Derived.KernelRfl
namespace Go.Proofs.YtndcijkgaadpgaaGreatDoor
section
open Go
theorem uc10 : ((Rows.topWholeUptoRow.unfollowed == Tryz.pinned.checked.prog.unfollowed 3)) = true := by kernel_rfl
end
section
open Go
theorem uc12 : ((Rows.topWholeUptoRow.named == Tryz.pinned.checked.prog.varsNamed 3)) = true := by kernel_rfl
end
end Go.Proofs.YtndcijkgaadpgaaGreatDoor
