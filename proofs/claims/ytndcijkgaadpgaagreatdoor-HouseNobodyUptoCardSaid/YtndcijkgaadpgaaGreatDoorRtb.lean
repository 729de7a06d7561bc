/-
  The closed facts of the row, each by itself. The closed facts of the row, each by itself.
-/
import Derived.Test.YtndcijkgaadpgaaGreatDoorRows
import Derived.JoinedCond
import Derived.KernelRfl
namespace Go.Proofs.YtndcijkgaadpgaaGreatDoor
section
open Go
theorem uc10 : ((Rows.houseNobodyUptoRow.unfollowed == Tryz.pinned.checked.prog.unfollowed 4)) = true := by kernel_rfl
end
section
open Go
theorem uc12 : ((Rows.houseNobodyUptoRow.named == Tryz.pinned.checked.prog.varsNamed 4)) = true := by kernel_rfl
end
end Go.Proofs.YtndcijkgaadpgaaGreatDoor
