/-
  The closed facts of the row, each by itself.
-/
import Derived.Test.YtjibohkeapdalaaGreatDoorRows
import Derived.JoinedCond
import Derived.KernelRfl
namespace Go.Proofs.YtjibohkeapdalaaGreatDoor
open Go
theorem uc9:((Rows.topTunedRow.inPlace==Tryz.pinned.checked.prog.inPlace 3))=true:=by kernel_rfl
end Go.Proofs.YtjibohkeapdalaaGreatDoor
