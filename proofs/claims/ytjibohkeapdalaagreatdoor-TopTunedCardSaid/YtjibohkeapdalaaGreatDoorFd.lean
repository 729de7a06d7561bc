/-
  The closed facts of the row, each by itself. The closed facts of the row, each by itself.
-/
import Derived.Test.YtjibohkeapdalaaGreatDoorRows
import Derived.JoinedCond
import Derived.KernelRfl
namespace Go.Proofs.YtjibohkeapdalaaGreatDoor
section
open Go
theorem uc10:((Rows.topTunedRow.unfollowed==Tryz.pinned.checked.prog.unfollowed 3))=true:=by kernel_rfl
end
section
open Go
theorem uc12:((Rows.topTunedRow.named==Tryz.pinned.checked.prog.varsNamed 3))=true:=by kernel_rfl
end
end Go.Proofs.YtjibohkeapdalaaGreatDoor
