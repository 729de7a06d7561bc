/-
  The closed facts of the row, each by itself.
-/
import Derived.Test.YtcihcdkoijfikaaGreatDoorRows
import Derived.JoinedCond
import Derived.KernelRfl
namespace Go.Proofs.YtcihcdkoijfikaaGreatDoor
open Go
theorem uc9 : ((Rows.houseNobodyUptoRow.inPlace == Tryz.pinned.checked.prog.inPlace 14)) = true := by kernel_rfl
end Go.Proofs.YtcihcdkoijfikaaGreatDoor
