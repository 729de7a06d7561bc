/-
  Closed facts that the card asks.
-/
import Derived.Test.YtcihcdkoijfikaaGreatDoorCards
import Derived.SevenTiedAt
namespace Go.Proofs.YtcihcdkoijfikaaGreatDoor
open Go
theorem u_wf : Rows.houseNobodyUptoRow.wfByText (Rows.OpenSpec.upto Rows.houseNobodySpec) = true := by kernel_rfl
theorem u_main : Tryz.pinned.checked.prog.mainIs = some (true, "35567cff45d8e1a8685547cfb5d9cb4c6c26e33c2d89d99f8bc5e472b68bf5d8".toList) := by kernel_rfl
theorem u_looks : true = Tryz.pinned.checked.prog.looks [] := by kernel_rfl
theorem all_goes : Tryz.pinned.checked.prog.funcs.any Func.goes = false := by kernel_rfl
theorem u_named : Tryz.pinned.checked.prog.funcNamed Rows.houseNobodyUptoRow.func = some 14 := by kernel_rfl
end Go.Proofs.YtcihcdkoijfikaaGreatDoor
