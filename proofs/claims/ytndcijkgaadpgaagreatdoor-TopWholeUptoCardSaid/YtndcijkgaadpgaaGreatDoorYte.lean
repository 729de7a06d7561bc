/-
  Closed facts that the card asks.
-/
import Derived.Test.YtndcijkgaadpgaaGreatDoorCards
import Derived.SevenTiedAt
namespace Go.Proofs.YtndcijkgaadpgaaGreatDoor
open Go
theorem u_wf : Rows.topWholeUptoRow.wfByText (Rows.OpenSpec.upto Rows.topWholeSpec) = true := by kernel_rfl
theorem u_main : Tryz.pinned.checked.prog.mainIs = some (true, "31def33d80d0e2195238fe8dc28cc36a28ad34586a5fe6e377f7b2866e6bd3e2".toList) := by kernel_rfl
theorem u_looks : true = Tryz.pinned.checked.prog.looks [] := by kernel_rfl
theorem all_goes : Tryz.pinned.checked.prog.funcs.any Func.goes = false := by kernel_rfl
theorem u_named : Tryz.pinned.checked.prog.funcNamed Rows.topWholeUptoRow.func = some 3 := by kernel_rfl
end Go.Proofs.YtndcijkgaadpgaaGreatDoor
