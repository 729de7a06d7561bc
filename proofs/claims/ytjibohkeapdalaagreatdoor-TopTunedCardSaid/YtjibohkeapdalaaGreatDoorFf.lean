/-
  Closed facts that the card asks.
-/
import Derived.Test.YtjibohkeapdalaaGreatDoorCards
import Derived.SevenTiedAt
namespace Go.Proofs.YtjibohkeapdalaaGreatDoor
open Go
theorem u_wf:Rows.topTunedRow.wfByText (OpenSpec.ofChange Rows.topTunedSpec)=true:=by kernel_rfl
theorem u_main : Tryz.pinned.checked.prog.mainIs = some (true, "26145785dbb5b241d8b7c8a4bd27c791ec54ab31fdaaf7f80d2065975805bf28".toList) := by kernel_rfl
theorem u_looks:true=Tryz.pinned.checked.prog.looks []:=by kernel_rfl
theorem all_goes:Tryz.pinned.checked.prog.funcs.any Func.goes=false:=by kernel_rfl
theorem u_named:Tryz.pinned.checked.prog.funcNamed Rows.topTunedRow.func=some 3:=by kernel_rfl
end Go.Proofs.YtjibohkeapdalaaGreatDoor
