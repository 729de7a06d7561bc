/-
Closed facts that the card asks; conditions: those of each theorem.
-/
import Derived.Test.YtgbnicokglpdbaaGreatDoorCards
import Derived.SevenTiedAt
namespace Go.Proofs.YtgbnicokglpdbaaGreatDoor
open Go
theorem KI:Rows.topProofsRow.wfByText (OpenSpec.ofChange Rows.topProofsSpec)=true:=by kernel_rfl
theorem JX : Tryz.pinned.checked.prog.mainIs = some (true, "75866c0774f08814d337b12e421b78a67113663245269ff3bf84c427cc7b99e5".toList) := by kernel_rfl
theorem I0:true=Tryz.pinned.checked.prog.looks []:=by kernel_rfl
theorem Ek:Tryz.pinned.checked.prog.funcs.any Func.goes=false:=by kernel_rfl
theorem uu:Tryz.pinned.checked.prog.funcNamed Rows.topProofsRow.func=some 3:=by kernel_rfl
end Go.Proofs.YtgbnicokglpdbaaGreatDoor
