/-
The closed facts of the row, each by itself; conditions: those of each theorem.
-/
import Derived.Test.YtgbnicokglpdbaaGreatDoorRows
import Derived.JoinedCond
namespace Go.Proofs.YtgbnicokglpdbaaGreatDoor
open Go
theorem KL:((Rows.topProofsRow.maps==(Tryz.f3.params.toList++(OpenSpec.ofChange Rows.topProofsSpec).bare.plain.varTypes Tryz.pinned.checked.prog).any (Tryz.pinned.checked.prog.mapsRec ·)))=true:=by kernel_rfl
theorem KM:((Rows.topProofsRow.ifaces==(Tryz.f3.params.toList++(OpenSpec.ofChange Rows.topProofsSpec).bare.plain.varTypes Tryz.pinned.checked.prog).any (Tryz.pinned.checked.prog.ifacesRec ·)))=true:=by kernel_rfl
theorem KN:((Rows.topProofsRow.mapsOut==Tryz.pinned.checked.prog.mapsAmong Tryz.f3.resultTypes.toList))=true:=by kernel_rfl
theorem KO:((Rows.topProofsRow.loops==(Tryz.f3.params.toList++(OpenSpec.ofChange Rows.topProofsSpec).bare.plain.varTypes Tryz.pinned.checked.prog).any (Tryz.pinned.checked.prog.loopsFrom ·)))=true:=by kernel_rfl
theorem KP:((Rows.topProofsRow.wideKeys==(Tryz.f3.params.toList++(OpenSpec.ofChange Rows.topProofsSpec).bare.plain.varTypes Tryz.pinned.checked.prog++Tryz.f3.resultTypes.toList).any (Tryz.pinned.checked.prog.wideKeysFrom ·)))=true:=by kernel_rfl
theorem KQ:((OpenSpec.ofChange Rows.topProofsSpec).bare.vars.all (Tryz.pinned.checked.prog.varReadable ·))=true:=by kernel_rfl
theorem KR:(Tryz.f3.resultTypes.all (λt=>Tryz.pinned.checked.prog.readableRec t&&decide (t<Tryz.pinned.checked.prog.types.size)))=true:=by kernel_rfl
theorem KS:((Rows.topProofsRow.ifacesOut==Tryz.f3.resultTypes.toList.any (Tryz.pinned.checked.prog.ifacesRec ·)))=true:=by kernel_rfl
theorem KT:((Rows.topProofsRow.loopsOut==Tryz.f3.resultTypes.toList.any (Tryz.pinned.checked.prog.loopsFrom ·)))=true:=by kernel_rfl
theorem KU:((Rows.topProofsRow.plainKeys==Tryz.pinned.checked.prog.plainKeys))=true:=by kernel_rfl
theorem KV:(Rows.topProofsRow.shortTexts.isNone)=true:=by kernel_rfl
theorem KY:((Rows.topProofsRow.lifted==Tryz.pinned.checked.prog.liftsFinal))=true:=by kernel_rfl
theorem KZ:((Tryz.pinned.checked.prog.make==some Rows.topProofsRow.make))=true:=by kernel_rfl
theorem K3:((Rows.topProofsRow.kinds==(if Rows.topProofsRow.domain.isEmpty then [] else Tryz.f3.params.toList.map λt=>match Tryz.pinned.checked.prog.underlying t with|some (.int k)=>some k|_=>none)))=true:=by kernel_rfl
theorem K4:((Rows.topProofsRow.pinned==Rows.topProofsRow.pinnedBy))=true:=by kernel_rfl
theorem K5:((Rows.topProofsRow.veiled==(Tryz.f3.params.toList++(OpenSpec.ofChange Rows.topProofsSpec).bare.plain.varTypes Tryz.pinned.checked.prog++Tryz.f3.resultTypes.toList).any (Tryz.pinned.checked.prog.veiledRec ·)))=true:=by kernel_rfl
theorem K6:(Rows.topProofsRow.veiledFits Tryz.pinned.checked.prog Tryz.f3.params.toList (Tryz.f3.params.toList++(OpenSpec.ofChange Rows.topProofsSpec).bare.plain.varTypes Tryz.pinned.checked.prog++Tryz.f3.resultTypes.toList))=true:=by kernel_rfl
end Go.Proofs.YtgbnicokglpdbaaGreatDoor
