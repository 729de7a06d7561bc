/-
  The closed facts of the row, each by itself.
-/
import Derived.Test.YtjibohkeapdalaaGreatDoorRows
import Derived.JoinedCond
import Derived.KernelRfl
namespace Go.Proofs.YtjibohkeapdalaaGreatDoor
open Go
theorem uc13:((Rows.topTunedRow.maps==(Tryz.f3.params.toList++(OpenSpec.ofChange Rows.topTunedSpec).bare.plain.varTypes Tryz.pinned.checked.prog).any (Tryz.pinned.checked.prog.mapsRec ·)))=true:=by kernel_rfl
theorem uc14:((Rows.topTunedRow.ifaces==(Tryz.f3.params.toList++(OpenSpec.ofChange Rows.topTunedSpec).bare.plain.varTypes Tryz.pinned.checked.prog).any (Tryz.pinned.checked.prog.ifacesRec ·)))=true:=by kernel_rfl
theorem uc15:((Rows.topTunedRow.mapsOut==Tryz.pinned.checked.prog.mapsAmong Tryz.f3.resultTypes.toList))=true:=by kernel_rfl
theorem uc16:((Rows.topTunedRow.loops==(Tryz.f3.params.toList++(OpenSpec.ofChange Rows.topTunedSpec).bare.plain.varTypes Tryz.pinned.checked.prog).any (Tryz.pinned.checked.prog.loopsFrom ·)))=true:=by kernel_rfl
theorem uc17:((Rows.topTunedRow.wideKeys==(Tryz.f3.params.toList++(OpenSpec.ofChange Rows.topTunedSpec).bare.plain.varTypes Tryz.pinned.checked.prog++Tryz.f3.resultTypes.toList).any (Tryz.pinned.checked.prog.wideKeysFrom ·)))=true:=by kernel_rfl
theorem uc18:((OpenSpec.ofChange Rows.topTunedSpec).bare.vars.all (Tryz.pinned.checked.prog.varReadable ·))=true:=by kernel_rfl
theorem uc19:(Tryz.f3.resultTypes.all (λt=>Tryz.pinned.checked.prog.readableRec t&&decide (t<Tryz.pinned.checked.prog.types.size)))=true:=by kernel_rfl
theorem uc20:((Rows.topTunedRow.ifacesOut==Tryz.f3.resultTypes.toList.any (Tryz.pinned.checked.prog.ifacesRec ·)))=true:=by kernel_rfl
theorem uc21:((Rows.topTunedRow.loopsOut==Tryz.f3.resultTypes.toList.any (Tryz.pinned.checked.prog.loopsFrom ·)))=true:=by kernel_rfl
theorem uc22:((Rows.topTunedRow.plainKeys==Tryz.pinned.checked.prog.plainKeys))=true:=by kernel_rfl
theorem uc23:(Rows.topTunedRow.shortTexts.isNone)=true:=by kernel_rfl
theorem uc26:((Rows.topTunedRow.lifted==Tryz.pinned.checked.prog.liftsFinal))=true:=by kernel_rfl
theorem uc27:((Tryz.pinned.checked.prog.make==some Rows.topTunedRow.make))=true:=by kernel_rfl
theorem uc28:((Rows.topTunedRow.kinds==(if Rows.topTunedRow.domain.isEmpty then [] else Tryz.f3.params.toList.map λt=>match Tryz.pinned.checked.prog.underlying t with|some (.int k)=>some k|_=>none)))=true:=by kernel_rfl
theorem uc29:((Rows.topTunedRow.pinned==Rows.topTunedRow.pinnedBy))=true:=by kernel_rfl
theorem uc30:((Rows.topTunedRow.veiled==(Tryz.f3.params.toList++(OpenSpec.ofChange Rows.topTunedSpec).bare.plain.varTypes Tryz.pinned.checked.prog++Tryz.f3.resultTypes.toList).any (Tryz.pinned.checked.prog.veiledRec ·)))=true:=by kernel_rfl
theorem uc31:(Rows.topTunedRow.veiledFits Tryz.pinned.checked.prog Tryz.f3.params.toList (Tryz.f3.params.toList++(OpenSpec.ofChange Rows.topTunedSpec).bare.plain.varTypes Tryz.pinned.checked.prog++Tryz.f3.resultTypes.toList))=true:=by kernel_rfl
end Go.Proofs.YtjibohkeapdalaaGreatDoor
