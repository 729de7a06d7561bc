/-
  The closed facts of the row, each by itself.
-/
import Derived.Test.YtndcijkgaadpgaaGreatDoorRows
import Derived.JoinedCond
import Derived.KernelRfl
namespace Go.Proofs.YtndcijkgaadpgaaGreatDoor
open Go
theorem uc13 : ((Rows.houseNobodyUptoRow.maps == (Tryz.f4.params.toList ++ (Rows.OpenSpec.upto Rows.houseNobodySpec).bare.plain.varTypes Tryz.pinned.checked.prog).any (Tryz.pinned.checked.prog.mapsRec ·))) = true := by kernel_rfl
theorem uc14 : ((Rows.houseNobodyUptoRow.ifaces == (Tryz.f4.params.toList ++ (Rows.OpenSpec.upto Rows.houseNobodySpec).bare.plain.varTypes Tryz.pinned.checked.prog).any (Tryz.pinned.checked.prog.ifacesRec ·))) = true := by kernel_rfl
theorem uc15 : ((Rows.houseNobodyUptoRow.mapsOut == Tryz.pinned.checked.prog.mapsAmong Tryz.f4.resultTypes.toList)) = true := by kernel_rfl
theorem uc16 : ((Rows.houseNobodyUptoRow.loops == (Tryz.f4.params.toList ++ (Rows.OpenSpec.upto Rows.houseNobodySpec).bare.plain.varTypes Tryz.pinned.checked.prog).any (Tryz.pinned.checked.prog.loopsFrom ·))) = true := by kernel_rfl
theorem uc17 : ((Rows.houseNobodyUptoRow.wideKeys == (Tryz.f4.params.toList ++ (Rows.OpenSpec.upto Rows.houseNobodySpec).bare.plain.varTypes Tryz.pinned.checked.prog ++ Tryz.f4.resultTypes.toList).any (Tryz.pinned.checked.prog.wideKeysFrom ·))) = true := by kernel_rfl
theorem uc18 : ((Rows.OpenSpec.upto Rows.houseNobodySpec).bare.vars.all (Tryz.pinned.checked.prog.varReadable ·)) = true := by kernel_rfl
theorem uc19 : (Tryz.f4.resultTypes.all (fun t => Tryz.pinned.checked.prog.readableRec t && decide (t < Tryz.pinned.checked.prog.types.size))) = true := by kernel_rfl
theorem uc20 : ((Rows.houseNobodyUptoRow.ifacesOut == Tryz.f4.resultTypes.toList.any (Tryz.pinned.checked.prog.ifacesRec ·))) = true := by kernel_rfl
theorem uc21 : ((Rows.houseNobodyUptoRow.loopsOut == Tryz.f4.resultTypes.toList.any (Tryz.pinned.checked.prog.loopsFrom ·))) = true := by kernel_rfl
theorem uc22 : ((Rows.houseNobodyUptoRow.plainKeys == Tryz.pinned.checked.prog.plainKeys)) = true := by kernel_rfl
theorem uc23 : (Rows.houseNobodyUptoRow.shortTexts.isNone) = true := by kernel_rfl
theorem uc26 : ((Rows.houseNobodyUptoRow.lifted == Tryz.pinned.checked.prog.liftsFinal)) = true := by kernel_rfl
theorem uc27 : ((Tryz.pinned.checked.prog.make == some Rows.houseNobodyUptoRow.make)) = true := by kernel_rfl
theorem uc28 : ((Rows.houseNobodyUptoRow.kinds == (if Rows.houseNobodyUptoRow.domain.isEmpty then [] else Tryz.f4.params.toList.map fun t => match Tryz.pinned.checked.prog.underlying t with | some (.int k) => some k | _ => none))) = true := by kernel_rfl
theorem uc29 : ((Rows.houseNobodyUptoRow.pinned == Rows.houseNobodyUptoRow.pinnedBy)) = true := by kernel_rfl
theorem uc30 : ((Rows.houseNobodyUptoRow.veiled == (Tryz.f4.params.toList ++ (Rows.OpenSpec.upto Rows.houseNobodySpec).bare.plain.varTypes Tryz.pinned.checked.prog ++ Tryz.f4.resultTypes.toList).any (Tryz.pinned.checked.prog.veiledRec ·))) = true := by kernel_rfl
theorem uc31 : (Rows.houseNobodyUptoRow.veiledFits Tryz.pinned.checked.prog Tryz.f4.params.toList (Tryz.f4.params.toList ++ (Rows.OpenSpec.upto Rows.houseNobodySpec).bare.plain.varTypes Tryz.pinned.checked.prog ++ Tryz.f4.resultTypes.toList)) = true := by kernel_rfl
end Go.Proofs.YtndcijkgaadpgaaGreatDoor
