/-
  The closed facts of the row, each by itself.
-/
import Derived.Test.YtndcijkgaadpgaaGreatDoorRows
import Derived.JoinedCond
import Derived.KernelRfl
namespace Go.Proofs.YtndcijkgaadpgaaGreatDoor
open Go
theorem uc13 : ((Rows.topWholeUptoRow.maps == (Tryz.f3.params.toList ++ (Rows.OpenSpec.upto Rows.topWholeSpec).bare.plain.varTypes Tryz.pinned.checked.prog).any (Tryz.pinned.checked.prog.mapsRec ·))) = true := by kernel_rfl
theorem uc14 : ((Rows.topWholeUptoRow.ifaces == (Tryz.f3.params.toList ++ (Rows.OpenSpec.upto Rows.topWholeSpec).bare.plain.varTypes Tryz.pinned.checked.prog).any (Tryz.pinned.checked.prog.ifacesRec ·))) = true := by kernel_rfl
theorem uc15 : ((Rows.topWholeUptoRow.mapsOut == Tryz.pinned.checked.prog.mapsAmong Tryz.f3.resultTypes.toList)) = true := by kernel_rfl
theorem uc16 : ((Rows.topWholeUptoRow.loops == (Tryz.f3.params.toList ++ (Rows.OpenSpec.upto Rows.topWholeSpec).bare.plain.varTypes Tryz.pinned.checked.prog).any (Tryz.pinned.checked.prog.loopsFrom ·))) = true := by kernel_rfl
theorem uc17 : ((Rows.topWholeUptoRow.wideKeys == (Tryz.f3.params.toList ++ (Rows.OpenSpec.upto Rows.topWholeSpec).bare.plain.varTypes Tryz.pinned.checked.prog ++ Tryz.f3.resultTypes.toList).any (Tryz.pinned.checked.prog.wideKeysFrom ·))) = true := by kernel_rfl
theorem uc18 : ((Rows.OpenSpec.upto Rows.topWholeSpec).bare.vars.all (Tryz.pinned.checked.prog.varReadable ·)) = true := by kernel_rfl
theorem uc19 : (Tryz.f3.resultTypes.all (fun t => Tryz.pinned.checked.prog.readableRec t && decide (t < Tryz.pinned.checked.prog.types.size))) = true := by kernel_rfl
theorem uc20 : ((Rows.topWholeUptoRow.ifacesOut == Tryz.f3.resultTypes.toList.any (Tryz.pinned.checked.prog.ifacesRec ·))) = true := by kernel_rfl
theorem uc21 : ((Rows.topWholeUptoRow.loopsOut == Tryz.f3.resultTypes.toList.any (Tryz.pinned.checked.prog.loopsFrom ·))) = true := by kernel_rfl
theorem uc22 : ((Rows.topWholeUptoRow.plainKeys == Tryz.pinned.checked.prog.plainKeys)) = true := by kernel_rfl
theorem uc23 : (Rows.topWholeUptoRow.shortTexts.isNone) = true := by kernel_rfl
theorem uc26 : ((Rows.topWholeUptoRow.lifted == Tryz.pinned.checked.prog.liftsFinal)) = true := by kernel_rfl
theorem uc27 : ((Tryz.pinned.checked.prog.make == some Rows.topWholeUptoRow.make)) = true := by kernel_rfl
theorem uc28 : ((Rows.topWholeUptoRow.kinds == (if Rows.topWholeUptoRow.domain.isEmpty then [] else Tryz.f3.params.toList.map fun t => match Tryz.pinned.checked.prog.underlying t with | some (.int k) => some k | _ => none))) = true := by kernel_rfl
theorem uc29 : ((Rows.topWholeUptoRow.pinned == Rows.topWholeUptoRow.pinnedBy)) = true := by kernel_rfl
theorem uc30 : ((Rows.topWholeUptoRow.veiled == (Tryz.f3.params.toList ++ (Rows.OpenSpec.upto Rows.topWholeSpec).bare.plain.varTypes Tryz.pinned.checked.prog ++ Tryz.f3.resultTypes.toList).any (Tryz.pinned.checked.prog.veiledRec ·))) = true := by kernel_rfl
theorem uc31 : (Rows.topWholeUptoRow.veiledFits Tryz.pinned.checked.prog Tryz.f3.params.toList (Tryz.f3.params.toList ++ (Rows.OpenSpec.upto Rows.topWholeSpec).bare.plain.varTypes Tryz.pinned.checked.prog ++ Tryz.f3.resultTypes.toList)) = true := by kernel_rfl
end Go.Proofs.YtndcijkgaadpgaaGreatDoor
