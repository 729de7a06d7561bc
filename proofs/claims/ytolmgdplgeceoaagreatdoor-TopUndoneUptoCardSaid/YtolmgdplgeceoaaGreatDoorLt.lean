/-
  The closed facts of the row, each by itself.
-/
import Derived.Test.YtolmgdplgeceoaaGreatDoorRows
import Derived.JoinedCond
import Derived.KernelRfl
namespace Go.Proofs.YtolmgdplgeceoaaGreatDoor
open Go
theorem uc0 : (Rows.topUndoneUptoRow.wf (OpenSpec.ofChange (Rows.OpenSpec.upto Rows.topUndoneSpec).bare)) = true := by kernel_rfl
theorem uc1 : (laidOutB Tryz.pinned.checked.prog) = true := by kernel_rfl
theorem uc2 : (mapsRowed Tryz.pinned.checked.prog) = true := by kernel_rfl
theorem uc3 : (Tryz.f3.params.all (Tryz.pinned.checked.prog.readableRec ·)) = true := by kernel_rfl
theorem uc4 : (namedTie Tryz.pinned.checked.prog Rows.topUndoneUptoRow.named (Rows.OpenSpec.upto Rows.topUndoneSpec).bare.vars) = true := by kernel_rfl
theorem uc5 : ((Rows.topUndoneUptoRow.stops == [])) = true := by kernel_rfl
theorem uc6 : ((Tryz.pinned.checked.prog.stops == [])) = true := by kernel_rfl
theorem uc7 : ((Rows.topUndoneUptoRow.knobs == [])) = true := by kernel_rfl
theorem uc8 : ((Tryz.pinned.checked.prog.stopKnobs == [])) = true := by kernel_rfl
theorem uc13 : ((Rows.topUndoneUptoRow.maps == (Tryz.f3.params.toList ++ (Rows.OpenSpec.upto Rows.topUndoneSpec).bare.plain.varTypes Tryz.pinned.checked.prog).any (Tryz.pinned.checked.prog.mapsRec ·))) = true := by kernel_rfl
theorem uc14 : ((Rows.topUndoneUptoRow.ifaces == (Tryz.f3.params.toList ++ (Rows.OpenSpec.upto Rows.topUndoneSpec).bare.plain.varTypes Tryz.pinned.checked.prog).any (Tryz.pinned.checked.prog.ifacesRec ·))) = true := by kernel_rfl
theorem uc15 : ((Rows.topUndoneUptoRow.mapsOut == Tryz.pinned.checked.prog.mapsAmong Tryz.f3.resultTypes.toList)) = true := by kernel_rfl
theorem uc16 : ((Rows.topUndoneUptoRow.loops == (Tryz.f3.params.toList ++ (Rows.OpenSpec.upto Rows.topUndoneSpec).bare.plain.varTypes Tryz.pinned.checked.prog).any (Tryz.pinned.checked.prog.loopsFrom ·))) = true := by kernel_rfl
theorem uc17 : ((Rows.topUndoneUptoRow.wideKeys == (Tryz.f3.params.toList ++ (Rows.OpenSpec.upto Rows.topUndoneSpec).bare.plain.varTypes Tryz.pinned.checked.prog ++ Tryz.f3.resultTypes.toList).any (Tryz.pinned.checked.prog.wideKeysFrom ·))) = true := by kernel_rfl
theorem uc18 : ((Rows.OpenSpec.upto Rows.topUndoneSpec).bare.vars.all (Tryz.pinned.checked.prog.varReadable ·)) = true := by kernel_rfl
theorem uc19 : (Tryz.f3.resultTypes.all (fun t => Tryz.pinned.checked.prog.readableRec t && decide (t < Tryz.pinned.checked.prog.types.size))) = true := by kernel_rfl
theorem uc20 : ((Rows.topUndoneUptoRow.ifacesOut == Tryz.f3.resultTypes.toList.any (Tryz.pinned.checked.prog.ifacesRec ·))) = true := by kernel_rfl
theorem uc21 : ((Rows.topUndoneUptoRow.loopsOut == Tryz.f3.resultTypes.toList.any (Tryz.pinned.checked.prog.loopsFrom ·))) = true := by kernel_rfl
theorem uc22 : ((Rows.topUndoneUptoRow.plainKeys == Tryz.pinned.checked.prog.plainKeys)) = true := by kernel_rfl
theorem uc23 : (Rows.topUndoneUptoRow.shortTexts.isNone) = true := by kernel_rfl
theorem uc24 : (Tryz.pinned.checked.prog.stopsHeard) = true := by kernel_rfl
theorem uc25 : (Tryz.pinned.checked.prog.mayEnter) = true := by kernel_rfl
theorem uc26 : ((Rows.topUndoneUptoRow.lifted == Tryz.pinned.checked.prog.liftsFinal)) = true := by kernel_rfl
theorem uc27 : ((Tryz.pinned.checked.prog.make == some Rows.topUndoneUptoRow.make)) = true := by kernel_rfl
theorem uc28 : ((Rows.topUndoneUptoRow.kinds == (if Rows.topUndoneUptoRow.domain.isEmpty then [] else Tryz.f3.params.toList.map fun t => match Tryz.pinned.checked.prog.underlying t with | some (.int k) => some k | _ => none))) = true := by kernel_rfl
theorem uc29 : ((Rows.topUndoneUptoRow.pinned == Rows.topUndoneUptoRow.pinnedBy)) = true := by kernel_rfl
theorem uc30 : ((Rows.topUndoneUptoRow.veiled == (Tryz.f3.params.toList ++ (Rows.OpenSpec.upto Rows.topUndoneSpec).bare.plain.varTypes Tryz.pinned.checked.prog ++ Tryz.f3.resultTypes.toList).any (Tryz.pinned.checked.prog.veiledRec ·))) = true := by kernel_rfl
theorem uc31 : (Rows.topUndoneUptoRow.veiledFits Tryz.pinned.checked.prog Tryz.f3.params.toList (Tryz.f3.params.toList ++ (Rows.OpenSpec.upto Rows.topUndoneSpec).bare.plain.varTypes Tryz.pinned.checked.prog ++ Tryz.f3.resultTypes.toList)) = true := by kernel_rfl
end Go.Proofs.YtolmgdplgeceoaaGreatDoor
