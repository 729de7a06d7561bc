/-
; conditions: those of each theorem.
-/
import Derived.Test.YtgbnicokglpdbaaGreatDoorHa
namespace Go.Proofs.YtgbnicokglpdbaaGreatDoor
open Go
theorem KH(os:Os)(tape:Tape):(DataW.laidRun Tryz.prog (varsWorld Tryz.prog 400 (varsId Tryz.prog) os tape).memory 8 (rE.map (·.1))).map (·.1)=some rE:=by kernel_rfl
end Go.Proofs.YtgbnicokglpdbaaGreatDoor
