/-
The rows of the places that the row's variables read fit; conditions: those of each theorem.
-/
import Derived.Test.YtgbnicokglpdbaaGreatDoorHa
namespace Go.Proofs.YtgbnicokglpdbaaGreatDoor
open Go
theorem Ke(os:Os)(tape:Tape):(DataW.laidRun Tryz.prog (varsWorld Tryz.prog 400 (varsId Tryz.prog) os tape).memory 8 (rE.map (·.1))).map (λx=>laidRowsB Tryz.prog (varsWorld Tryz.prog 400 (varsId Tryz.prog) os tape).memory x.2)=some true:=by kernel_rfl
end Go.Proofs.YtgbnicokglpdbaaGreatDoor
