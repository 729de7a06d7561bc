/-
No place twice among those that the row's variables read; conditions: those of each theorem.
-/
import Derived.Test.YtgbnicokglpdbaaGreatDoorHa
import Derived.Deep.DeepLaidRun
namespace Go.Proofs.YtgbnicokglpdbaaGreatDoor
open Go
theorem Kd(os:Os)(tape:Tape):(DataW.laidRun Tryz.prog (varsWorld Tryz.prog 400 (varsId Tryz.prog) os tape).memory 8 (rE.map (·.1))).map (λx=>nodupB (x.2.map MemPlace.codeOf))=some true:=by kernel_rfl
end Go.Proofs.YtgbnicokglpdbaaGreatDoor
