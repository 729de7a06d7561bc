/-
  No place twice among those that the row's variables read.
-/
import Derived.Test.YtjibohkeapdalaaGreatDoorHa
import Derived.Deep.DeepLaidRun
namespace Go.Proofs.YtjibohkeapdalaaGreatDoor
open Go
theorem tie9a(os:Os)(tape:Tape):(DataW.laidRun Tryz.prog (varsWorld Tryz.prog 400 (varsId Tryz.prog) os tape).memory 8 (tieL.map (·.1))).map (λx=>nodupB (x.2.map MemPlace.codeOf))=some true:=by kernel_rfl
end Go.Proofs.YtjibohkeapdalaaGreatDoor
