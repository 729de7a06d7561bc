/-
  The rows of the places that the row's variables read fit.
-/
import Derived.Test.YtjibohkeapdalaaGreatDoorHa
namespace Go.Proofs.YtjibohkeapdalaaGreatDoor
open Go
theorem tie9b(os:Os)(tape:Tape):(DataW.laidRun Tryz.prog (varsWorld Tryz.prog 400 (varsId Tryz.prog) os tape).memory 8 (tieL.map (·.1))).map (λx=>laidRowsB Tryz.prog (varsWorld Tryz.prog 400 (varsId Tryz.prog) os tape).memory x.2)=some true:=by kernel_rfl
end Go.Proofs.YtjibohkeapdalaaGreatDoor
