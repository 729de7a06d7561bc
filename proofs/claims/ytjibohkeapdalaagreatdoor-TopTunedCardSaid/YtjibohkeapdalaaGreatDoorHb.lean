/-
  
-/
import Derived.Test.YtjibohkeapdalaaGreatDoorHa
namespace Go.Proofs.YtjibohkeapdalaaGreatDoor
open Go
theorem tie8(os:Os)(tape:Tape):(DataW.laidRun Tryz.prog (varsWorld Tryz.prog 400 (varsId Tryz.prog) os tape).memory 8 (tieL.map (·.1))).map (·.1)=some tieL:=by kernel_rfl
end Go.Proofs.YtjibohkeapdalaaGreatDoor
