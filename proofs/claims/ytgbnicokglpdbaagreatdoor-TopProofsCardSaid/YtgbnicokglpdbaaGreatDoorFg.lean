/-
The program's head words let it be entered; conditions: those of each theorem.
-/
import Derived.Test.YtgbnicokglpdbaaGreatDoorRows
import Derived.JoinedCond
namespace Go.Proofs.YtgbnicokglpdbaaGreatDoor
open Go
theorem CZ (r : List (List Char)) : stripLifts liftWords ("cut".toList :: r) = ([], "cut".toList :: r) := by rfl
theorem Jt {P : Program} (h : (behindMainWord (wordsSigns P.initOrder.toList)).head? = some "cut".toList) (h1 : P.laysLater = false) (h2 : P.bearsReflect = false) (h3 : P.doorFits [] = true) : P.mayEnter = true := by
 obtain⟨r,hr⟩:=List.head?_eq_some_iff.1 h
 unfold Program.mayEnter
 rw[hr]
 dsimp only
 rw[CZ,h1,h2,h3]
 simp
theorem Lq : (behindMainWord (wordsSigns Tryz.pinned.checked.prog.initOrder.toList)).head? = some "cut".toList := by kernel_rfl
theorem Lr:Tryz.pinned.checked.prog.laysLater=false:=by kernel_rfl
theorem Ls:Tryz.pinned.checked.prog.bearsReflect=false:=by kernel_rfl
theorem Lt:Tryz.pinned.checked.prog.doorFits []=true:=by kernel_rfl
theorem KX:(Tryz.pinned.checked.prog.mayEnter)=true:=Jt Lq Lr Ls Lt
end Go.Proofs.YtgbnicokglpdbaaGreatDoor
