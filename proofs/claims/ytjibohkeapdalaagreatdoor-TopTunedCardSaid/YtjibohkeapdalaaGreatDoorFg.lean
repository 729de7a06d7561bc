/-
  The program's head words let it be entered.
-/
import Derived.Test.YtjibohkeapdalaaGreatDoorRows
import GoSem.ClaimOpen
import Derived.JoinedCond
import Derived.KernelRfl
namespace Go.Proofs.YtjibohkeapdalaaGreatDoor
open Go
theorem lifts_cut (r : List (List Char)) : stripLifts liftWords ("cut".toList :: r) = ([], "cut".toList :: r) := by rfl
theorem may_of {P : Program} (h : (behindMainWord (wordsSigns P.initOrder.toList)).head? = some "cut".toList) (h1 : P.laysLater = false) (h2 : P.bearsReflect = false) (h3 : P.doorFits [] = true) : P.mayEnter = true := by
 obtain⟨r,hr⟩:=List.head?_eq_some_iff.1 h
 unfold Program.mayEnter
 rw[hr]
 dsimp only
 rw[lifts_cut,h1,h2,h3]
 simp
theorem ue0 : (behindMainWord (wordsSigns Tryz.pinned.checked.prog.initOrder.toList)).head? = some "cut".toList := by kernel_rfl
theorem ue1:Tryz.pinned.checked.prog.laysLater=false:=by kernel_rfl
theorem ue2:Tryz.pinned.checked.prog.bearsReflect=false:=by kernel_rfl
theorem ue3:Tryz.pinned.checked.prog.doorFits []=true:=by kernel_rfl
theorem uc25:(Tryz.pinned.checked.prog.mayEnter)=true:=may_of ue0 ue1 ue2 ue3
end Go.Proofs.YtjibohkeapdalaaGreatDoor
