/-
  The closed facts of the row, joined; those that its card asks.
-/
import Derived.Test.YtjibohkeapdalaaGreatDoorCards
import Derived.Test.YtjibohkeapdalaaGreatDoorFb
import Derived.Test.YtjibohkeapdalaaGreatDoorFc
import Derived.Test.YtjibohkeapdalaaGreatDoorFe
import Derived.Test.YtjibohkeapdalaaGreatDoorFg
import Derived.Test.YtjibohkeapdalaaGreatDoorFf
import Derived.Test.YtjibohkeapdalaaGreatDoorFd
import Derived.SevenTiedAt
namespace Go.Proofs.YtjibohkeapdalaaGreatDoor
set_option maxRecDepth 100000
open Go
theorem and_b{a b:Bool}(h1:a=true)(h2:b=true):(a&&b)=true:=by rw[h1,h2];rfl
theorem uc11:(Rows.topTunedRow.recurses==Tryz.pinned.checked.prog.recurses 3)=true:=by
 have h1:true=Tryz.pinned.checked.prog.unfollowed 3:=beq_iff_eq.1 uc10
 have h2:Tryz.pinned.checked.prog.recurses 3=true:=by
  unfold Program.recurses
  rw[← h1,Bool.true_or]
 rw[h2]
 rfl
theorem undone_closed:joinedFacts Tryz.pinned.checked.prog 3 Tryz.f3 (OpenSpec.ofChange Rows.topTunedSpec).bare Rows.topTunedRow=true:=by
 unfold joinedFacts
 exact (and_b (and_b (and_b (and_b (and_b (and_b (and_b (and_b (and_b (and_b (and_b (and_b (and_b (and_b (and_b (and_b (and_b (and_b (and_b (and_b (and_b (and_b (and_b (and_b (and_b (and_b (and_b (and_b (and_b (and_b (and_b (uc0) uc1) uc2) uc3) uc4) uc5) uc6) uc7) uc8) uc9) uc10) uc11) uc12) uc13) uc14) uc15) uc16) uc17) uc18) uc19) uc20) uc21) uc22) uc23) uc24) uc25) uc26) uc27) uc28) uc29) uc30) uc31)
theorem goes_no{P:Program}(h:P.funcs.any Func.goes=false)(f:FuncId):P.goes f=false:=by
 unfold Program.goes
 rw[h,Bool.and_false,Bool.or_false,List.any_eq_false]
 intro g _ hg
 rw[Option.any_eq_true] at hg
 obtain⟨fn,h1,h2⟩:=hg
 rw[Array.any_eq_false] at h
 obtain⟨h3,h4⟩:=Array.getElem?_eq_some_iff.1 h1
 exact h g h3 (by rw[h4];exact h2)
theorem u_goes:false=Rows.topTunedRow.goesBy Tryz.pinned.checked.prog:=by
 unfold OpenClaim.goesBy Program.goesAt Program.goesFrom
 rw[u_named,Option.any_some,goes_no all_goes]
 rfl
end Go.Proofs.YtjibohkeapdalaaGreatDoor
