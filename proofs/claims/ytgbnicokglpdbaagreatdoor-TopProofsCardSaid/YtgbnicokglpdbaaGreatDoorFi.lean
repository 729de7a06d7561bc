/-
The closed facts of the row, joined; conditions: those of each theorem.
-/
import Derived.Test.YtgbnicokglpdbaaGreatDoorFb
import Derived.Test.YtgbnicokglpdbaaGreatDoorFc
import Derived.Test.YtgbnicokglpdbaaGreatDoorFe
import Derived.Test.YtgbnicokglpdbaaGreatDoorFg
import Derived.Test.YtgbnicokglpdbaaGreatDoorFf
import Derived.Test.YtgbnicokglpdbaaGreatDoorFd
namespace Go.Proofs.YtgbnicokglpdbaaGreatDoor
set_option maxRecDepth 100000
open Go
theorem bY{a b:Bool}(h1:a=true)(h2:b=true):(a&&b)=true:=by rw[h1,h2];rfl
theorem KJ:(Rows.topProofsRow.recurses==Tryz.pinned.checked.prog.recurses 3)=true:=by
 have h1:true=Tryz.pinned.checked.prog.unfollowed 3:=beq_iff_eq.1 JY
 have h2:Tryz.pinned.checked.prog.recurses 3=true:=by
  unfold Program.recurses
  rw[← h1,Bool.true_or]
 rw[h2]
 rfl
theorem wg:joinedFacts Tryz.pinned.checked.prog 3 Tryz.f3 (OpenSpec.ofChange Rows.topProofsSpec).bare Rows.topProofsRow=true:=by
 unfold joinedFacts
 exact (bY (bY (bY (bY (bY (bY (bY (bY (bY (bY (bY (bY (bY (bY (bY (bY (bY (bY (bY (bY (bY (bY (bY (bY (bY (bY (bY (bY (bY (bY (bY (Le) Lf) Lg) Lh) Li) Lj) JZ) Ln) Lo) Lp) JY) KJ) KK) KL) KM) KN) KO) KP) KQ) KR) KS) KT) KU) KV) KW) KX) KY) KZ) K3) K4) K5) K6)
theorem Id{P:Program}(h:P.funcs.any Func.goes=false)(f:FuncId):P.goes f=false:=by
 unfold Program.goes
 rw[h,Bool.and_false,Bool.or_false,List.any_eq_false]
 intro g _ hg
 rw[Option.any_eq_true] at hg
 obtain⟨fn,h1,h2⟩:=hg
 rw[Array.any_eq_false] at h
 obtain⟨h3,h4⟩:=Array.getElem?_eq_some_iff.1 h1
 exact h g h3 (by rw[h4];exact h2)
theorem JW:false=Rows.topProofsRow.goesBy Tryz.pinned.checked.prog:=by
 unfold OpenClaim.goesBy Program.goesAt Program.goesFrom
 rw[uu,Option.any_some,Id Ek]
 rfl
end Go.Proofs.YtgbnicokglpdbaaGreatDoor
