/-
The closed facts of the row, each by itself; conditions: those of each theorem.
-/
import Derived.Test.YtgbnicokglpdbaaGreatDoorRows
import Derived.JoinedCond
namespace Go.Proofs.YtgbnicokglpdbaaGreatDoor
open Go
theorem Le:(Rows.topProofsRow.wf (OpenSpec.ofChange (OpenSpec.ofChange Rows.topProofsSpec).bare))=true:=by kernel_rfl
theorem Lf:(laidOutB Tryz.pinned.checked.prog)=true:=by kernel_rfl
theorem Lg:(mapsRowed Tryz.pinned.checked.prog)=true:=by kernel_rfl
theorem Lh:(Tryz.f3.params.all (Tryz.pinned.checked.prog.readableRec ·))=true:=by kernel_rfl
theorem Li:(namedTie Tryz.pinned.checked.prog Rows.topProofsRow.named (OpenSpec.ofChange Rows.topProofsSpec).bare.vars)=true:=by kernel_rfl
theorem Lj:((Rows.topProofsRow.stops==[]))=true:=by kernel_rfl
theorem JZ:((Tryz.pinned.checked.prog.stops==[]))=true:=by kernel_rfl
theorem Ln:((Rows.topProofsRow.knobs==[]))=true:=by kernel_rfl
theorem EE{l:List String}(h:l.eraseDups=[]):l=[]:=by
 cases l with
 |nil=>rfl
 |cons a r=>rw[List.eraseDups_cons] at h;cases h
theorem vF{P:Program}(h:P.stops=[]):∀ fn∈P.funcs.toList,Stop.rowOf fn=none:=λfn hf=>by
 have h2:=List.filterMap_eq_nil_iff.1 (EE h) fn hf
 simpa using h2
theorem EX{P:Program}(h:P.stops=[]):P.stopsHeard=true:=by
 unfold Program.stopsHeard
 rw[← Array.all_toList,List.all_eq_true]
 intro fn hf
 rw[vF h fn hf]
 rfl
theorem Fb{P:Program}(h:P.stops=[]):P.stopKnobs=[]:=by
 unfold Program.stopKnobs
 rw[List.filterMap_eq_nil_iff.2 (vF h)]
 rfl
theorem Lo:((Tryz.pinned.checked.prog.stopKnobs==[]))=true:=by rw[Fb (beq_iff_eq.1 JZ)];rfl
theorem KW:(Tryz.pinned.checked.prog.stopsHeard)=true:=EX (beq_iff_eq.1 JZ)
end Go.Proofs.YtgbnicokglpdbaaGreatDoor
