/-
  The closed facts of the row, each by itself.
-/
import Derived.Test.YtjibohkeapdalaaGreatDoorRows
import Derived.JoinedCond
import Derived.KernelRfl
namespace Go.Proofs.YtjibohkeapdalaaGreatDoor
open Go
theorem uc0:(Rows.topTunedRow.wf (OpenSpec.ofChange (OpenSpec.ofChange Rows.topTunedSpec).bare))=true:=by kernel_rfl
theorem uc1:(laidOutB Tryz.pinned.checked.prog)=true:=by kernel_rfl
theorem uc2:(mapsRowed Tryz.pinned.checked.prog)=true:=by kernel_rfl
theorem uc3:(Tryz.f3.params.all (Tryz.pinned.checked.prog.readableRec ·))=true:=by kernel_rfl
theorem uc4:(namedTie Tryz.pinned.checked.prog Rows.topTunedRow.named (OpenSpec.ofChange Rows.topTunedSpec).bare.vars)=true:=by kernel_rfl
theorem uc5:((Rows.topTunedRow.stops==[]))=true:=by kernel_rfl
theorem uc6:((Tryz.pinned.checked.prog.stops==[]))=true:=by kernel_rfl
theorem uc7:((Rows.topTunedRow.knobs==[]))=true:=by kernel_rfl
theorem dups_nil{l:List String}(h:l.eraseDups=[]):l=[]:=by
 cases l with
 |nil=>rfl
 |cons a r=>rw[List.eraseDups_cons] at h;cases h
theorem rows_none{P:Program}(h:P.stops=[]):∀ fn∈P.funcs.toList,Stop.rowOf fn=none:=λfn hf=>by
 have h2:=List.filterMap_eq_nil_iff.1 (dups_nil h) fn hf
 simpa using h2
theorem heard_of{P:Program}(h:P.stops=[]):P.stopsHeard=true:=by
 unfold Program.stopsHeard
 rw[← Array.all_toList,List.all_eq_true]
 intro fn hf
 rw[rows_none h fn hf]
 rfl
theorem knobs_of{P:Program}(h:P.stops=[]):P.stopKnobs=[]:=by
 unfold Program.stopKnobs
 rw[List.filterMap_eq_nil_iff.2 (rows_none h)]
 rfl
theorem uc8:((Tryz.pinned.checked.prog.stopKnobs==[]))=true:=by rw[knobs_of (beq_iff_eq.1 uc6)];rfl
theorem uc24:(Tryz.pinned.checked.prog.stopsHeard)=true:=heard_of (beq_iff_eq.1 uc6)
end Go.Proofs.YtjibohkeapdalaaGreatDoor
