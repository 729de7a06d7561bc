/-
  The statement on clavecintop.TopTuned, proved at every input: the row, and its tied card; no other condition.
-/
import Derived.Test.YtjibohkeapdalaaGreatDoorCards
import Derived.Test.YtjibohkeapdalaaGreatDoorFa
import Derived.Test.YtjibohkeapdalaaGreatDoorEg
import Derived.Test.YtjibohkeapdalaaGreatDoorFh
import Derived.Test.YtjibohkeapdalaaGreatDoorFi
import Derived.SliceStrings
import Derived.OpenShut
import Derived.ProofKit
import Derived.Deep.DeepHandedRow
import Derived.Lib.LaidTab
import Derived.Shelf.Vars
namespace Go.Proofs.YtjibohkeapdalaaGreatDoor
set_option maxHeartbeats 800000
set_option maxRecDepth 100000
open Go Go.ChangeShapes Go.WideShapes Go.RowKit
theorem rowOwn:ownKnob Tryz.prog.godebug=none:=by kernel_rfl
theorem rowLaidOut:laidOutB Tryz.prog=true:=by kernel_rfl
theorem laid_tail{P:Program}{x:String×DataW Unit}{l:List (String×DataW Unit)}{W:World}(h:laidMet P (x :: l) W):laidMet P l W:=by
 obtain⟨n,d⟩:=x
 obtain⟨ps,⟨g,t,cs,fuel,p,q,-,-,-,-,hq,rfl⟩,hn,hc⟩:=h
 exact⟨q,hq,(List.nodup_append.1 hn).2.1,λb off hp=>hc b off (List.mem_append.2 (.inr hp))⟩
theorem tab_pow {W : World} (h : laidMet Tryz.prog Rows.topTunedRow.laid W) : Lib.TabIs Tryz.prog W "internal/strconv.uint64pow10" .u64 Lib.pow10Tab :=
 Lib.tabIs_of_head (t:=516) (e:=38) (n:=20) (g:=3) (by kernel_rfl) (by kernel_rfl) Tryz.underlying516 Tryz.underlying38 (by kernel_rfl) (by kernel_rfl) h
theorem tab_space {W : World} (h : laidMet Tryz.prog Rows.topTunedRow.laid W) : Lib.TabIs Tryz.prog W "strings.asciiSpace" .u8 Lib.asciiSpaceTab :=
 Lib.tabIs_of_head (t:=439) (e:=5) (n:=256) (g:=1) (by kernel_rfl) (by kernel_rfl) Tryz.underlying439 Tryz.underlying5 (by kernel_rfl) (by kernel_rfl) (laid_tail (laid_tail (laid_tail (laid_tail (laid_tail (laid_tail (laid_tail h)))))))
theorem gl_of{W:World}(h:laidMet Tryz.prog Rows.topTunedRow.laid W)(hs:W.ShapedOpen Tryz.prog):Gl W.heap.size W:=by
 obtain⟨m,hm⟩:=cell_of_shapedOpen_int (g:=0) (t:=3) (zero:=#[.int .i64 0]) (k:=.i64) hs (of_decide_eq_true (by kernel_rfl)) (by kernel_rfl) rfl (by kernel_rfl) (by kernel_rfl) Tryz.underlying3
 refine⟨Lib.tabBelow_of_tabIs (tab_pow h),Lib.tabBelow_of_tabIs (tab_space h),⟨m,hm⟩,?_⟩
 by_cases hl:0<W.heap.size
 ·exact hl
 ·simp[World.cell?,Array.getElem?_eq_none (Nat.le_of_not_lt hl)] at hm
theorem undone_lifted(os:Os)(started:os.Started)(H:Type)(enc:TypeId×Value->H)(F:Stop.Interp) :
 ReturnsInHanded {} Tryz.checked os 3 .any ((OpenSpec.ofChange Rows.topTunedSpec).preRow enc Tryz.prog Tryz.f3 Rows.topTunedRow.domain false Rows.topTunedRow.laid) (((OpenSpec.ofChange Rows.topTunedSpec).at F).post enc Tryz.prog Tryz.f3 false true false false):=by
 obtain⟨places,hx⟩:∃ places,DataW.whole enc Tryz.prog ((laidWorld os).forCall (λ_ _=>0) ⟨#[],#[.agg #[.int .i64 0,.int .i64 0,.int .i64 0,.int .i64 0,.int .i64 0,.int .i64 0,.int .i64 0,.slice none 0 0,.slice none 0 0],.int .i64 0,.agg #[.int .i64 0,.int .i64 0,.int .i64 0,.int .i64 0,.int .i64 0,.int .i64 0]],[]⟩).memory Tryz.f3.params.toList Rows.topTunedSpec.vars false #[Value.agg #[.int .i64 0,.int .i64 0,.int .i64 0,.int .i64 0,.int .i64 0,.int .i64 0,.int .i64 0,.slice none 0 0,.slice none 0 0],Value.int .i64 0,Value.agg #[.int .i64 0,.int .i64 0,.int .i64 0,.int .i64 0,.int .i64 0,.int .i64 0]].toList 8=some ([.agg [.lit (.int .i64 0),.lit (.int .i64 0),.lit (.int .i64 0),.lit (.int .i64 0),.lit (.int .i64 0),.lit (.int .i64 0),.lit (.int .i64 0),.nil,.nil],.lit (.int .i64 0),.agg [.lit (.int .i64 0),.lit (.int .i64 0),.lit (.int .i64 0),.lit (.int .i64 0),.lit (.int .i64 0),.lit (.int .i64 0)]],[],places):=⟨[],by kernel_rfl⟩
 refine returnsInHanded_of_row (C:=Tryz.checked) (s:=OpenSpec.ofChange Rows.topTunedSpec) rowOwn started (by kernel_rfl) Tryz.func3
  (witness_row_atRef (enc:=enc) (C:=Tryz.checked) false (laidWorld os) #[.agg #[.int .i64 0,.int .i64 0,.int .i64 0,.int .i64 0,.int .i64 0,.int .i64 0,.int .i64 0,.slice none 0 0,.slice none 0 0],.int .i64 0,.agg #[.int .i64 0,.int .i64 0,.int .i64 0,.int .i64 0,.int .i64 0,.int .i64 0]] rfl (by kernel_rfl) (by kernel_rfl) (by kernel_rfl)
   (OpenSpec.preRow_of_cond 8 hx (by kernel_rfl) (λk hk=>by cases hk) (by kernel_rfl) (laid_met os _))) ?_
 intro W base args ds gs before hval0 hW _ _ _ hL0 hsh _
 have hL:laidMet Tryz.prog Rows.topTunedRow.laid W:=hL0
 have hval:∀ (j:Nat) t v,Tryz.f3.params[j]?=some t->args[j]?=some v->Value.okWide Tryz.prog W .any base t v:=hval0
 have hW':=hW
 obtain⟨p,q,hA0,hV,rfl,_,_⟩:=hW
 have hA:DataW.TrodAll enc Tryz.prog W 0 (λ_=>true) true Tryz.f3.params.toList args.toList ds p:=hA0
 rw[Tryz.params3] at hA hval
 obtain⟨v0,v1,v2,d0,d1,d2,p0,p1,p2,rfl,rfl,rfl,h0,h1,h2⟩:=trodAll_three hA
 obtain⟨rfl,rfl⟩:=trodVars_none hV
 clear hA0 hval0
 simp only[List.append_nil] at hW'
 obtain⟨r0,r1,r2,r3,r4,r5,r6,r7,r8,rfl⟩:=open_ringZ (hval 0 24 v0 rfl rfl) h0
 obtain⟨x1,rfl,_,_,wf1⟩:=open_int Tryz.underlying3 (hval 1 3 v1 rfl rfl) h1
 obtain⟨b0,b1,b2,b3,b4,b5,rfl⟩:=open_six (hval 2 25 v2 rfl rfl) h2
 refine (tuned_any W r0 r1 r2 r3 r4 r5 r6 r7 r8 x1 b0 b1 b2 b3 b4 b5 W.heap.size (gl_of hL hsh) (Nat.le_refl _)).mono λe' W' ⟨he,hb⟩=>?_
 subst he
 refine⟨_,rfl,_,_,_,[],_,[],hW',?_,trodAll_mk3 (Below.trod rowLaidOut (by kernel_rfl) (of_decide_eq_true (by kernel_rfl)) h0 hb (λx hx=>hW'.lt x (by simp[hx]))) (Below.trod rowLaidOut (by kernel_rfl) (of_decide_eq_true (by kernel_rfl)) h1 hb (λx hx=>hW'.lt x (by simp[hx]))) (Below.trod rowLaidOut (by kernel_rfl) (of_decide_eq_true (by kernel_rfl)) h2 hb (λx hx=>hW'.lt x (by simp[hx]))),rfl,hb.frame _,λh=>by cases h⟩
 exact trodAll_mk1 (shut_bool Tryz.underlying4 _)
theorem undone_inst:Tryz.f3.isInstance Tryz.pinned.checked.prog Rows.topTunedRow.origin Rows.topTunedRow.targs:=of_decide_eq_true (by kernel_rfl)
theorem undone_wrap:Tryz.f3.isWrapper Tryz.pinned.checked.prog Rows.topTunedRow.wrapper Rows.topTunedRow.mainSum:=by unfold Func.isWrapper;rw[if_neg (by decide +kernel)];exact⟨rfl,rfl⟩
theorem undone_said:Rows.TopTunedSaid:=
 OpenClaim.holds_of_cond 3 Tryz.f3 rfl rfl rfl rfl rfl rfl rfl ⟨rfl,rfl,rfl,rfl,rfl⟩ rfl rfl rfl rfl rfl u_named Tryz.func3 undone_closed
  undone_inst undone_wrap
  (λos started H enc _ F=>by rw[OpenClaim.pre_eq_preRow];exact undone_lifted os started H enc F)
theorem undone_plain(f:FuncId)(fn:Func)(hf:Tryz.pinned.checked.prog.funcNamed Rows.topTunedRow.func=some f)(hfn:Tryz.pinned.checked.prog.funcs[f]?=some fn) :
 true=Tryz.pinned.checked.prog.looks []/\∀ (j:Nat) t,fn.params[j]?=some t->Tryz.pinned.checked.prog.wantsStandIn t=false:=by
 obtain rfl:f=3:=Option.some.inj (u_named.symm.trans hf) |>.symm
 obtain rfl:fn=Tryz.f3:=(Option.some.inj (Tryz.func3.symm.trans hfn)).symm
 refine⟨u_looks,λj t ht=>?_⟩
 rw[Tryz.params3] at ht
 have h:=Array.mem_of_getElem? ht
 simp only[List.mem_toArray,List.mem_cons,List.not_mem_nil,or_false] at h
 rcases h with rfl|rfl|rfl
 ·exact (show Tryz.prog.wantsStandIn 24=false by kernel_rfl)
 ·exact (show Tryz.prog.wantsStandIn 3=false by kernel_rfl)
 ·exact (show Tryz.prog.wantsStandIn 25=false by kernel_rfl)
theorem topTuned_holds:Rows.TopTunedCardSaid:=
 Claim7.holds_tied_plain_at .later [] _ _ _ _ undone_said (λ_ h=>by cases h) u_wf (λ_ h=>by cases h) upto_row_tie rfl ⟨rfl,rfl⟩ u_main rfl undone_plain u_goes
end Go.Proofs.YtjibohkeapdalaaGreatDoor
