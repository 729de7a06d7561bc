/-
The statement on clavecintop.TopProofs, proved at every input: the row, and its tied card; no other condition.
-/
import Derived.Test.YtgbnicokglpdbaaGreatDoorFa
import Derived.Test.YtgbnicokglpdbaaGreatDoorEd
import Derived.Test.YtgbnicokglpdbaaGreatDoorFh
import Derived.Test.YtgbnicokglpdbaaGreatDoorFi
namespace Go.Proofs.YtgbnicokglpdbaaGreatDoor
set_option maxHeartbeats 800000
set_option maxRecDepth 100000
open Go Go.ChangeShapes Go.WideShapes Go.RowKit
theorem JM:ownKnob Tryz.prog.godebug=none:=by kernel_rfl
theorem BW:laidOutB Tryz.prog=true:=by kernel_rfl
theorem gB{P:Program}{x:String×DataW Unit}{l:List (String×DataW Unit)}{W:World}(h:laidMet P (x :: l) W):laidMet P l W:=by
 obtain⟨n,d⟩:=x
 obtain⟨ps,⟨g,t,cs,fuel,p,q,-,-,-,-,hq,rfl⟩,hn,hc⟩:=h
 exact⟨q,hq,(List.nodup_append.1 hn).2.1,λb off hp=>hc b off (List.mem_append.2 (.inr hp))⟩
theorem IU {W : World} (h : laidMet Tryz.prog Rows.topProofsRow.laid W) : Lib.TabIs Tryz.prog W "internal/strconv.uint64pow10" .u64 Lib.pow10Tab :=
 Lib.tabIs_of_head (t:=445) (e:=134) (n:=20) (g:=3) (by kernel_rfl) (by kernel_rfl) Tryz.underlying445 Tryz.underlying134 (by kernel_rfl) (by kernel_rfl) h
theorem DT {W : World} (h : laidMet Tryz.prog Rows.topProofsRow.laid W) : Lib.TabIs Tryz.prog W "strings.asciiSpace" .u8 Lib.asciiSpaceTab :=
 Lib.tabIs_of_head (t:=355) (e:=5) (n:=256) (g:=1) (by kernel_rfl) (by kernel_rfl) Tryz.underlying355 Tryz.underlying5 (by kernel_rfl) (by kernel_rfl) (gB (gB (gB (gB (gB (gB (gB h)))))))
theorem J8{W:World}(h:laidMet Tryz.prog Rows.topProofsRow.laid W)(hs:W.ShapedOpen Tryz.prog):Gl W.heap.size W:=by
 obtain⟨m,hm⟩:=cell_of_shapedOpen_int (g:=0) (t:=3) (zero:=#[.int .i64 0]) (k:=.i64) hs (of_decide_eq_true (by kernel_rfl)) (by kernel_rfl) rfl (by kernel_rfl) (by kernel_rfl) Tryz.underlying3
 refine⟨Lib.tabBelow_of_tabIs (IU h),Lib.tabBelow_of_tabIs (DT h),⟨m,hm⟩,?_⟩
 by_cases hl:0<W.heap.size
 ·exact hl
 simp[World.cell?,Array.getElem?_eq_none (Nat.le_of_not_lt hl)] at hm
theorem wh(os:Os)(started:os.Started)(H:Type)(enc:TypeId×Value->H)(F:Stop.Interp) :
 ReturnsInHanded {} Tryz.checked os 3 .any ((OpenSpec.ofChange Rows.topProofsSpec).preRow enc Tryz.prog Tryz.f3 Rows.topProofsRow.domain false Rows.topProofsRow.laid) (((OpenSpec.ofChange Rows.topProofsSpec).at F).post enc Tryz.prog Tryz.f3 false true false false):=by
 obtain⟨places,hx⟩:∃ places,DataW.whole enc Tryz.prog ((dW os).forCall (λ_ _=>0) ⟨#[],#[.agg #[.slice none 0 0,.slice none 0 0,.slice none 0 0,.int .i64 0,.slice none 0 0,.int .i64 0,.int .i64 0,.int .i64 0,.int .i64 0,.int .i64 0,.int .i64 0,.int .i64 0,.int .i64 0,.int .i64 0,.int .i64 0,.slice none 0 0,.slice none 0 0]],[]⟩).memory Tryz.f3.params.toList Rows.topProofsSpec.vars false #[Value.agg #[.slice none 0 0,.slice none 0 0,.slice none 0 0,.int .i64 0,.slice none 0 0,.int .i64 0,.int .i64 0,.int .i64 0,.int .i64 0,.int .i64 0,.int .i64 0,.int .i64 0,.int .i64 0,.int .i64 0,.int .i64 0,.slice none 0 0,.slice none 0 0]].toList 8=some ([.agg [.nil,.nil,.nil,.lit (.int .i64 0),.nil,.agg [.lit (.int .i64 0),.lit (.int .i64 0),.lit (.int .i64 0)],.agg [.lit (.int .i64 0),.lit (.int .i64 0),.lit (.int .i64 0),.lit (.int .i64 0),.lit (.int .i64 0),.lit (.int .i64 0),.lit (.int .i64 0),.nil,.nil]]],[],places):=⟨[],by kernel_rfl⟩
 refine returnsInHanded_of_row (C:=Tryz.checked) (s:=OpenSpec.ofChange Rows.topProofsSpec) JM started (by kernel_rfl) Tryz.func3
  (witness_row_atRef (enc:=enc) (C:=Tryz.checked) false (dW os) #[.agg #[.slice none 0 0,.slice none 0 0,.slice none 0 0,.int .i64 0,.slice none 0 0,.int .i64 0,.int .i64 0,.int .i64 0,.int .i64 0,.int .i64 0,.int .i64 0,.int .i64 0,.int .i64 0,.int .i64 0,.int .i64 0,.slice none 0 0,.slice none 0 0]] rfl (by kernel_rfl) (by kernel_rfl) (by kernel_rfl)
   (OpenSpec.preRow_of_cond 8 hx (by kernel_rfl) (λk hk=>by cases hk) (by kernel_rfl) (Fd os _))) ?_
 intro W base args ds gs before aF hW _ _ _ a0 bc _
 have hL:laidMet Tryz.prog Rows.topProofsRow.laid W:=a0
 have am:∀ (j:Nat) t v,Tryz.f3.params[j]?=some t->args[j]?=some v->Value.okWide Tryz.prog W .any base t v:=aF
 have aa:=hW
 obtain⟨p,q,ad,hV,rfl,_,_⟩:=hW
 have hA:DataW.TrodAll enc Tryz.prog W 0 (λ_=>true) true Tryz.f3.params.toList args.toList ds p:=ad
 rw[Tryz.params3] at hA am
 obtain⟨v0,d0,rfl,rfl,h0⟩:=trodAll_one hA
 obtain⟨rfl,rfl⟩:=trodVars_none hV
 clear ad aF
 simp only[List.append_nil] at aa
 obtain⟨Aj,Aq,At,As,nj,cj,nq,cq,nt,ct,ns,cs,dl,q0,q1,q2,z0,z1,z2,z3,z4,z5,z6,fa,ta,fn,fc,tn,tc,J,Q,T,X,rfl,s0,s1,s2,s3,g0,g1,g2,g3⟩:=BG (am 0 31 v0 rfl rfl) h0
 refine (BR W Aj Aq At As nj cj nq cq nt ct ns cs dl q0 q1 q2 z0 z1 z2 z3 z4 z5 z6 fa ta fn fc tn tc J Q T X s0 s1 s2 s3 g0 g1 g2 g3 W.heap.size (J8 hL bc) (Nat.le_refl _)).mono λe' W' ⟨he,hb⟩=>?_
 subst he
 refine⟨_,rfl,_,_,_,[],_,[],aa,?_,trodAll_mk1 (Below.trod BW (by kernel_rfl) (of_decide_eq_true (by kernel_rfl)) h0 hb (λx hx=>aa.lt x hx)),rfl,hb.frame _,λh=>by cases h⟩
 exact trodAll_mk1 (shut_bool Tryz.underlying4 _)
theorem zn:Tryz.f3.isInstance Tryz.pinned.checked.prog Rows.topProofsRow.origin Rows.topProofsRow.targs:=of_decide_eq_true (by kernel_rfl)
theorem zp:Tryz.f3.isWrapper Tryz.pinned.checked.prog Rows.topProofsRow.wrapper Rows.topProofsRow.mainSum:=by unfold Func.isWrapper;rw[if_neg (by decide +kernel)];exact⟨rfl,rfl⟩
theorem zo:Rows.TopProofsSaid:=
 OpenClaim.holds_of_cond 3 Tryz.f3 rfl rfl rfl rfl rfl rfl rfl ⟨rfl,rfl,rfl,rfl,rfl⟩ rfl rfl rfl rfl rfl uu Tryz.func3 wg
  zn zp
  (λos started H enc _ F=>by rw[OpenClaim.pre_eq_preRow];exact wh os started H enc F)
theorem yv(f:FuncId)(fn:Func)(hf:Tryz.pinned.checked.prog.funcNamed Rows.topProofsRow.func=some f)(a9:Tryz.pinned.checked.prog.funcs[f]?=some fn) :
 true=Tryz.pinned.checked.prog.looks []/\∀ (j:Nat) t,fn.params[j]?=some t->Tryz.pinned.checked.prog.wantsStandIn t=false:=by
 obtain rfl:f=3:=Option.some.inj (uu.symm.trans hf) |>.symm
 obtain rfl:fn=Tryz.f3:=(Option.some.inj (Tryz.func3.symm.trans a9)).symm
 refine⟨I0,λj t ht=>?_⟩
 rw[Tryz.params3] at ht
 obtain rfl:t=31:=by simpa using Array.mem_of_getElem? ht
 exact (show Tryz.prog.wantsStandIn 31=false by kernel_rfl)
theorem topProofs_holds:Rows.TopProofsCardSaid:=
 Claim7.holds_tied_plain_at .later [] _ _ _ _ zo (λ_ h=>by cases h) KI (λ_ h=>by cases h) yw rfl ⟨rfl,rfl⟩ JX rfl yv JW
end Go.Proofs.YtgbnicokglpdbaaGreatDoor
