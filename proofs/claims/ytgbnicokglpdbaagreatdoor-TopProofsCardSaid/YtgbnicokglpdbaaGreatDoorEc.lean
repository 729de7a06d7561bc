/-
TopProofs' small parts; conditions: those of each theorem.
-/
import Derived.Test.YtgbnicokglpdbaaGreatDoorEa
import Derived.Test.YtgbnicokglpdbaaGreatDoorEb
namespace Go.Proofs.YtgbnicokglpdbaaGreatDoor
set_option maxHeartbeats 8000000
set_option maxRecDepth 16000
section
section
open Go.RowKit Go.Shelf
theorem ng(wd:ByteArray)(A:Option Addr)(n c:Nat)(l:List Int)(w:World)(h:ag ak 1 w A n l)(hn:n<=1000)(hw:wd.size<=1000000)(hl:∀ x∈l,0<=x/\x<4294967296) :
 Calls Tryz.prog 8 #[.string wd,.slice A n c] w λe w'=>∃ z:ByteArray,e=.returned (.string z)/\z.data.toList=ao wd.data.toList l++[10]/\Below w.heap.size w w':=
 (gJ wd A n c l w h hn hw hl).mono λ_ _ q=>⟨_,q.1,rfl,q.2⟩
theorem oE(c:Nat)(hc:c<10)(w:World):Calls Tryz.prog 19 #[.int .i64 (c:Int)] w λe w'=>∃ z:ByteArray,e=.returned (.string z)/\z.data.toList=fp c/\z.size<=100/\Below w.heap.size w w':=by
 refine ae ?_
 intro R hR
 have HT:=zh (dy c (by omega) w)
 have l1:=Lib.itoa_length_le (c:Int) (by omega) (by omega)
 have z1:¬ 9223372036854775807<2+(Lib.itoa (c:Int)).length:=by omega
 have z2:¬ 9223372036854775807<2+(Lib.itoa (c:Int)).length+1:=by omega
 have HR:=zh hR.out
 clear hR
 go_enter Tryz.func19,Tryz.ntmps19
 go_wp2_with fail
 refine HT.out.mono ?_
 rintro e w1 ⟨rfl,h4⟩
 have e1:((⟨#[33,32]⟩++⟨(Lib.itoa (c:Int)).toArray⟩++⟨#[10]⟩:ByteArray)).data.toList=fp c:=by
  rw[bN,bN];simp[fp]
 have hf:=HR.out (.returned (.string (⟨#[33,32]⟩++⟨(Lib.itoa (c:Int)).toArray⟩++⟨#[10]⟩))) w1 ⟨_,rfl,e1,by rw[aO,e1];simp[fp];omega,h4⟩
 have HF:=zh hf
 clear hf h4 HT e1 l1
 go_wp2_with fail
 exact HF.out
structure tE{α:Type}(enc:α->List Value)(sz:Nat)(W:World)(F:Nat->Prop)(A:Option Addr)(n:Nat)(l:List α):Prop where
 sl:ag enc sz W A n l
 far:∀ a,0<n->A=some a->¬ F a.block
section
variable{α:Type}{enc:α->List Value}{sz n:Nat}{W W':World}{F G:Nat->Prop}{A:Option Addr}{l:List α}
theorem tE.kx(r:tE enc sz W F A n l)(k:Kx F W W'):tE enc sz W' F A n l:=⟨⟨r.sl.1,r.sl.2.kx k r.far⟩,r.far⟩
end
theorem D9:(⟨#[118,111,105,99,101,32,50,32,49]⟩:ByteArray).data.toList=dg yz [2,1]:=by decide +kernel
theorem AG{a b:ByteArray}(h:a.data.toList=b.data.toList):(a.toList==b.toList)=true:=by rw[beq_iff_eq,Lib.toList_data,Lib.toList_data,h]
theorem It{l:List Int}(h:∀ x∈l,0<=x/\x<4294967296):∀ x∈l,bF x:=λx hx=>by have:=h x hx;unfold bF;omega
theorem eH{z:ByteArray}{wd:List UInt8}{l:List Int}(h:z.data.toList=ao wd l++[10])(hl:∀ x∈l,0<=x/\x<4294967296):z.size<=wd.length+22*l.length+1:=by
 rw[aO,h,List.length_append]
 have:=ef (wd:=wd) (It hl)
 simp only[List.length_singleton]
 omega
theorem B9(wc w:World)(F:Nat->Prop)(h:Nat)(jk qu:List (Int×Int))(tk:List RT)(sh:List (Int×Int×Int×Bool))(k:LP wc w F h jk qu tk sh)(bg:Nat)(hg:Gl bg wc)(hb:bg<=wc.heap.size)(Aj Aq:Option Addr)(nj cj nq cq:Nat)(h1:tE iV 2 w F Aj nj jk)(h2:tE iV 2 w F Aq nq qu)(k6:nj<=6)(k7:nq<=8) :
 Calls Tryz.prog 9 #[.pointer (some ⟨h,0,none⟩),.slice Aj nj cj,.slice Aq nq cq] w λe w'=>e=.returned (.bool true)/\LP wc w' F h jk qu tk sh/\Kx F w w':=by
 refine ae ?_
 intro R hR
 have HR:=zh hR.out
 have HL:=zh (k.voice hg hb D9 ⟨by decide,by decide⟩ ⟨by rw[← h1.sl.1];omega,by rw[← h2.sl.1];omega⟩)
 have cn:=zh h1.sl.1
 have bw:=zh h2.sl.1
 have H1:=zh h1
 have H2:=zh h2
 clear hR h1 h2
 go_enter Tryz.func9,Tryz.ntmps9
 go_wp2_with fail
 refine HL.out.mono ?_
 rintro e w1 ⟨z,rfl,l1,l2,s0,e0,hV,hz,bm,ca⟩
 rw[show ((2:Nat):Int)=2 from rfl,show ((1:Nat):Int)=1 from rfl] at hV hz
 rw[← cn.out] at hV hz
 have HF:=zh (λw' (bi:Below w1.heap.size w1 w')=>HR.out (.returned (.bool true)) w' ⟨rfl,bm.below bi,ca.below bi⟩)
 have S1:=zh (H1.out.kx ca).sl
 have S2:=zh (H2.out.kx ca).sl
 have HV:=zh hV
 have Hz:=zh hz
 clear hV hz bm ca HR HL H1 H2
 go_wp2_with fail
 refine (nV Aj Aq nj nq cj cq jk qu 2 1 w1 S1.out S2.out (by omega) (by omega)).mono ?_
 rintro e w2 ⟨⟨fc,rfl⟩|⟨gw,At,dt,rfl,hT⟩,bk⟩
 ·have bv:=zh (oE 1 (by decide) w2)
  have ad:z.data.toList=fp 1:=by
   rcases HV.out with⟨-,rfl,rfl,rfl,rfl⟩|⟨q,-⟩|⟨q,-⟩
   ·rw[Hz.out];rfl
   ·rw[fc] at q;cases q
   rw[fc] at q;cases q
  have bp:=zh ad
  have bc:=zh bk
  clear fc bk ad
  go_wp2_with fail
  refine bv.out.mono ?_
  rintro e w3 ⟨z2,rfl,b5,-,a0⟩
  have p1:=AG (bp.out.trans b5.symm)
  have HE:=zh (HF.out w3 (bc.out.trans (a0.mono bc.out.size)))
  clear b5 a0 bv
  go_wp2_with fail
  exact HE.out
 have c8:=zh gw
 have dz:=tt gw
 obtain⟨T,b7⟩:∃ T,eJ 2 1 jk qu=T:=⟨_,rfl⟩
 have cp:T.length=nj:=by rw[← b7,j7,cn.out]
 rw[← bw.out] at dz
 rw[b7] at hT dz
 have HT:=zh hT
 have c5:=zh dz
 have cS:=zh b7
 have ci:=zh cp
 have bc:=zh bk
 clear gw hT dz b7 cp bk
 have k8:nj<=64:=by omega
 have k5:nq<=64:=by omega
 by_cases c9:cE (gT T) nq (List.range nj)=nj
 ·have HK:=zh c9
  clear c9
  go_wp2_with fail
  refine (vg At nj dt nq T w2 HT.out c5.out HK.out).mono ?_
  rintro e w3 ⟨B1,B2,B3,d1,d2,d3,l,s,lu,lv,rfl,hB,s1,s2,s3,_,_,_,_,_,_,a0⟩
  have Hx:=zh (heap_alloc_new w3 (.cells #[.slice B1 nj d1,.slice B2 nj d2,.slice B3 nq d3,.int .i64 s] 77))
  have aF:=ab w3 (.cells #[.slice B1 nj d1,.slice B2 nj d2,.slice B3 nq d3,.int .i64 s] 77)
  have eB:=zh (bc.out.trans ((a0.trans (aF.mono a0.size)).mono bc.out.size))
  have cA:=zh ((HT.out.below a0).below aF)
  have c6:=zh (s1.below aF)
  have hY:=zh (s2.below aF)
  have hZ:=zh (s3.below aF)
  obtain⟨w4,b9⟩:∃ w4,w3.alloc (.cells #[.slice B1 nj d1,.slice B2 nj d2,.slice B3 nq d3,.int .i64 s] 77)=w4:=⟨_,rfl⟩
  obtain⟨gb,b8⟩:∃ gb,w3.heap.size=gb:=⟨_,rfl⟩
  have e5:=zh b9
  have eF:=zh b8
  rw[b9] at Hx eB cA c6 hY hZ
  rw[b8] at Hx
  have c4:=zh (show ∀ i,i<nj->l.getD i 0<nq/\0<=kU jk qu l i from λi hi=>by
   have h:=hB.best.asg
   rw[← cS.out] at h
   rw[bw.out] at h ⊢
   exact xS h (by rw[← cn.out];exact hi))
  have bu:=wQ hB.best
  rw[← cS.out,bw.out] at bu
  obtain⟨v1,v2,v3,v4⟩:=yA c8.out l s bu
  have ad:z.data.toList=aS [ao jr (aX l),ao nI (dM jk qu l nj),ao jo [s]]:=by
   rcases HV.out with⟨q,-⟩|⟨-,q,-⟩|⟨-,l',q,rfl,rfl,rfl⟩
   ·rw[c8.out] at q;cases q
   ·rw[bu] at q;cases q
   rw[bu] at q
   cases q
   rw[Hz.out]
   rfl
  have bp:=zh ad
  have Hq:=zh (by
   have h:=c8.out
   unfold eC at h
   simp only[Bool.and_eq_true,List.all_eq_true] at h
   exact (⟨h.1.2,h.2⟩:(∀ x∈jk,cy x=true)/\∀ x∈qu,cy x=true))
  obtain⟨i5,fo⟩:=FP hB
  rw[ci.out] at fo
  have j4:=zh i5
  have jT:=zh fo
  have hO:=zh (show ∀ x∈aX l,0<=x/\x<4294967296 from λx hx=>by
   have kP:=s1.1
   obtain⟨i,hi,rfl⟩:=List.mem_map.1 hx
   obtain⟨j,hj,rfl⟩:=List.getElem_of_mem hi
   have:=(c4.out j (by rw[kP];unfold aX;simpa using hj)).1
   rw[List.getD_eq_getElem?_getD,List.getElem?_eq_getElem hj,Option.getD_some] at this
   omega)
  have j0:=zh (show 0<=s/\s<4294967296 from by
   have hc:=hB.best.cost
   have ks:∀ i,i<T.length->ct T i (l.getD i 0)<=2000000:=λi hi=>by
    rw[ci.out] at hi
    obtain⟨o1,-⟩:=c4.out i hi
    have g1:i<jk.length:=by rw[← cn.out];exact hi
    have g2:l.getD i 0<qu.length:=by rw[← bw.out];exact o1
    rw[← cS.out,CA (List.getElem?_eq_getElem g1) (List.getElem?_eq_getElem g2)]
    exact (xo (by decide) (by decide) (Hq.out.1 _ (List.getElem_mem g1)) (Hq.out.2 _ (List.getElem_mem g2))).2
   obtain⟨q1,q2⟩:=lJ (f:=λi=>ct T i (l.getD i 0)) (M:=2000000) T.length λi hi=>⟨(hB.best.asg.ok i hi).2,ks i hi⟩
   unfold cH at hc
   rw[hc] at q1 q2
   rw[ci.out] at q2
   omega)
  clear hB s1 s2 s3 a0 aF b9 b8 bu v1 v2 v3 v4 ad i5 fo
  obtain⟨r0,r1,r2,r3,r4⟩:=an Hx.out
  go_wp2_with (rw[e5.out,eF.out])
  go_loopg [14,15] nj (λgk s14 s15 wr=>∃ (i:Nat) (A:Option Addr) (c:Nat),i+gk=nj/\s15=.int .i64 ((i:Nat):Int)/\s14=.slice A i c/\wr.ownsRow w4.heap.size 3 1 (.slice A i c) i ((dM jk qu l i).flatMap ak)/\Below w4.heap.size w4 wr)
  case atStart=>exact⟨0,_,_,by omega,rfl,rfl,gW _ _ _ 1 0 _ rfl (Nat.le_refl _) (by decide),ab _ _⟩
  obtain⟨i,Ao,co,k4,rfl,rfl,ho,bi⟩:=hrel
  obtain⟨wi,rfl⟩:∃ wi:World,wi=wr:=⟨_,rfl⟩
  have Ho:=zh ho
  have Hb:=zh bi
  have d4:=bi.size
  clear ho r0 r1 r2 r3 r4
  have hx:=(bi.block gb (Array.getElem?_eq_some_iff.1 Hx.out).1).trans Hx.out
  obtain⟨r0,r1,r2,r3,r4⟩:=an hx
  clear bi hx
  have c3:=zh (eB.out.trans (Hb.out.mono eB.out.size))
  by_cases fa:i<nj
  ·
   obtain⟨bt,ot,rfl,t0⟩:=wT (c6.out.below Hb.out) fa
   obtain⟨im,kN⟩:=c4.out i fa
   obtain⟨bj,oj,jx,jy,rfl,_,hj,_,j1⟩:=(S1.out.below c3.out).atM2 fa
   obtain⟨bq,oq,qx,qy,rfl,_,fu,_,q1⟩:=(S2.out.below c3.out).atM2 im
   have i0:kU jk qu l i=qy-jy:=by
    unfold kU
    rw[List.getD_eq_getElem?_getD (l:=qu),fu,List.getD_eq_getElem?_getD (l:=jk),hj]
    rfl
   have HO:=zh (show dM jk qu l (i+1)=dM jk qu l i++[qy-jy] by rw[vl,i0])
   have am:=(eZ (Hq.out.1 _ (List.mem_of_getElem? hj))).2
   have a9:=(eZ (Hq.out.2 _ (List.mem_of_getElem? fu))).2
   obtain⟨lc,iq⟩:∃ lc,l.getD i 0=lc:=⟨_,rfl⟩
   rw[iq] at t0 im q1
   have i1:(i:Int)<(nj:Int):=by omega
   have i2:(lc:Int)<(nq:Int):=by omega
   have i3:¬ (lc:Int)<0:=by omega
   have z1:IntKind.i64.wrap (qy-jy)=qy-jy:=IntWalk.i64_in _ (by omega)
   have m1:=am.1
   have m2:=am.2
   have m3:=a9.1
   have m4:=a9.2
   have hX:=zh (show (wi.alloc (.cells #[.int .i64 (qy-jy)] 3)).drew.ownsRow w4.heap.size 3 1 (.slice Ao i co) i ((dM jk qu l i).flatMap ak) from vp (Ho.out.kept (World.grownBy_alloc wi _ none) (by cases (Value.slice Ao i co).ownBlock<;>simp)))
   have jj:=zh (show Below w4.heap.size w4 (wi.alloc (.cells #[.int .i64 (qy-jy)] 3)).drew from (Hb.out.alloc d4 _).drew)
   have j2:=zh (show Sl (wi.alloc (.cells #[.int .i64 (qy-jy)] 3)).drew 1 (some ⟨wi.heap.size,0,none⟩) 1 [.int .i64 (qy-jy)] from (Sl.new wi #[.int .i64 (qy-jy)] 3 1 1 rfl).drew)
   have i4:w4.heap.size<=(wi.alloc (.cells #[.int .i64 (qy-jy)] 3)).drew.heap.size:=by show w4.heap.size<=(wi.alloc (.cells #[.int .i64 (qy-jy)] 3)).heap.size;rw[World.size_alloc];omega
   have jF:=zh (show ∀ u∈[Value.int .i64 (qy-jy)],u.oneCell'=true from by simp[Value.oneCell'])
   have j3:=zh (λ(A7:Option Addr) (c7:Nat) (w7:World) (dx:w7.ownsRow w4.heap.size 3 1 (.slice A7 (i+1) c7) (i+1) ((dM jk qu l i).flatMap ak++[.int .i64 (qy-jy)])) (dq:(wi.alloc (.cells #[.int .i64 (qy-jy)] 3)).drew.grownBy w7 (Value.slice Ao i co).ownBlock)=>(⟨aL jj.out hX.out (Nat.le_refl _) i4 dq,by rw[HO.out,List.flatMap_append];exact dx⟩:Below w4.heap.size w4 w7/\w7.ownsRow w4.heap.size 3 1 (.slice A7 (i+1) c7) (i+1) ((dM jk qu l (i+1)).flatMap ak)))
   clear kN hj fu i0 am a9 iq
   go_wp2_with fail
   go_region_law ((refine er rfl (.tmp 86) (.tmp 102) 27 rfl lG w4.heap.size (.slice Ao i co) i _ ?_ hX.out (some ⟨wi.heap.size,0,none⟩) 1 1 [.int .i64 (qy-jy)] ?_ j2.out jF.out (by unfold maxLen;omega) (by omega) i4 ?_;(· (simp[Act.eval]));(· (simp[Act.eval]));intro A7 c7 w7 dx dq _;obtain⟨cV,iT⟩:=j3.out A7 c7 w7 dx dq))
   all_goals
    have jf:=zh iT
    have c2:=zh cV
    clear dx dq iT cV
    go_wp2_with fail
    go_roundg (gk-1)
    case measure=>omega
    case rel=>exact⟨i+1,A7,c7,by omega,by go_num,rfl,jf.out,c2.out⟩
  obtain rfl:i=nj:=by omega
  have i1:¬ (i:Int)<(i:Int):=by omega
  have hF:=zh (yU At i dt nq T B1 B2 B3 d1 d2 d3 (aX l) lu lv s wi (cA.out.below Hb.out) c5.out (c6.out.below Hb.out) (hY.out.below Hb.out) (hZ.out.below Hb.out) j4.out)
  have hU:=zh (ag.of_own Ho.out (nZ jk qu l i).symm)
  have hQ:=zh (show ∀ x∈dM jk qu l i,0<=x/\x<4294967296 from λx hx=>by
   unfold dM at hx
   obtain⟨t,ht,rfl⟩:=List.mem_map.1 hx
   have ht:=List.mem_range.1 ht
   obtain⟨o1,o2⟩:=c4.out t ht
   refine⟨o2,?_⟩
   unfold kU
   rw[aw _ _ _ (show t<jk.length by rw[← cn.out];exact ht),aw qu _ _ (show l.getD t 0<qu.length by rw[← bw.out];exact o1)]
   have a1:=eZ (Hq.out.1 _ (List.getElem_mem (show t<jk.length by rw[← cn.out];exact ht)))
   have a2:=eZ (Hq.out.2 _ (List.getElem_mem (show l.getD t 0<qu.length by rw[← bw.out];exact o1)))
   simp only[List.get_eq_getElem] at a1 a2 ⊢
   omega)
  go_wp2_with fail
  refine hF.out.mono ?_
  rintro e w5 ⟨⟨-,rfl⟩|⟨kS,-⟩,am⟩
  rotate_left
  ·exact absurd jT.out kS
  have i8:=Nat.lt_of_lt_of_le (Array.getElem?_eq_some_iff.1 Hx.out).1 (Nat.le_trans d4 am.size)
  have u0:=(am.cell (p:=⟨gb,0,none⟩) (Nat.lt_of_lt_of_le (Array.getElem?_eq_some_iff.1 Hx.out).1 d4)).trans r0
  have u3:=(am.cell (p:=⟨gb,3,none⟩) (Nat.lt_of_lt_of_le (Array.getElem?_eq_some_iff.1 Hx.out).1 d4)).trans r3
  have bf:=zh (c3.out.trans (am.mono c3.out.size))
  have hG:=zh ((c6.out.below Hb.out).below am)
  have i9:=zh (hU.out.below am)
  clear r0 r1 r2 r3 r4 am hF hU
  obtain⟨ι,mk,aa⟩:=iP w5.heap.size w5
  obtain⟨x0,i6⟩:=aa.drew
  have t0:=λx=>((aa.below x).cell (p:=⟨gb,0,none⟩) i8).trans u0
  have t3:=λx=>((aa.below x).cell (p:=⟨gb,3,none⟩) i8).trans u3
  have eI:=zh aa
  obtain⟨sq,f7⟩:∃ s:ByteArray,(⟨(ao (⟨#[113,117,105,108,108,115]⟩:ByteArray).data.toList (aX l)++[10]).toArray⟩:ByteArray)=s:=⟨_,rfl⟩
  obtain⟨sc,f1⟩:∃ s:ByteArray,(⟨(ao (⟨#[99,117,116]⟩:ByteArray).data.toList (dM jk qu l i)++[10]).toArray⟩:ByteArray)=s:=⟨_,rfl⟩
  obtain⟨st,gg⟩:∃ s':ByteArray,(⟨(ao (⟨#[99,111,115,116]⟩:ByteArray).data.toList [s]++[10]).toArray⟩:ByteArray)=s':=⟨_,rfl⟩
  have dd:∀ (x:ι) {f:FuncId} {args:Array Value} {v:Value},(Calls Tryz.prog f args (mk x) λe w'=>e=.returned v/\Below (mk x).heap.size (mk x) w')->Calls Tryz.prog f args (mk x) λe w''=>e=.returned v/\(∃ m,w''=mk m)/\Below (mk x).heap.size (mk x) w'':=λx f args v hc=>hc.mono λe w'' hp=>⟨hp.1,(aa.iff _).1 ((aa.below x).trans (hp.2.mono (aa.below x).size)),hp.2⟩
  have fz:∀ x∈[s],0<=x/\x<4294967296:=λx hx=>by rw[List.mem_singleton] at hx;subst hx;exact j0.out
  have ei:=zh (λx=>dd x (gJ ⟨#[113,117,105,108,108,115]⟩ B1 i d1 (aX l) (mk x) (hG.out.below (aa.below x)) (by omega) (by decide) hO.out))
  have cc:=zh (λx=>dd x (gJ ⟨#[99,117,116]⟩ Ao i co (dM jk qu l i) (mk x) (i9.out.below (aa.below x)) (by omega) (by decide) hQ.out))
  have en:=zh (λx (b:Nat) (kl:(mk x).heap[b]?=some (.cells #[.int .i64 s] 3 (0,0)))=>dd x (gJ ⟨#[99,111,115,116]⟩ (some ⟨b,0,none⟩) 1 1 [s] (mk x) (ip kl) (by omega) (by decide) fz))
  rw[f7] at ei
  rw[f1] at cc
  rw[gg] at en
  have f8:sq.data.toList=ao jr (aX l)++[10]:=by rw[← f7];rfl
  have f4:sc.data.toList=ao nI (dM jk qu l i)++[10]:=by rw[← f1];rfl
  have go:st.data.toList=ao jo [s]++[10]:=by rw[← gg];rfl
  have y1:=eH f8 hO.out
  have y2:=eH f4 hQ.out
  have y3:=eH go fz
  have y4:(aX l).length<=6:=by rw[← hG.out.1];omega
  have y5:(dM jk qu l i).length<=6:=by rw[nZ];omega
  have y6:jr.length=6:=rfl
  have y7:nI.length=3:=rfl
  have y8:jo.length=4:=rfl
  simp only[List.length_singleton] at y3
  have z1:¬ 9223372036854775807<sq.size+sc.size:=by omega
  have z2:¬ 9223372036854775807<sq.size+sc.size+st.size:=by omega
  have p1:(z.toList==(sq++sc++st).toList)=true:=by
   refine AG ?_
   rw[bp.out,bN,bN,f8,f4,go]
   simp[aS]
  have cx:=zh (λx=>HF.out (mk x) (bf.out.trans ((aa.below x).mono bf.out.size)))
  haveI:=aa.ne
  clear aa y1 y2 y3 y4 y5 y6 y7 y8 u0 u3 f7 f1 gg f8 f4 go fz dd
  go_upto_region 17 with fail
  refine jD (C:=λw'=>∃ x,w'=mk x) 18 (λi=>if i=15 then some ⟨λb=>.slice (some ⟨b,0,none⟩) 1 1,.cells #[.int .i64 s] 3⟩ else none) (λi=>if i=9 then some (.string sq) else if i=11 then some (.string sc) else if i=16 then some (.string st) else none) (by kernel_rfl) (by kernel_rfl) ⟨x0,i6⟩ (λw ob hc=>(eI.out.iff _).1 (((eI.out.iff _).2 hc).alloc ((eI.out.iff _).2 hc).size ob)) (λi m hi=>by
   split at hi
   ·omega
   cases hi) λβ hβ1 hβ2=>?_
  simp only[List.take_succ_cons,List.take_zero,List.drop_succ_cons,List.drop_zero]
  iterate 9 (refine dh rfl rfl (λK hK=>?_);go_simp;refine hK _ ?_;clear hK K)
  refine iZ rfl rfl rfl (by rintro _ ⟨x,rfl⟩ -;go_simp;exact ei.out x) ?_
  refine dh rfl rfl (λK hK=>?_);go_simp;refine hK _ ?_;clear hK K
  refine iZ rfl rfl rfl (by rintro _ ⟨x,rfl⟩ -;go_simp;exact cc.out x) ?_
  iterate 3 (refine dh rfl rfl (λK hK=>?_);go_simp;refine hK _ ?_;clear hK K)
  refine fe rfl rfl (by rintro _ ⟨x,rfl⟩;go_simp) ?_
  refine iZ rfl rfl rfl ?_ ?_
  ·rintro _ ⟨x,rfl⟩ hm
   have f2:=hm ⟨15,.data⟩ (by simp) rfl _ rfl
   go_simp
   exact en.out x _ f2
  refine dh rfl rfl (λK hK=>?_);go_simp;refine hK _ ?_;clear hK K
  rintro _ ⟨x,rfl⟩ hf
  have HE:=zh (cx.out x)
  clear t0 t3 z1 z2 ei cc en cx hf i6
  go_wp2_with fail
  exact HE.out
 
 have e4:=zh c9
 clear c9
 have bu:fq T nq=none:=(pd T nq).2 (by rw[ci.out];exact e4.out)
 rw[← cS.out,bw.out] at bu
 have ad:z.data.toList=aS [ao [33] [6],ao mA [(cE (gT T) nq (List.range nj):Int)]]:=by
  rcases HV.out with⟨q,-⟩|⟨-,-,-,-,-,rfl⟩|⟨-,l',q,-⟩
  ·rw[c8.out] at q;cases q
  ·rw[Hz.out]
   unfold yy
   rw[if_pos rfl,cS.out,← bw.out]
  rw[bu] at q;cases q
 have h9:=m9 (gT T) nq (List.range nj) List.nodup_range
 rw[List.length_range] at h9
 go_wp2_with fail
 refine (uG At nj dt nq T w2 HT.out c5.out e4.out).mono ?_
 rintro e w3 ⟨rfl,a0⟩
 have aF:=ab w3 (.cells #[.slice none 0 0,.slice none 0 0,.slice none 0 0,.int .i64 0] 77)
 have cA:=zh ((HT.out.below a0).below aF)
 have d7:=zh (bc.out.trans ((a0.trans (aF.mono a0.size)).mono bc.out.size))
 obtain⟨w4,b9⟩:∃ w4,w3.alloc (.cells #[.slice none 0 0,.slice none 0 0,.slice none 0 0,.int .i64 0] 77)=w4:=⟨_,rfl⟩
 rw[b9] at cA d7
 have eo:=zh (xM At nj dt nq T w4 cA.out c5.out)
 obtain⟨ku,ij⟩:∃ ku,cE (gT T) nq (List.range nj)=ku:=⟨_,rfl⟩
 rw[ij] at eo h9 ad
 have bp:=zh ad
 have e5:=zh b9
 clear bu ad a0 aF b9 ij e4
 go_upto_region 6 with fail
 rw[e5.out]
 go_wp2_with fail
 refine eo.out.mono ?_
 rintro e w5 ⟨rfl,am⟩
 have bf:=zh (d7.out.trans (am.mono d7.out.size))
 have bv:=zh (oE 6 (by decide) w5)
 clear am eo
 go_wp2_with fail
 refine bv.out.mono ?_
 rintro e w6 ⟨z2,rfl,b5,lf,a9⟩
 have cV:=ab w6 (.cells #[.int .i64 (ku:Int)] 3)
 have c2:=zh (bf.out.trans ((a9.trans (cV.mono a9.size)).mono bf.out.size))
 have bm:∀ x∈[(ku:Int)],0<=x/\x<4294967296:=λx hx=>by rw[List.mem_singleton] at hx;subst hx;omega
 have hE:=zh (ng ⟨#[109,111,115,116]⟩ (some ⟨w6.heap.size,0,none⟩) 1 1 [(ku:Int)] (w6.alloc (.cells #[.int .i64 (ku:Int)] 3)) (ip (heap_alloc_new w6 _)) (by omega) (by decide) bm)
 have kd:=zh b5
 clear b5 a9 cV bv
 go_wp2_with fail
 refine hE.out.mono ?_
 rintro e w8 ⟨z3,rfl,g0,h5⟩
 have y1:z3.size<=100:=Nat.le_trans (eH g0 bm) (Nat.le_of_ble_eq_true rfl)
 have z1:¬ 9223372036854775807<z2.size+z3.size:=by omega
 have p1:(z.toList==(z2++z3).toList)=true:=by
  refine AG ?_
  rw[bp.out,bN,kd.out,g0]
  simp[aS,fp,ao,mA]
 have HE:=zh (HF.out w8 (c2.out.trans (h5.mono c2.out.size)))
 clear y1 g0 h5 bm hE
 go_wp2_with fail
 exact HE.out
end
end
section
section
open Go.RowKit Go.Shelf
theorem DM:∀ (T:List Tk) (D:List Int),(∀ (i:Nat) (t:Tk),T[i]?=some t->0<=t.R/\∃ d,D[i]?=some d/\d<=t.N)->0<=ek T D
 |[],_,_=>by unfold ek;exact Int.le_refl 0
 |t :: T,[],_=>by unfold ek;exact Int.le_refl 0
 |t :: T,d :: D,h=>by
  have ih:=DM T D λi x hx=>h (i+1) x (by simpa using hx)
  obtain⟨h1,d',h2,h3⟩:=h 0 t rfl
  cases h2
  have:=Int.mul_nonneg h1 (show 0<=t.N-d by omega)
  unfold ek
  omega
theorem IC{L:List RT}{dl:Int}(h:gL L dl=0):(∀ x∈bD (L.map RT.tk) dl,0<=x/\x<4294967296)/\(∀ x∈bS (L.map RT.tk) dl,0<=x/\x<4294967296)/\(0<=(bE (L.map RT.tk) dl).2/\(bE (L.map RT.tk) dl).2<4294967296)/\(0<=ek (L.map RT.tk) (bD (L.map RT.tk) dl)/\ek (L.map RT.tk) (bD (L.map RT.tk) dl)<4294967296):=by
 obtain⟨dk,hD⟩:=nk h
 obtain⟨ok1,-⟩:=kn dk
 obtain⟨T,hT⟩:∃ T,L.map RT.tk=T:=⟨_,rfl⟩
 rw[hT] at hD ok1 ⊢
 obtain⟨l,hb⟩:=AR hD
 obtain⟨F,b,V,p1,-,-,-,-,p5,-⟩:=iI hD
 have hN:∀ (i:Nat) (t:Tk),T[i]?=some t->0<=t.R/\∃ d,(bD T dl)[i]?=some d/\d<=t.N:=λi t hi=>by
  obtain⟨d,e1,e2,e3⟩:=p5 i t hi
  refine⟨(ok1.tk i t hi).2.2.2.1,d,?_,e3⟩
  unfold bD
  rw[jW p1]
  exact e1
 have k1:=ok1.l2
 have hd:∀ i,0<=(bD T dl).getD i 0/\(bD T dl).getD i 0<=1000:=λi=>by
  rw[List.getD_eq_getElem?_getD]
  cases hi:(bD T dl)[i]? with
  |none=>exact⟨by simp,by simp⟩
  |some x=>exact hb x (List.mem_of_getElem? hi)
 have hA:∀ i t,T[i]?=some t->∀ a∈t.A,a<0+i:=λi t hi a ha=>by
  rw[Nat.zero_add]
  exact (ok1.tk i t hi).2.2.2.2.2 a ha
 obtain⟨e1,e2⟩:=sj (λi=>(bD T dl).getD i 0) (c:=1000) (by decide) (λi=>(hd i).2) T 0 (λ_=>0,0) hA (λj hj=>absurd hj (Nat.not_lt_zero j)) (by decide)
 have e3:=qa (λi=>(bD T dl).getD i 0) T 0 (λ_=>0,0)
 obtain⟨s1,s2⟩:=yr T (bD T dl) (λt ht=>by
  obtain⟨i,hi,rfl⟩:=List.getElem_of_mem ht
  obtain⟨g1,g2,g3,g4,g5,-⟩:=ok1.tk i _ (List.getElem?_eq_getElem hi)
  exact⟨by omega,g3,g4,g5⟩) hb
 refine⟨λx hx=>by have:=hb x hx;omega,λx hx=>?_,?_,⟨DM T _ hN,by omega⟩⟩
 ·unfold bS at hx
  obtain⟨i,hi,rfl⟩:=List.mem_map.1 hx
  have hi:=List.mem_range.1 hi
  have h1:=(mX (λi=>(bD T dl).getD i 0) T 0 (λ_=>0,0) hA i _ (List.getElem?_eq_getElem hi)).1
  have h2:=e1 i (by omega)
  rw[Nat.zero_add] at h1
  unfold bE
  exact⟨by omega,by omega⟩
 unfold bE;dsimp only at e3;omega
theorem D5(L:List RT)(dl:Int):gL L dl=0\/gL L dl=1\/gL L dl=6:=by
 unfold gL
 split
 ·split
  ·exact .inl rfl
  exact .inr (.inr rfl)
 exact .inr (.inl rfl)
theorem FJ(n:Nat):((⟨#[112,108,97,110,32]⟩++⟨(Lib.itoa (n:Int)).toArray⟩:ByteArray)).data.toList=dg wu [n]:=by
 rw[bN];simp[dg,wu]
theorem H9{base fb gN gC gI gO n lc:Nat}{W:World}{T:List Tk}{G:Nat->Int}{Lk:List Int}{LA:Option Addr}(f:g8 base W fb gN gC gI gO n (aW 0 (ah T 0 0) G 0 λ_=>0) (aW 1 (ah T 0 0) G 0 λ_=>0) (aW 3 (ah T 0 0) G 0 λ_=>0) (aW 4 (ah T 0 0) G 0 λ_=>0) Lk LA lc)(hn:T.length=n) :
 rK W n Lk.length (some ⟨gN,0,none⟩) (some ⟨gC,0,none⟩) LA (some ⟨gI,0,none⟩) (some ⟨gO,0,none⟩) (cg 0 T G) (cg 1 T G) Lk (cg 3 T G) (cg 4 T G):=by
 have hl:∀ q,n=(cg q T G).length:=λq=>by unfold cg;simp[hn]
 have he:∀ q (i:Nat) (x:Int),(cg q T G)[i]?=some x->aW q (ah T 0 0) G 0 (λ_=>0) i=x:=λq i x hx=>by
  unfold cg at hx
  rw[List.getElem?_map] at hx
  cases hi:(List.range T.length)[i]? with
  |none=>rw[hi] at hx;cases hx
  |some j =>
   rw[hi] at hx
   obtain⟨h1,h2⟩:=List.getElem?_eq_some_iff.1 hi
   rw[List.getElem_range] at h2
   subst h2
   exact Option.some.inj hx
 exact⟨f.rN.slE (hl 0) (he 0),f.rC.slE (hl 1) (he 1),ag.of_own f.own rfl,f.rI.slE (hl 3) (he 3),f.rO.slE (hl 4) (he 4)⟩
theorem zb(wc w:World)(F:Nat->Prop)(h:Nat)(jk qu:List (Int×Int))(tk:List RT)(sh:List (Int×Int×Int×Bool))(k:LP wc w F h jk qu tk sh)(bg:Nat)(hg:Gl bg wc)(hb:bg<=wc.heap.size)(A:Option Addr)(n c:Nat)(L:List (RT×Option Addr×Nat))(hT:fQ wc A n L)(hL:L.map (·.1)=tk)(hn:n<=6)(ha:∀ x∈L,x.1.A.length<=1000000000)(dl:Nat)(k2:dl<=31) :
 Calls Tryz.prog 10 #[.pointer (some ⟨h,0,none⟩),.slice A n c,.int .i64 (dl:Int)] w λe w'=>e=.returned (.bool true)/\LP wc w' F h jk qu tk sh/\Kx F w w':=by
 subst hL
 refine ae ?_
 intro R hR
 have HR:=zh hR.out
 have iF:=hT.sl.1
 have hM:=zh (dy dl (by omega) w)
 have HL:=zh (λ(W:World) (hW:Below w.heap.size w W)=>(k.below hW).plan hg hb (FJ dl) (by omega) (by rw[List.length_map];omega) (λx hx=>by obtain⟨y,hy,rfl⟩:=List.mem_map.1 hx;exact ha y hy))
 have HT:=zh hT
 have Ha:=zh ha
 have js:=zh iF
 have l1:=Lib.itoa_length_le (dl:Int) (by omega) (by omega)
 have z1:¬ 9223372036854775807<5+(Lib.itoa (dl:Int)).length:=by omega
 clear hR hT ha iF k l1
 go_enter Tryz.func10,Tryz.ntmps10
 go_wp2_with fail
 refine hM.out.mono ?_
 rintro e w0 ⟨rfl,e7⟩
 have hC:=zh (HL.out w0 e7)
 have g6:=zh e7
 clear e7 hM HL
 go_wp2_with fail
 refine hC.out.mono ?_
 rintro e w1 ⟨z,rfl,e0,D0,S0,f0,c0,hP,hz,bm,ca⟩
 have i7:Kx F w w1:=(ar (S:=F) g6.out).trans ca λj _ e=>e
 have HF:=zh (λw' (bi:Below w1.heap.size w1 w')=>HR.out (.returned (.bool true)) w' ⟨rfl,bm.below bi,i7.below bi⟩)
 have es:=zh (HT.out.below bm.low)
 have HP:=zh hP
 have Hz:=zh hz
 clear hP hz bm ca i7 HR hC g6 HT z1
 go_wp2_with fail
 refine (vt w1 A n c L es.out (dl:Int) (by omega) Ha.out).mono ?_
 rintro e w2 ⟨bk,⟨iv,rfl⟩|⟨hv,sb,Ad,cd,rfl,hs,hd,-,-⟩⟩
 ·have cr:=ab w2 (.cells #[.slice none 0 0,.slice none 0 0,.int .i64 0,.int .i64 0] 85)
  have b6:=zh (bk.trans (cr.mono bk.size))
  obtain⟨ec,e9,kw,k3⟩:∃ ec:Nat,gL (L.map (·.1)) (dl:Int)=(ec:Int)/\ec<10/\ec≠0:=by
   rcases D5 (L.map (·.1)) (dl:Int) with q|q|q
   ·exact absurd q iv
   ·exact⟨1,q,by decide,by decide⟩
   exact⟨6,q,by decide,by decide⟩
  have ad:z.data.toList=fp (ec:Int):=by
   rw[Hz.out]
   unfold wt fw
   rw[HP.out.1,e9,if_neg (by omega)]
  have bp:=zh ad
  have i1:¬ (ec:Int)=0:=by omega
  rw[e9]
  have bv:=zh (λW=>oE ec kw W)
  clear ad iv e9 bk cr
  go_wp2_with fail
  refine (bv.out _).mono ?_
  rintro e w3 ⟨z2,rfl,b5,-,a0⟩
  have p1:=AG (bp.out.trans b5.symm)
  have HE:=zh (HF.out w3 (b6.out.trans (a0.mono b6.out.size)))
  clear b5 a0 bv
  go_wp2_with fail
  exact HE.out
 obtain⟨n1,n2,n3,n4⟩:=IC hv
 obtain⟨dk,h0⟩:=nk hv
 have ad:z.data.toList=aS [ao lk (bD ((L.map (·.1)).map RT.tk) dl),ao jv (bS ((L.map (·.1)).map RT.tk) dl),ao (ao fK [(bE ((L.map (·.1)).map RT.tk) dl).2]++fC) [ek ((L.map (·.1)).map RT.tk) (bD ((L.map (·.1)).map RT.tk) dl)]]:=by
  obtain⟨q0,-,-,-,-,-,-,q1⟩:=HP.out
  rw[hv] at q0
  obtain⟨rfl,rfl,rfl,rfl⟩:=q1 q0
  rw[Hz.out,q0]
  rfl
 have cp:((L.map (·.1)).map RT.tk).length=n:=by simp[js.out]
 have gv:=zh (λW (hW:Below w1.heap.size w1 W)=>qJ W A n c L (es.out.below hW) dl (by omega) Ha.out hv _ rfl)
 have e6:=vx h0
 have cl:=zh (λW (hW:Below w1.heap.size w1 W) nl cN cC cL cI cO AN AC AL AI AO kk=>te W A n c L (es.out.below hW) dk _ rfl (dl:Int) ⟨by omega,by omega⟩ nl cN cC cL cI cO AN AC AL AI AO _ _ _ _ _ kk e6.1)
 rw[e6.2] at cl
 obtain⟨T,b7⟩:∃ T,(L.map (·.1)).map RT.tk=T:=⟨_,rfl⟩
 rw[b7] at n1 n2 n3 n4 ad cp gv cl hs hd ⊢
 obtain⟨D,hD⟩:∃ D,bD T (dl:Int)=D:=⟨_,rfl⟩
 obtain⟨S,hS⟩:∃ S,bS T (dl:Int)=S:=⟨_,rfl⟩
 obtain⟨fn,h8⟩:∃ fn:Nat,(bE T (dl:Int)).2=(fn:Int):=⟨(bE T (dl:Int)).2.toNat,by omega⟩
 rw[hD] at n1 n4 ad hd cl ⊢
 obtain⟨cs,h6⟩:∃ cs:Nat,ek T D=(cs:Int):=⟨(ek T D).toNat,by omega⟩
 rw[hS] at n2 ad hs
 rw[h8] at n3 ad ⊢
 rw[h6] at n4 ad cl ⊢
 have N1:=zh n1
 have N2:=zh n2
 have n3':fn<4294967296:=by omega
 have n4':cs<4294967296:=by omega
 have bp:=zh ad
 have ci:=zh cp
 have Hs:=zh hs
 have Hd:=zh hd
 have bc:=zh bk
 clear n1 n2 n3 n4 ad cp hs hd bk dk h0 e6 hv b7 hD hS h8 h6 HP Hz Ha
 have d6:=heap_alloc_new w2 (.cells #[.slice (some ⟨sb,0,none⟩) n n,.slice Ad n cd,.int .i64 (fn:Int),.int .i64 (cs:Int)] 85)
 have aF:=ab w2 (.cells #[.slice (some ⟨sb,0,none⟩) n n,.slice Ad n cd,.int .i64 (fn:Int),.int .i64 (cs:Int)] 85)
 obtain⟨w3,cr⟩:∃ w3,w2.alloc (.cells #[.slice (some ⟨sb,0,none⟩) n n,.slice Ad n cd,.int .i64 (fn:Int),.int .i64 (cs:Int)] 85)=w3:=⟨_,rfl⟩
 obtain⟨gb,b8⟩:∃ gb,w2.heap.size=gb:=⟨_,rfl⟩
 rw[cr] at d6 aF
 have hH:=zh (Hs.out.below aF)
 have hk:=zh (Hd.out.below aF)
 have b6:=zh (bc.out.trans (aF.mono bc.out.size))
 rw[b8] at d6
 have eu:=zh d6
 have j5:=zh cr
 have eF:=zh b8
 clear d6 aF cr b8 Hs Hd bc
 go_upto_region 3 with fail
 rw[j5.out,eF.out]
 go_wp2_with fail
 refine (gv.out w3 b6.out).mono ?_
 rintro e w4 ⟨base,fb,gN,gC,gI,gO,LA,lc,rfl,h7,e8⟩
 have am:=ab w4 (.cells #[.slice (some ⟨gN,0,none⟩) n n,.slice (some ⟨gC,0,none⟩) n n,.slice LA (bh (ah T 0 0) (cF T (dl:Int)).1 0).length lc,.slice (some ⟨gI,0,none⟩) n n,.slice (some ⟨gO,0,none⟩) n n] 89)
 have bI:=heap_alloc_new w4 (.cells #[.slice (some ⟨gN,0,none⟩) n n,.slice (some ⟨gC,0,none⟩) n n,.slice LA (bh (ah T 0 0) (cF T (dl:Int)).1 0).length lc,.slice (some ⟨gI,0,none⟩) n n,.slice (some ⟨gO,0,none⟩) n n] 89)
 obtain⟨w5,d5⟩:∃ w5,w4.alloc (.cells #[.slice (some ⟨gN,0,none⟩) n n,.slice (some ⟨gC,0,none⟩) n n,.slice LA (bh (ah T 0 0) (cF T (dl:Int)).1 0).length lc,.slice (some ⟨gI,0,none⟩) n n,.slice (some ⟨gO,0,none⟩) n n] 89)=w5:=⟨_,rfl⟩
 rw[d5] at am bI
 have cT:=e8.trans (am.mono e8.size)
 have bf:=zh (b6.out.trans (cT.mono b6.out.size))
 have et:=zh (cl.out w5 bf.out _ n n lc n n _ _ _ _ _ ((H9 h7 ci.out).below am))
 have hI:=zh (hH.out.below cT)
 have hq:=zh (hk.out.below cT)
 have ev:=zh ((cT.block gb (Array.getElem?_eq_some_iff.1 eu.out).1).trans eu.out)
 obtain⟨ll,hll⟩:∃ ll,(bh (ah T 0 0) (cF T (dl:Int)).1 0).length=ll:=⟨_,rfl⟩
 rw[hll] at et bI d5 ⊢
 have ka:=zh d5
 have u0:=(aT bI 0 rfl).1
 have u1:=(aT bI 1 rfl).1
 have u2:=(aT bI 2 rfl).1
 have u3:=(aT bI 3 rfl).1
 have u4:=(aT bI 4 rfl).1
 clear h7 e8 am bI d5 cT hll gv cl hH hk eu b6
 go_upto_region 6 with fail
 rw[ka.out]
 go_wp2_with fail
 refine et.out.mono ?_
 rintro e w6 ⟨rfl,a9⟩
 have g7:=zh (bf.out.trans (a9.mono bf.out.size))
 have hJ:=zh (hI.out.below a9)
 have hr:=zh (hq.out.below a9)
 have gs:=(a9.block gb (Array.getElem?_eq_some_iff.1 ev.out).1).trans ev.out
 have ds:=(Array.getElem?_eq_some_iff.1 gs).1
 clear u0 u1 u2 u3 u4 a9 et hI hq ev bf
 obtain⟨u0,u1,u2,u3,-⟩:=an gs
 obtain⟨ι,mk,aa⟩:=iP w6.heap.size w6
 have hd:=aa.drew
 have la:=aa.ne
 have t0:=λx=>((aa.below x).cell (p:=⟨gb,0,none⟩) ds).trans u0
 have t1:=λx=>((aa.below x).cell (p:=⟨gb,1,none⟩) ds).trans u1
 have t2:=λx=>((aa.below x).cell (p:=⟨gb,2,none⟩) ds).trans u2
 have t3:=λx=>((aa.below x).cell (p:=⟨gb,3,none⟩) ds).trans u3
 obtain⟨sd,f5⟩:∃ s:ByteArray,(⟨(ao (⟨#[100,97,121,115]⟩:ByteArray).data.toList D++[10]).toArray⟩:ByteArray)=s:=⟨_,rfl⟩
 obtain⟨ss,f9⟩:∃ s:ByteArray,(⟨(ao (⟨#[115,116,97,114,116]⟩:ByteArray).data.toList S++[10]).toArray⟩:ByteArray)=s:=⟨_,rfl⟩
 have eg:=zh (λx=>aa.call (gJ ⟨#[100,97,121,115]⟩ Ad n cd D (mk x) (hr.out.below (aa.below x)) (by omega) (by decide) N1.out))
 have ej:=zh (λx=>aa.call (gJ ⟨#[115,116,97,114,116]⟩ (some ⟨sb,0,none⟩) n n S (mk x) (hJ.out.below (aa.below x)) (by omega) (by decide) N2.out))
 rw[f5] at eg
 rw[f9] at ej
 have hh:=zh (λx=>aa.call (dy fn n3' (mk x)))
 have cc:=zh (λx=>aa.call (dy cs n4' (mk x)))
 have f6:sd.data.toList=ao lk D++[10]:=by rw[← f5];rfl
 have ga:ss.data.toList=ao jv S++[10]:=by rw[← f9];rfl
 have y1:=eH f6 N1.out
 have y2:=eH ga N2.out
 have y3:D.length<=6:=by rw[← hr.out.1];omega
 have y4:S.length<=6:=by rw[← hJ.out.1];omega
 have y5:lk.length=4:=rfl
 have y6:jv.length=5:=rfl
 have l1:=Lib.itoa_length_le (fn:Int) (by omega) (by omega)
 have l2:=Lib.itoa_length_le (cs:Int) (by omega) (by omega)
 have z1:¬ 9223372036854775807<sd.size+ss.size:=by omega
 have z2:¬ 9223372036854775807<sd.size+ss.size+7:=by omega
 have z3:¬ 9223372036854775807<sd.size+ss.size+7+(Lib.itoa (fn:Int)).length:=by omega
 have z4:¬ 9223372036854775807<sd.size+ss.size+7+(Lib.itoa (fn:Int)).length+6:=by omega
 have z5:¬ 9223372036854775807<sd.size+ss.size+7+(Lib.itoa (fn:Int)).length+6+(Lib.itoa (cs:Int)).length:=by omega
 have z6:¬ 9223372036854775807<sd.size+ss.size+7+(Lib.itoa (fn:Int)).length+6+(Lib.itoa (cs:Int)).length+1:=by omega
 have p1:(z.toList==(sd++ss++⟨#[102,105,110,105,115,104,32]⟩++⟨(Lib.itoa (fn:Int)).toArray⟩++⟨#[32,99,111,115,116,32]⟩++⟨(Lib.itoa (cs:Int)).toArray⟩++⟨#[10]⟩).toList)=true:=by
  refine AG ?_
  rw[bp.out]
  simp only[bN,f6,ga]
  simp[aS,ao,fK,fC]
 have cx:=zh (λx=>HF.out (mk x) (g7.out.trans ((aa.below x).mono g7.out.size)))
 clear aa y1 y2 y3 y4 y5 y6 l1 l2 u0 u1 u2 u3 f5 f9 f6 ga gs
 go_upto_region 7 with fail
 refine uw (C:=λw'=>∃ x,w'=mk x) (by kernel_rfl) (by kernel_rfl) hd ?_
 repeat (go_big_quiet_step (first|(with_reducible exact eg.out _)|(with_reducible exact ej.out _)|(with_reducible exact hh.out _)|(with_reducible exact cc.out _)))
 refine wpQuiet_nil ?_
 intro _ k0
 obtain⟨x,rfl⟩:=k0
 have HE:=zh (cx.out x)
 clear t0 t1 t2 t3 z1 z2 z3 z4 z5 z6 eg ej hh cc cx
 go_wp2_with fail
 exact HE.out
end
end
end Go.Proofs.YtgbnicokglpdbaaGreatDoor
