/-
The contract of match; conditions: those of each theorem.
-/
import Derived.Test.YtgbnicokglpdbaaGreatDoorCf
import Derived.Lib.AppendZerosOnto
namespace Go.Proofs.YtgbnicokglpdbaaGreatDoor
set_option maxHeartbeats 8000000
set_option maxRecDepth 100000
section
open Go.RowKit
theorem ut(p:Int->Bool)(x y:Int):[x,y].all p=(p x&&p y):=by simp
theorem pU{w:World}{b:Nat}(x y:Int)(hb:b=w.heap.size):ag ak 1 (w.alloc (.cells #[.int .i64 x,.int .i64 y] 3)) (some ⟨b,0,none⟩) 2 [x,y]:=ry x y hb
theorem BH{W:World}{g n base:Nat}{l:List Int}(h:dm W g l)(hl:l.length=n)(hb:base<=g)(hn:n<=maxLen):W.ownsRow base 3 1 (.slice (some ⟨g,0,none⟩) n n) n (l.flatMap ak):=by
 refine⟨by rw[bU jM,hl],.inr ⟨g,n,_,rfl,hb,h,Nat.le_refl _,hn,by simp[hl],?_⟩⟩
 rw[lM,List.take_of_length_le (by simp[hl])]
theorem EN{be tr jx jy qx qy:Int}(cl:jy<=qy)(hb:iR 100 be=true)(ht:iR 100 tr=true)(m1:0<=qx)(m2:qx<=10000)(m3:0<=qy)(m4:qy<=10000)(m5:0<=jx)(m6:jx<=10000)(m7:0<=jy)(m8:jy<=10000) :
 ent be tr (jx,jy) (qx,qy)=wrap64 (wrap64 (max (qx-jx) (jx-qx)*be)+wrap64 ((qy-jy)*tr)):=by
 rw[eU] at hb ht
 unfold ent
 rw[if_pos cl]
 have hd:(if qx-jx<0 then -(qx-jx) else qx-jx)=max (qx-jx) (jx-qx):=by
  rw[Int.max_def]
  split<;>split<;>omega
 show (if qx-jx<0 then -(qx-jx) else qx-jx)*be+(qy-jy)*tr=_
 rw[hd]
 obtain⟨d,e⟩:∃ d,max (qx-jx) (jx-qx)=d:=⟨_,rfl⟩
 have eI:0<=d/\d<=10000:=by rw[← e,Int.max_def];split<;>omega
 rw[e]
 obtain⟨f,e2⟩:∃ f,qy-jy=f:=⟨_,rfl⟩
 rw[e2]
 have e3:0<=f/\f<=10000:=by omega
 have n1:=Int.mul_nonneg eI.1 hb.1
 have n2:=Int.mul_nonneg e3.1 ht.1
 have n3:d*be<=10000*100:=Int.mul_le_mul eI.2 hb.2 hb.1 (by omega)
 have n4:f*tr<=10000*100:=Int.mul_le_mul e3.2 ht.2 ht.1 (by omega)
 generalize d*be=P at *
 generalize f*tr=Q at *
 unfold wrap64
 omega
def ju(be tr:Int)(j:Int×Int)(qs:List (Int×Int))(m p:Nat):List Int:=(qs.take p).map (ent be tr j)++List.replicate (m-p) 0
theorem F0{be tr:Int}{j:Int×Int}{qs:List (Int×Int)}{m p:Nat}(hm:m=qs.length)(hp:p<=m):(ju be tr j qs m p).length=m:=by simp[ju];omega
theorem F3{be tr:Int}{j q:Int×Int}{qs:List (Int×Int)}{m p:Nat}(hm:m=qs.length)(hq:qs[p]?=some q):(ju be tr j qs m p).set p (ent be tr j q)=ju be tr j qs m (p+1):=by
 obtain⟨hp,rfl⟩:=List.getElem?_eq_some_iff.1 hq
 unfold ju
 have hl:((qs.take p).map (ent be tr j)).length=p:=by simp;omega
 rw[List.take_succ_eq_append_getElem hp,List.map_append,List.set_append_right _ _ (by omega),hl,Nat.sub_self,show m-p=(m-(p+1))+1 by omega,List.replicate_succ,List.set_cons_zero,List.append_assoc]
 rfl
theorem FZ{be tr:Int}{j:Int×Int}{qs:List (Int×Int)}:ju be tr j qs qs.length qs.length=jz be tr qs j:=by simp[ju,jz]
theorem Gi{be tr:Int}{js qs:List (Int×Int)}{i:Nat}{j:Int×Int}(h:js[i]?=some j):eJ be tr (js.take (i+1)) qs=eJ be tr (js.take i) qs++[jz be tr qs j]:=by
 obtain⟨hi,rfl⟩:=List.getElem?_eq_some_iff.1 h
 unfold eJ
 rw[List.take_succ_eq_append_getElem hi,List.map_append]
 rfl
theorem nV(A1 A2:Option Addr)(n1 n2 c1 c2:Nat)(js qs:List (Int×Int))(be tr:Int)(w:World)(h1:ag iV 2 w A1 n1 js)(h2:ag iV 2 w A2 n2 qs)(hD:n1<=9223372036854775807)(hW:n2<=9223372036854775807) :
 Calls Tryz.prog 18 #[.slice A1 n1 c1,.slice A2 n2 c2,.int .i64 be,.int .i64 tr] w λe w'=>(eC js qs be tr=false/\e=.returned (.tuple #[.slice none 0 0,.int .i64 1])\/eC js qs be tr=true/\∃ A c,e=.returned (.tuple #[.slice A n1 c,.int .i64 0])/\d8 w' A n1 (eJ be tr js qs))/\Below w.heap.size w w':=by
 refine ae ?_
 intro R hR
 have en:=zh h1.1
 have b9:=zh h2.1
 obtain⟨b0,bu⟩:∃ b0,(kA n1 n2&&(iR 100 be&&iR 100 tr))=b0:=⟨_,rfl⟩
 have bw:=zh (show ∀ W,(b0&&js.all cy&&qs.all cy)=false->Below w.heap.size w W->R (.returned (.tuple #[.slice none 0 0,.int .i64 1])) W from λW h hb=>hR.out _ _ ⟨.inl ⟨by unfold eC;rw[← h1.1,← h2.1,bu];exact h,rfl⟩,hb⟩)
 have cN:=zh (show ∀ W A c,(b0&&js.all cy&&qs.all cy)=true->d8 W A n1 (eJ be tr js qs)->Below w.heap.size w W->R (.returned (.tuple #[.slice A n1 c,.int .i64 0])) W from λW A c h hs hb=>hR.out _ _ ⟨.inr ⟨by unfold eC;rw[← h1.1,← h2.1,bu];exact h,A,c,rfl,hs⟩,hb⟩)
 have cq:=zh bu
 have H1:=zh h1
 have H2:=zh h2
 clear hR bu h1 h2
 go_enter Tryz.func18,Tryz.ntmps18
 go_upto_region 1 with fail
 go_cut [10] (λs10 wx=>s10=.bool b0/\Below w.heap.size w wx)
 case first =>
  by_cases aa:kA n1 n2=true
  ·have ds:=aa
   unfold kA at ds
   simp only[Bool.and_eq_true,decide_eq_true_eq] at ds
   have i1:(1:Int)<=(n1:Int):=by omega
   have i2:(n1:Int)<=(n2:Int):=by omega
   have i3:(n2:Int)<=64:=by omega
   have gb:=zh (show [be,tr].all (iR 100)=b0 by rw[ut,← cq.out,aa];rfl)
   clear aa ds
   go_wp2_with fail
   refine (oD 100 _ 2 2 [be,tr] _ (pU be tr rfl) (by omega)).mono ?_
   rw[gb.out]
   rintro e w' ⟨rfl,rfl⟩
   go_wp2
   go_meet
   exact⟨rfl,ab w _⟩
  have hf:kA n1 n2=false:=by simpa using aa
  obtain rfl:b0=false:=by rw[← cq.out,hf];rfl
  unfold kA at hf
  by_cases g1:1<=n1
  ·by_cases g2:n1<=n2
   ·have g3:64<n2:=by
     by_cases g3:64<n2
     ·exact g3
     rw[decide_eq_true g1,decide_eq_true g2,decide_eq_true (by omega)] at hf;cases hf
    have i1:(1:Int)<=(n1:Int):=by omega
    have i2:(n1:Int)<=(n2:Int):=by omega
    have i3:(64:Int)<(n2:Int):=by omega
    clear hf aa
    go_wp2
    go_meet
    exact⟨rfl,Below.refl _ _⟩
   have i1:(1:Int)<=(n1:Int):=by omega
   have i2:(n2:Int)<(n1:Int):=by omega
   clear hf aa
   go_wp2
   go_meet
   exact⟨rfl,Below.refl _ _⟩
  have i1:(n1:Int)<1:=by omega
  clear hf aa
  go_wp2
  go_meet
  exact⟨rfl,Below.refl _ _⟩
 obtain⟨e10,eB⟩:=hcut
 subst e10
 obtain⟨w1,rfl⟩:∃ w1:World,w1=wc:=⟨_,rfl⟩
 have cr:=zh eB
 clear eB
 go_wp2_with fail
 go_loopg [10,12,44] n1 (λgk s10 s12 s44 wr=>∃ (k:Nat) (ok:Bool),k+gk=n1/\s44=.int .i64 ((k:Nat):Int)/\s10=.bool ok/\Hid (ok=(b0&&(js.take k).all cy))/\Below w.heap.size w wr)
 case atStart=>exact⟨0,b0,by omega,rfl,rfl,zh (by simp),cr.out⟩
 obtain⟨k,ok,cc,rfl,rfl,am,hb⟩:=hrel
 obtain⟨wi,rfl⟩:∃ wi:World,wi=wr:=⟨_,rfl⟩
 have cd:=zh hb
 by_cases aF:k<n1
 ·obtain⟨b,o,x,y,rfl,eF,hx,q0,q1⟩:=(H1.out.below hb).atM2 aF
  have i1:(k:Int)<(n1:Int):=by omega
  have HS:=zh (show (js.take (k+1)).all cy=((js.take k).all cy&&cy (x,y)) from by
   obtain⟨hk,e⟩:=List.getElem?_eq_some_iff.1 hx
   rw[List.take_succ_eq_append_getElem hk,List.all_append,e];simp)
  have a9:=zh (cd.out.alloc cd.out.size (.cells #[.int .i64 x,.int .i64 y] 37))
  clear hx hb
  cases ok with
  |false =>
   have HN:=zh (show false=(b0&&(js.take (k+1)).all cy) from by rw[HS.out,← Bool.and_assoc,← am.out];rfl)
   go_wp2_with fail
   go_roundg (gk-1)
   case measure=>omega
   case rel=>exact⟨k+1,false,by omega,by go_num,rfl,HN,a9.out⟩
  |true =>
   obtain⟨rb,bv⟩:∃ rb,[x,y].all (iR 10000)=rb:=⟨_,rfl⟩
   have HN:=zh (show rb=(b0&&(js.take (k+1)).all cy) from by rw[HS.out,← Bool.and_assoc,← am.out,← bv,ut];rfl)
   have cA:=zh bv
   obtain⟨r0,r1,_⟩:=ap (heap_alloc_new wi (.cells #[.int .i64 x,.int .i64 y] 37))
   clear bv
   go_wp2_with fail
   refine (oD 10000 _ 2 2 [x,y] _ (pU x y (by simp)) (by omega)).mono ?_
   rw[cA.out]
   rintro e w' ⟨rfl,rfl⟩
   clear r0 r1
   have HB:=zh (a9.out.alloc (Nat.le_trans cd.out.size (by simp)) (.cells #[.int .i64 x,.int .i64 y] 3))
   go_wp2_with fail
   go_roundg (gk-1)
   case measure=>omega
   case rel=>exact⟨k+1,rb,by omega,by go_num,rfl,HN,HB.out⟩
 obtain rfl:k=n1:=by omega
 have ad:=am.out
 rw[List.take_of_length_le (by rw[en.out];exact Nat.le_refl _)] at ad
 have HO:=zh ad
 clear ad aF cc hb am
 go_wp2_with fail
 go_loopg [10,14,60] n2 (λgk s10 s14 s60 wr=>∃ (p:Nat) (okk:Bool),p+gk=n2/\s60=.int .i64 ((p:Nat):Int)/\s10=.bool okk/\Hid (okk=(ok&&(qs.take p).all cy))/\Below w.heap.size w wr)
 case atStart=>exact⟨0,ok,by omega,rfl,rfl,zh (by simp),cd.out⟩
 obtain⟨p,okk,cc,rfl,rfl,am,hb⟩:=hrel
 obtain⟨wj,rfl⟩:∃ wj:World,wj=wr:=⟨_,rfl⟩
 have b7:=zh hb
 by_cases aF:p<n2
 ·obtain⟨b,o,x,y,rfl,eF,hx,q0,q1⟩:=(H2.out.below hb).atM2 aF
  have i1:(p:Int)<(n2:Int):=by omega
  have HS:=zh (show (qs.take (p+1)).all cy=((qs.take p).all cy&&cy (x,y)) from by
   obtain⟨hk,e⟩:=List.getElem?_eq_some_iff.1 hx
   rw[List.take_succ_eq_append_getElem hk,List.all_append,e];simp)
  have a9:=zh (b7.out.alloc b7.out.size (.cells #[.int .i64 x,.int .i64 y] 41))
  clear hx hb
  cases okk with
  |false =>
   have HN:=zh (show false=(ok&&(qs.take (p+1)).all cy) from by rw[HS.out,← Bool.and_assoc,← am.out];rfl)
   go_wp2_with fail
   go_roundg (gk-1)
   case measure=>omega
   case rel=>exact⟨p+1,false,by omega,by go_num,rfl,HN,a9.out⟩
  |true =>
   obtain⟨rb,bv⟩:∃ rb,[x,y].all (iR 10000)=rb:=⟨_,rfl⟩
   have HN:=zh (show rb=(ok&&(qs.take (p+1)).all cy) from by rw[HS.out,← Bool.and_assoc,← am.out,← bv,ut];rfl)
   have cA:=zh bv
   obtain⟨r0,r1,_⟩:=ap (heap_alloc_new wj (.cells #[.int .i64 x,.int .i64 y] 41))
   clear bv
   go_wp2_with fail
   refine (oD 10000 _ 2 2 [x,y] _ (pU x y (by simp)) (by omega)).mono ?_
   rw[cA.out]
   rintro e w' ⟨rfl,rfl⟩
   clear r0 r1
   have HB:=zh (a9.out.alloc (Nat.le_trans b7.out.size (by simp)) (.cells #[.int .i64 x,.int .i64 y] 3))
   go_wp2_with fail
   go_roundg (gk-1)
   case measure=>omega
   case rel=>exact⟨p+1,rb,by omega,by go_num,rfl,HN,HB.out⟩
 obtain rfl:p=n2:=by omega
 have ad:=am.out
 rw[List.take_of_length_le (by rw[b9.out];exact Nat.le_refl _),HO.out] at ad
 have bt:=zh ad
 clear ad aF cc hb am
 cases okk with
 |false =>
  have Hf:=zh (bw.out wj bt.out.symm b7.out)
  go_wp2
  exact Hf.out
 |true =>
  have cS:(b0&&js.all cy&&qs.all cy)=true:=bt.out.symm
  have f2:=cS
  rw[Bool.and_eq_true,Bool.and_eq_true,← cq.out,Bool.and_eq_true,Bool.and_eq_true] at cS
  obtain⟨⟨⟨aa,c5,d4⟩,fb⟩,fu⟩:=cS
  unfold kA at aa
  simp only[Bool.and_eq_true,decide_eq_true_eq] at aa
  have gC:=zh (List.all_eq_true.1 fb)
  have g5:=zh (List.all_eq_true.1 fu)
  have ei:=zh c5
  have eo:=zh d4
  have HY:=zh f2
  have c6:=eU.1 c5
  have d5:=eU.1 d4
  have u1:=c6.1
  have u2:=c6.2
  have u3:=d5.1
  have u4:=d5.2
  have l1:=aa.2.1
  have l2:=aa.2.2
  clear f2 aa c5 d4 fb fu c6 d5
  go_wp2_with fail
  go_loopg [15,78] k (λgk s15 s78 wr=>∃ (i:Nat) (A:Option Addr) (c:Nat),i+gk=k/\s78=.int .i64 ((i:Nat):Int)/\s15=.slice A i c/\Ej wr w.heap.size 27 3 (.slice A i c) i (eJ be tr (js.take i) qs)/\Below w.heap.size w wr)
  case atStart=>exact⟨0,none,0,by omega,rfl,rfl,⟨[],by simp[eJ];exact kM.start ⟨rfl,.inl ⟨rfl,rfl⟩⟩⟩,b7.out⟩
  obtain⟨i,A,c,hP,rfl,rfl,ht,hb⟩:=hrel
  obtain⟨wa,rfl⟩:∃ wa:World,wa=wr:=⟨_,rfl⟩
  have eg:=zh hb
  have bj:=hb.size
  by_cases hC:i<k
  ·obtain⟨gg,rfl⟩:∃ gg,gk=gg+1:=⟨gk-1,by omega⟩
   obtain⟨b,o,jx,jy,rfl,eF,hx,q0,q1⟩:=(H1.out.below hb).atM2 hC
   have i1:(i:Int)<(k:Int):=by omega
   have a0:=gC.out _ (List.mem_of_getElem? hx)
   have HT:=zh (Gi (be:=be) (tr:=tr) (qs:=qs) hx)
   have Hj:=zh a0
   obtain⟨outer,ht⟩:=ht
   have Ht:=zh ht
   clear hx a0 ht hb
   go_wp2_with (at_make;refine jB rfl (.tmp 83) (.tmp 83) _ rfl 3 Tryz.underlying27 kC p p rfl rfl rfl (by omega) ?_;intro w2 b5 bg)
   have c3:Below (wa.alloc (.cells #[.int .i64 jx,.int .i64 jy] 37)).heap.size (wa.alloc (.cells #[.int .i64 jx,.int .i64 jy] 37)) w2:=(Below.refl _ _).grown bg (Nat.le_refl _) (λk hk=>by cases hk)
   have e8:w2.heap[wa.heap.size]?=some (.cells #[.int .i64 jx,.int .i64 jy] 37 (0,0)):=(c3.block _ (by simp)).trans (heap_alloc_new wa _)
   have c9:dm w2 (wa.heap.size+1) (ju be tr (jx,jy) qs p 0):=by
    have:(wa.alloc (.cells #[.int .i64 jx,.int .i64 jy] 37)).heap.size=wa.heap.size+1:=World.size_alloc _ _
    rw[this] at b5
    unfold dm
    rw[b5]
    simp[ju]
   have hg:Below (wa.heap.size+1) w2 w2:=Below.refl _ _
   have hZ:wa.heap.size+1<w2.heap.size:=c9.lt
   have cx:=zh c3
   have gw:=zh e8
   have go:=zh c9
   clear c3 e8 c9 b5 bg hg
   go_wp2_with fail
   go_loopg [87] p (λgk s87 wr=>∃ q:Nat,q+gk=p/\s87=.int .i64 ((q:Nat):Int)/\dm wr (wa.heap.size+1) (ju be tr (jx,jy) qs p q)/\Below (wa.heap.size+1) w2 wr)
   case atStart=>exact⟨0,by omega,rfl,go.out,Below.refl _ _⟩
   obtain⟨q,hQ,rfl,hbk,hbx⟩:=hrel
   obtain⟨wx,rfl⟩:∃ wx:World,wx=wr:=⟨_,rfl⟩
   have ej:=zh hbk
   have a9:=zh hbx
   have h5:=hbx.size
   have aa:=F0 (be:=be) (tr:=tr) (j:=(jx,jy)) (m:=p) (p:=q) b9.out (by omega)
   clear hbk hbx
   by_cases dt:q<p
   ·have bD:Below w.heap.size w wx:=((eg.out.alloc bj _).trans (cx.out.mono (by simp;omega))).trans (a9.out.mono (by omega))
    obtain⟨b2,o2,qx,qy,rfl,hO,hq,t0,t1⟩:=(H2.out.below bD).atM2 dt
    have i2:(q:Int)<(p:Int):=by omega
    have bp:=g5.out _ (List.mem_of_getElem? hq)
    have a0:=Hj.out
    have e1:=xo ei.out eo.out a0 bp
    have HR:=zh (F3 (be:=be) (tr:=tr) (j:=(jx,jy)) b9.out hq)
    have hK:=zh e1
    unfold cy at bp a0
    rw[Bool.and_eq_true,eU,eU] at bp a0
    dsimp only at bp a0
    have m1:=bp.1.1
    have m2:=bp.1.2
    have m3:=bp.2.1
    have m4:=bp.2.2
    have m5:=a0.1.1
    have m6:=a0.1.2
    have m7:=a0.2.1
    have m8:=a0.2.2
    have fa:wx.heap[wa.heap.size]?=some (.cells #[.int .i64 jx,.int .i64 jy] 37 (0,0)):=(a9.out.block _ (Nat.lt_succ_self _)).trans gw.out
    have dx:=ab wx (.cells #[.int .i64 qx,.int .i64 qy] 41)
    have dq:=ej.out.below dx
    obtain⟨bc,bf⟩:=dq.at_ (k:=q) (by rw[aa];exact dt)
    have cj:=dq.set q (-1)
    obtain⟨bc2,bf2⟩:=cj.at_ (k:=q) (by rw[List.length_set,aa];exact dt)
    have e7:=(dx.block wa.heap.size (by omega)).trans fa
    have e9:=(Below.heap_setCell (wx.alloc (.cells #[.int .i64 qx,.int .i64 qy] 41)) ⟨wa.heap.size+1,q,none⟩ (.int .i64 (-1)) wa.heap.size (by dsimp only;omega)).trans e7
    have fo:=(Below.heap_setCell (wx.alloc (.cells #[.int .i64 qx,.int .i64 qy] 41)) ⟨wa.heap.size+1,q,none⟩ (.int .i64 (-1)) wx.heap.size (by dsimp only;omega)).trans (heap_alloc_new wx _)
    obtain⟨jc0,jc1,_⟩:=ap e9
    obtain⟨qc0,qc1,_⟩:=ap fo
    have gN:=zh (show ∀ v:Int,dm (((wx.alloc (.cells #[.int .i64 qx,.int .i64 qy] 41)).setCell ⟨wa.heap.size+1,q,none⟩ (.int .i64 (-1))).setCell ⟨wa.heap.size+1,q,none⟩ (.int .i64 v)) (wa.heap.size+1) ((ju be tr (jx,jy) qs p q).set q v) from λv=>by
     have:=cj.set q v
     rwa [List.set_set] at this)
    have gI:=zh cj
    have ec:=zh (show Below (wa.heap.size+1) w2 ((wx.alloc (.cells #[.int .i64 qx,.int .i64 qy] 41)).setCell ⟨wa.heap.size+1,q,none⟩ (.int .i64 (-1))) from (a9.out.alloc (by omega) _).setCell (Nat.le_refl _) _)
    have bq:=zh (show ∀ v:Int,Below (wa.heap.size+1) w2 (((wx.alloc (.cells #[.int .i64 qx,.int .i64 qy] 41)).setCell ⟨wa.heap.size+1,q,none⟩ (.int .i64 (-1))).setCell ⟨wa.heap.size+1,q,none⟩ (.int .i64 v)) from λv=>ec.out.setCell (Nat.le_refl _) _)
    clear hq bp a0 e1 bD fa aa dx dq cj e7 e9 fo
    by_cases cl:jy<=qy
    ·have He:=zh (EN (jx:=jx) (jy:=jy) (qx:=qx) (qy:=qy) cl ei.out eo.out m1 m2 m3 m4 m5 m6 m7 m8)
     have cn:=zh (show dm (((wx.alloc (.cells #[.int .i64 qx,.int .i64 qy] 41)).setCell ⟨wa.heap.size+1,q,none⟩ (.int .i64 (-1))).setCell ⟨wa.heap.size+1,q,none⟩ (.int .i64 (wrap64 (wrap64 (max (qx-jx) (jx-qx)*be)+wrap64 ((qy-jy)*tr))))) (wa.heap.size+1) (ju be tr (jx,jy) qs p (q+1)) from by
      rw[← HR.out,← He.out];exact gN.out _)
     have f6:=zh (bq.out (wrap64 (wrap64 (max (qx-jx) (jx-qx)*be)+wrap64 ((qy-jy)*tr))))
     go_wp2_with fail
     go_roundg (gk-1)
     case measure=>omega
     case rel=>exact⟨q+1,by omega,by go_num,cn.out,f6.out⟩
    have aF:qy<jy:=by omega
    have cn:=zh (show dm ((wx.alloc (.cells #[.int .i64 qx,.int .i64 qy] 41)).setCell ⟨wa.heap.size+1,q,none⟩ (.int .i64 (-1))) (wa.heap.size+1) (ju be tr (jx,jy) qs p (q+1)) from by
     rw[← HR.out,show ent be tr (jx,jy) (qx,qy) = -1 by unfold ent;rw[if_neg (by show ¬ jy<=qy;omega)]];exact gI.out)
    clear cl
    go_wp2_with fail
    go_roundg (gk-1)
    case measure=>omega
    case rel=>exact⟨q+1,by omega,by go_num,cn.out,ec.out⟩
   obtain rfl:q=p:=by omega
   have fz:ju be tr (jx,jy) qs q q=jz be tr qs (jx,jy):=by rw[b9.out];exact FZ
   have hk:=ej.out
   rw[fz] at hk
   have bD:Below w.heap.size w wx:=((eg.out.alloc bj _).trans (cx.out.mono (by simp;omega))).trans (a9.out.mono (by omega))
   have c4:Below wa.heap.size wa wx:=((ab wa (.cells #[.int .i64 jx,.int .i64 jy] 37)).trans (cx.out.mono (by simp))).trans (a9.out.mono (Nat.le_succ _))
   have cL:=zh (Ht.out.below (c4.trans ((ab wx (.cells #[.slice (some ⟨wa.heap.size+1,0,none⟩) q q] 27)).mono c4.size)))
   have gs:=zh bD
   have dz:(jz be tr qs (jx,jy)).length=q:=by simp[jz];exact b9.out.symm
   have gO:=zh (BH (base:=w.heap.size) (hk.below (ab wx (.cells #[.slice (some ⟨wa.heap.size+1,0,none⟩) q q] 27))) dz (by omega) (by unfold maxLen;omega))
   have g6:=zh dz
   have hH:=bD.size
   clear fz hk bD c4 dz aa
   go_wp2_with (at_builtin;refine ax rfl (.tmp 125) (.tmp 127) _ rfl Fj w.heap.size _ _ _ rfl cL.out.own _ _ _ _ rfl (Sl.new _ _ _ 1 1 rfl) (Ju _ _ _) (by unfold maxLen;omega) (by omega) (by simp;omega) ?_;intro A8 c8 w8 fc dk _;have f8:=zh (cL.out.snoc (by decide) g6.out gO.out (Nat.le_refl _) fc dk);have f7:=zh (aL (gs.out.alloc hH (.cells #[.slice (some ⟨wa.heap.size+1,0,none⟩) q q] 27)) cL.out.own (Nat.le_refl _) (by simp;omega) dk);clear fc dk)
   go_roundg gg
   case measure=>omega
   case rel=>exact⟨i+1,A8,c8,by omega,by go_num,rfl,⟨_,by rw[HT.out];exact f8.out⟩,f7.out⟩
  obtain rfl:i=k:=by omega
  have hs:=ht.slr
  rw[List.take_of_length_le (by rw[en.out];exact Nat.le_refl _)] at hs
  have Hf:=zh (cN.out wa A c HY.out hs hb)
  clear hs ht hb
  go_wp2
  exact Hf.out
end
section
section
open Go.RowKit
def An(T:List (List Int))(m:Nat)(l:List Int)(k:Nat):Prop:=∀ i,i<k->0<=l.getD i 0/\l.getD i 0<(m:Int)/\0<=ct T i (l.getD i 0).toNat/\∀ j,j<i->l.getD j 0≠l.getD i 0
def ny(T:List (List Int))(m:Nat)(l:List Int):Prop:=l.length=T.length/\An T m l T.length
def j8(T:List (List Int))(l:List Int)(k:Nat):Int:=aB (λi=>ct T i (l.getD i 0).toNat) k
theorem Fu(T:List (List Int))(m:Nat)(l:List Int):An T m l 0:=λi hi=>by omega
theorem Fr{T:List (List Int)}{m k:Nat}{l:List Int}(h:An T m l k)(h1:0<=l.getD k 0)(h2:l.getD k 0<(m:Int))(h3:0<=ct T k (l.getD k 0).toNat)(h4:∀ j,j<k->l.getD j 0≠l.getD k 0):An T m l (k+1):=λi hi=>by
 by_cases e:i=k
 ·subst e;exact⟨h1,h2,h3,h4⟩
 exact h i (by omega)
theorem IY{T:List (List Int)}{m k:Nat}{l:List Int}(ad:fP T m)(hk:k<=T.length)(h:An T m l k):0<=j8 T l k/\j8 T l k<=1000000000*(k:Int):=
 lJ k (λi hi=>by
  obtain⟨h1,h2,h3,_⟩:=h i hi
  exact⟨h3,(ad.costOk i (l.getD i 0).toNat (by omega) (by omega)).2⟩)
theorem kv(l:List Nat)(i:Nat):(aX l).getD i 0=((l.getD i 0:Nat):Int):=nD l i
theorem D6{T:List (List Int)}{m:Nat}{f:List Nat}(h:iN T m f):ny T m (aX f):=by
 refine⟨by rw[km,h.len],λi hi=>?_⟩
 obtain⟨h1,h2⟩:=h.ok i hi
 rw[kv]
 refine⟨by omega,by omega,by simpa using h2,λj hj e=>?_⟩
 rw[kv] at e
 have hl:=h.len
 have e':f.getD j 0=f.getD i 0:=by omega
 rw[aw _ _ _ (by omega),aw _ _ _ (by omega)] at e'
 have:=kD h.nd (by omega) (by omega) e'
 omega
theorem Gj{T:List (List Int)}{m:Nat}{f:List Nat}(_h:iN T m f):j8 T (aX f) T.length=cH T f:=by
 unfold j8 cH
 exact dJ _ (λi _=>by rw[kv];simp)
end
section
open Go.RowKit
end
section
open Go.RowKit
end
section
open Go.RowKit
theorem DY{l:List Int}{taken:List Bool}{m k j:Nat}(hl:taken.length=m)(h:∀ j,j<m->(taken.getD j false=true ↔ ∃ i,i<k/\l.getD i 0=(j:Int)))(hj:l.getD k 0=(j:Int)) :
 ∀ a,a<m->((taken.set j true).getD a false=true ↔ ∃ i,i<k+1/\l.getD i 0=(a:Int)):=λa ha=>by
 by_cases e:j=a
 ·subst e
  rw[List.getD_eq_getElem?_getD,List.getElem?_set_self (by omega)]
  exact⟨λ_=>⟨k,by omega,hj⟩,λ_=>rfl⟩
 have h1:(taken.set j true).getD a false=taken.getD a false:=by rw[List.getD_eq_getElem?_getD,List.getElem?_set_ne e,List.getD_eq_getElem?_getD]
 rw[h1,h a ha]
 constructor
 ·rintro⟨i,hi,hv⟩;exact⟨i,by omega,hv⟩
 rintro⟨i,hi,hv⟩
 by_cases e2:i=k
 ·subst e2;rw[hj] at hv;omega
 exact⟨i,by omega,hv⟩
theorem D7(A:Option Addr)(n c m:Nat)(T:List (List Int))(A2:Option Addr)(L c2:Nat)(l:List Int)(w:World)(hT:d8 w A n T)(ad:fP T m)(hA:ag ak 1 w A2 L l)(hL:L<=9223372036854775807) :
 Calls Tryz.prog 53 #[.slice A n c,.slice A2 L c2] w λe w'=>(ny T m l/\e=.returned (.tuple #[.int .i64 (j8 T l n),.bool true])\/¬ ny T m l/\e=.returned (.tuple #[.int .i64 0,.bool false]))/\Below w.heap.size w w':=by
 refine ae ?_
 intro R hR
 have hD:1<=n:=by rw[hT.1];exact ad.n1
 obtain⟨b,o,A0,c0,rfl,hh⟩:=hT.head (by omega)
 rw[ad.wid] at hh
 have hU:=ad.m64
 have hX:n<=m:=by rw[hT.1];exact ad.nm
 have hS:1<=m:=by omega
 have bw:=zh (show ∀ W,Below w.heap.size w W->¬ ny T m l->R (.returned (.tuple #[.int .i64 0,.bool false])) W from λW hq h=>hR.out _ _ ⟨.inr ⟨h,rfl⟩,hq⟩)
 have cN:=zh (show ∀ W s,Below w.heap.size w W->ny T m l->s=j8 T l n->R (.returned (.tuple #[.int .i64 s,.bool true])) W from λW s hq h e=>hR.out _ _ ⟨.inl ⟨h,by rw[e]⟩,hq⟩)
 have Hn:=zh hT.1
 have Hl:=zh hA.1
 have HT:=zh hT
 have HA:=zh hA
 have am:=zh ad
 have i0:0<n:=by omega
 clear hR hT hA ad
 by_cases et:L=n
 ·subst et
  have g0:((L:Int) != (L:Int))=false:=by simp
  go_enter Tryz.func53,Tryz.ntmps53
  go_wp2_with (at_make;refine lD rfl (.tmp 18) (.tmp 18) _ rfl 4 Tryz.underlying224 nO rfl (by omega) _ m rfl rfl rfl (by omega) ?_;intro w2 b5 bg)
  have hB:em w2 w.heap.size (List.replicate m false):=by unfold em;rw[List.map_replicate];exact b5
  have hb:Below w.heap.size w w2:=(Below.refl w.heap.size w).grown bg (Nat.le_refl _) (λk hk=>by cases hk)
  have HB:=zh hB
  have Hb:=zh hb
  obtain⟨bk,hbk⟩:∃ bk,w.heap.size=bk:=⟨_,rfl⟩
  have hr:w.heap.size<=bk:=Nat.le_of_eq hbk
  rw[hbk] at HB
  generalize hsl:(Value.slice (some ⟨w.heap.size,0,none⟩) m m)=vs
  rw[hbk] at hsl
  subst hsl
  clear b5 bg hB hb hbk hh
  go_wp2_with fail
  go_loopg [7,8,9,22] L (λgk s7 s8 s9 s22 wr=>∃ (k:Nat) (taken:List Bool),k+gk=L/\s22=.int .i64 ((k:Nat):Int)/\s7=.int .i64 (j8 T l k)/\Hid (An T m l k)/\taken.length=m/\Hid (∀ j,j<m->(taken.getD j false=true ↔ ∃ i,i<k/\l.getD i 0=(j:Int)))/\em wr bk taken/\Below w.heap.size w wr)
  case atStart=>exact⟨0,_,by omega,rfl,rfl,zh (Fu T m l),by simp,zh (λj hj=>by simp[List.getD_eq_getElem?_getD,hj]),HB.out,Hb.out⟩
  obtain⟨k,taken,cc,rfl,rfl,Ho,f0,cC,hB,hb⟩:=hrel
  obtain⟨wi,rfl⟩:∃ wi:World,wi=wr:=⟨_,rfl⟩
  by_cases aF:k<L
  ·obtain⟨b2,o2,x,rfl,_,hx,q0⟩:=(HA.out.below hb).at1 aF
   have i1:(k:Int)<(L:Int):=by omega
   have e4:l.getD k 0=x:=by rw[List.getD_eq_getElem?_getD,hx];rfl
   have hF:=IY am.out (k:=k) (by rw[← Hn.out];omega) Ho.out
   obtain⟨s,hs⟩:∃ s,j8 T l k=s:=⟨_,rfl⟩
   rw[hs] at hF ⊢
   have Hs:=zh hs
   have bm:=zh e4
   have b6:=zh hb
   have bq:=zh hB
   have cI:=zh f0
   clear hx e4 hs hb hB f0
   by_cases d6:0<=x/\x<(m:Int)
   ·obtain⟨j,rfl⟩:∃ j:Nat,x=j:=⟨x.toNat,by omega⟩
    have bE:j<m:=by omega
    obtain⟨d1,d2⟩:=bq.out.at_ (k:=j) (by rw[cI.out];exact bE)
    have i2:(j:Int)<(m:Int):=by omega
    have k1:decide ((j:Int)<0)=false:=decide_eq_false (by omega)
    have k2:decide ((m:Int)<=(j:Int))=false:=decide_eq_false (by omega)
    have k3:decide (m<=j)=false:=decide_eq_false (by omega)
    clear d6
    cases bS:taken.getD j false with
    |true =>
     rw[bS] at d1
     have Hf:=zh (bw.out wi b6.out (λht=>by
      obtain⟨i,hi,hv⟩:=(cC.out j bE).1 bS
      have h4:=(ht.2 k (by rw[← Hn.out];exact aF)).2.2.2 i hi
      rw[bm.out] at h4
      exact h4 hv))
     clear bS
     go_wp2
     exact Hf.out
    |false =>
     rw[bS] at d1
     have he:=zh bS
     clear bS
     obtain⟨b',o',Ai,ci,bi,oi,e,_,_,t1,rfl,t2⟩:=iM HT.out am.out.rect b6.out aF bE
     simp only[Option.some.injEq,Addr.mk.injEq,and_true] at e
     obtain⟨rfl,rfl⟩:=e
     have hz:=am.out.costOk k j (by rw[← Hn.out];exact aF) bE
     obtain⟨y,hy⟩:∃ y,ct T k j=y:=⟨_,rfl⟩
     rw[hy] at t2 hz
     have Hy:=zh hy
     clear hy
     by_cases d7:y = -1
     ·have g3:(y == -1)=true:=by simp[d7]
      have Hf:=zh (bw.out wi b6.out (λht=>by
       have h3:=(ht.2 k (by rw[← Hn.out];exact aF)).2.2.1
       rw[bm.out] at h3
       simp only[Int.toNat_natCast] at h3
       rw[Hy.out] at h3
       omega))
      clear d7
      go_wp2
      exact Hf.out
     have g3:(y == -1)=false:=by simpa using d7
     have h6:0<=y:=by omega
     have cT:=b6.out.setCell (p:=⟨bk,j,none⟩) hr (.bool true)
     have es:=bq.out.set j true
     obtain⟨b',o',Ai',ci',bi',oi',e,_,_,t3,e5,t4⟩:=iM HT.out am.out.rect cT aF bE
     simp only[Option.some.injEq,Addr.mk.injEq,and_true] at e
     obtain⟨rfl,rfl⟩:=e
     rw[Hy.out] at t4
     have z1:IntKind.i64.wrap (s+y)=s+y:=IntWalk.i64_in _ (by omega)
     have HO:=zh (Fr Ho.out (by rw[bm.out];omega) (by rw[bm.out];omega) (by rw[bm.out];simp only[Int.toNat_natCast];rw[Hy.out];omega) (λi hi=>by
      rw[bm.out]
      intro hv
      have:=(cC.out j bE).2 ⟨i,hi,hv⟩
      rw[he.out] at this
      exact absurd this (by simp)))
     have g7:=zh (show j8 T l (k+1)=s+y by
      have h:=Hs.out
      unfold j8 at h ⊢
      rw[aB,h,bm.out]
      simp only[Int.toNat_natCast]
      rw[Hy.out])
     have f9:=zh (DY cI.out cC.out bm.out)
     have f5:=zh es
     have ga:=zh cT
     clear cT es
     go_wp2_with fail
     go_roundg (gk-1)
     case measure=>omega
     case rel=>exact⟨k+1,_,by omega,by go_num,by rw[g7.out],HO,by rw[List.length_set];exact cI.out,f9,f5.out,ga.out⟩
   have Hf:=zh (bw.out wi b6.out (λht=>by
    have h1:=ht.2 k (by rw[← Hn.out];exact aF)
    rw[bm.out] at h1
    omega))
   by_cases f1:x<0
   ·have k1:decide (x<0)=true:=decide_eq_true f1
    clear d6
    go_wp2
    exact Hf.out
   have k1:decide (x<0)=false:=decide_eq_false f1
   have hJ:(m:Int)<=x:=by omega
   have k2:decide ((m:Int)<=x)=true:=decide_eq_true hJ
   clear d6
   go_wp2
   exact Hf.out
  obtain rfl:L=k:=by omega
  have Hf:=zh (cN.out wi _ hb ⟨by rw[← Hl.out,← Hn.out],by rw[← Hn.out];exact Ho.out⟩ rfl)
  go_wp2
  exact Hf.out
 have g0:((L:Int) != (n:Int))=true:=by simp;omega
 have Hf:=zh (bw.out w (Below.refl _ _) (λht=>et (by rw[Hl.out,ht.1,← Hn.out])))
 go_enter Tryz.func53,Tryz.ntmps53
 go_wp2
 exact Hf.out
end
section
open Go.RowKit
theorem zW:(Tryz.prog.info? 3).map (λi=>(i.zero,i.size,i.bytes))=some (some (Value.int .i64 0),1,8):=by kernel_rfl
theorem zP:au Tryz.prog 27 3 1 8:=au.of (z:=Value.int .i64 0) Tryz.underlying27 zW rfl (by omega)
theorem CN(n:Nat)(hn:n<=1000)(w:World):Calls Tryz.prog 142 #[.slice none 0 0,.int .i64 (n:Int)] w λe w'=>∃ A c,e=.returned (.slice A 0 c)/\w'.ownsRow w.heap.size 3 1 (.slice A 0 c) 0 []/\Below w.heap.size w w':=by
 refine ae ?_
 intro R hR
 by_cases h0:n=0
 ·subst h0
  have Hf:=zh (hR.out (.returned (.slice none 0 0)) w ⟨none,0,rfl,⟨rfl,.inl ⟨rfl,rfl⟩⟩,Below.refl _ _⟩)
  clear hR
  go_enter Tryz.func142,Tryz.ntmps142
  go_wp2
  exact Hf.out
 obtain⟨i0,e6,f4,hE,bu⟩:=info_parts zW
 have d3:∀ ty,(Builtin.append_ #[27,3] ty #[.slice none 0 0,.int .i64 ((n:Nat):Int)]).run Tryz.prog w=.ok (.slice (some ⟨w.heap.size,0,none⟩) n (grownCap w n 0 3)) (w.drew.alloc (.cells (#[]++Builtin.zeroCells (Value.int .i64 0).cells n++Builtin.zeroCells (Value.int .i64 0).cells (grownCap w n 0 3-n)) 3)):=λty=>by
  have h:=Lib.run_append_grow_zeros w 27 3 ty 3 i0 (Value.int .i64 0) .i64 .i64 Tryz.underlying27 Tryz.underlying3 e6 f4 none 0 0 [] (run_firstCells_none w.drew i0.size 0 0 0) n (by omega) (by omega) (by omega) (by omega) (by rw[bu];omega) (by rw[bu];exact growslice_fits (by omega) (by omega))
  simpa using h
 obtain⟨G,hG⟩:∃ G,grownCap w n 0 3=G:=⟨_,rfl⟩
 have hN:n<=G:=by have:=grownCap_ge w n 0 3;omega
 have cO:G<=maxLen:=by rw[← hG];exact grownCap_le_maxLen w n 0 3 (by unfold maxLen;omega)
 have hM:G<=9223372036854775807:=cO
 rw[hG] at d3
 obtain⟨cs,dd⟩:∃ cs,#[]++Builtin.zeroCells (Value.int .i64 0).cells n++Builtin.zeroCells (Value.int .i64 0).cells (G-n)=cs:=⟨_,rfl⟩
 have bj:cs.size=G:=by rw[← dd];simp[size_zeroCells,Value.cells];omega
 rw[dd] at d3
 have hb:Below w.heap.size w (w.drew.alloc (.cells cs 3)):=(Below.refl _ _).drew.alloc (Nat.le_refl _) _
 have Hf:=zh (hR.out (.returned (.slice (some ⟨w.heap.size,0,none⟩) 0 G)) _ ⟨_,_,rfl,⟨rfl,.inr ⟨w.heap.size,G,cs,rfl,Nat.le_refl _,heap_alloc_new w.drew _,Nat.zero_le _,cO,by rw[bj,Nat.mul_one],by simp⟩⟩,hb⟩)
 have i1:(0:Int)<(n:Int):=by omega
 have i2:(0:Int)<=(n:Int):=by omega
 clear hR dd bj hb hG e6 f4 hE bu cO
 go_enter Tryz.func142,Tryz.ntmps142
 go_wp2_with (at_builtin;refine Lib.wpList_append_run _ rfl _ _ _ _ rfl _ _ rfl rfl _ _ (d3 _) ?_)
 exact Hf.out
theorem yJ(b o cV:Nat)(A B:Option Addr)(n c m d:Nat)(xs ys:List Value)(w:World)(hb:b<w.heap.size)(h0:w.cell? ⟨b,o,none⟩=some (.slice A n c))(h1:w.cell? ⟨b,o+1,none⟩=some (.slice B m d))
 (hA:Sl w 1 A n xs) (hB:Sl w 1 B m ys) (ox:∀ u∈xs,u.oneCell'=true) (oy:∀ u∈ys,u.oneCell'=true) (hn:n<=400) (hm:m<=400) :
 Calls Tryz.prog 54 #[.slice (some ⟨b,o,none⟩) 2 cV] w λe w'=>∃ A' c',e=.returned (.slice A' (n+m) c')/\w'.ownsRow w.heap.size 3 1 (.slice A' (n+m) c') (n+m) (xs++ys)/\Below w.heap.size w w':=by
 refine ae ?_
 intro R hR
 have HA:=zh hA
 have HB:=zh hB
 have gT:=zh ox
 have g4:=zh oy
 clear hA hB ox oy
 go_enter Tryz.func54,Tryz.ntmps54
 go_wp2_with fail
 go_loop [3,5,11] (λs3 s5 s11=>∃ k:Nat,k<=2/\s11=.int .i64 ((k:Nat):Int)/\(k=0/\s3=.int .i64 0\/k=1/\s3=.int .i64 (n:Int)\/k=2/\s3=.int .i64 ((n+m:Nat):Int))) (λ_ _ s11=>2-(intOf s11).toNat)
 case atStart=>exact⟨0,by omega,rfl,.inl ⟨rfl,rfl⟩⟩
 obtain⟨k,hk,rfl,h⟩:=hrel
 rcases h with⟨rfl,rfl⟩|⟨rfl,rfl⟩|⟨rfl,rfl⟩
 ·go_wp2
  exact⟨⟨1,by omega,rfl,.inr (.inl ⟨rfl,by go_num⟩)⟩,by simp[intOf]⟩
 ·have hY:(0:Int)<=(n:Int):=by omega
  have hV:(0:Int)<=(m:Int):=by omega
  go_wp2
  exact⟨⟨2,by omega,rfl,.inr (.inr ⟨rfl,by go_num⟩)⟩,by simp[intOf]⟩
 go_wp2_with fail
 refine (CN (n+m) (by omega) _).mono ?_
 rintro e w1 ⟨A0,c0,rfl,ho,ev⟩
 have HO:=zh ho
 have cr:=zh ev
 clear ho ev
 go_wp2_with fail
 go_loopg [6,8,27] 2 (λgk s6 s8 s27 wr=>∃ (k:Nat) (A':Option Addr) (c' q:Nat) (zs:List Value),k+gk=2/\s27=.int .i64 ((k:Nat):Int)/\s6=.slice A' q c'/\wr.ownsRow w.heap.size 3 1 (.slice A' q c') q zs/\Below w.heap.size w wr/\Hid (k=0/\q=0/\zs=[]\/k=1/\q=n/\zs=xs\/k=2/\q=n+m/\zs=xs++ys))
 case atStart=>exact⟨0,A0,c0,0,[],rfl,rfl,rfl,HO.out,cr.out,zh (.inl ⟨rfl,rfl,rfl⟩)⟩
 obtain⟨k,A',c',q,zs,cc,rfl,rfl,ho,ca,hc⟩:=hrel
 obtain⟨wi,rfl⟩:∃ wi:World,wi=wr:=⟨_,rfl⟩
 have q0:wi.cell? ⟨b,o,none⟩=some (.slice A n c):=(ca.cell (p:=⟨b,o,none⟩) hb).trans h0
 have q1:wi.cell? ⟨b,o+1,none⟩=some (.slice B m d):=(ca.cell (p:=⟨b,o+1,none⟩) hb).trans h1
 have bt:=zh ho
 have b8:=zh ca
 have bj:=ca.size
 clear ho ca
 rcases hc.out with⟨rfl,rfl,rfl⟩|⟨rfl,rfl,rfl⟩|⟨rfl,rfl,rfl⟩
 ·have HX:=zh (HA.out.below b8.out)
  go_wp2_with (at_builtin;refine ax rfl (.tmp 31) (.tmp 32) _ rfl zP w.heap.size _ _ _ rfl bt.out _ _ _ _ rfl HX.out gT.out (by unfold maxLen;omega) (by omega) bj ?_;intro A2 c2 w2 bI bg _)
  rw[Nat.zero_add,List.nil_append] at bI
  have bq:=zh (aL b8.out bt.out (Nat.le_refl _) bj bg)
  have cp:=zh bI
  clear bI bg
  go_roundg (gk-1)
  case measure=>omega
  case rel=>exact⟨1,A2,c2,n,xs,by omega,by go_num,rfl,cp.out,bq.out,zh (.inr (.inl ⟨rfl,rfl,rfl⟩))⟩
 ·have HX:=zh (HB.out.below b8.out)
  go_wp2_with (at_builtin;refine ax rfl (.tmp 31) (.tmp 32) _ rfl zP w.heap.size _ _ _ rfl bt.out _ _ _ _ rfl HX.out g4.out (by unfold maxLen;omega) (by omega) bj ?_;intro A2 c2 w2 bI bg _)
  have bq:=zh (aL b8.out bt.out (Nat.le_refl _) bj bg)
  have cp:=zh bI
  clear bI bg
  go_roundg (gk-1)
  case measure=>omega
  case rel=>exact⟨2,A2,c2,q+m,zs++ys,by omega,by go_num,rfl,cp.out,bq.out,zh (.inr (.inr ⟨rfl,rfl,rfl⟩))⟩
 have Hf:=zh (hR.out (.returned (.slice A' (n+m) c')) wi ⟨A',c',rfl,bt.out,b8.out⟩)
 go_wp2
 exact Hf.out
theorem vV(v:Int)(l:List Int):decide (0<=kT v l 0)=decide (v∈l):=by
 rcases uX v l 0 with⟨h1,h2⟩|⟨j,h1,h2⟩
 ·rw[h1];simp[h2]
 rw[h1,decide_eq_true (by omega),decide_eq_true (List.mem_of_getElem? h2)]
theorem xa(A:Option Addr)(n c:Nat)(l:List Int)(v:Int)(w:World)(hA:ag ak 1 w A n l)(hn:n<=9223372036854775807) :
 Calls Tryz.prog 55 #[.slice A n c,.int .i64 v] w λe w'=>e=.returned (.bool (decide (v∈l)))/\w=w':=by
 refine ae ?_
 intro R hR
 have Hf:=zh (hR.out (.returned (.bool (decide (v∈l)))) w ⟨rfl,rfl⟩)
 rw[← vV] at Hf
 obtain⟨t,ht⟩:∃ t,kT v l 0=t:=⟨_,rfl⟩
 have hI:=CW A n c l v w hA hn
 rw[ht] at Hf hI
 have HI:=zh hI
 clear hR hA hI ht
 go_enter Tryz.func55,Tryz.ntmps55
 go_wp2_with fail
 refine HI.out.mono ?_
 rintro e w1 ⟨rfl,rfl⟩
 go_wp2
 exact Hf.out
end
end
section
open Go.RowKit
def Ld(lu:List Int)(k:Nat):Prop:=∀ i,i<k->-2000000000000000000<=lu.getD i 0/\lu.getD i 0<=2000000000000000000
def Lc(lt lv:List Int)(n k:Nat):Prop:=∀ j,j<k->-2000000000000000000<=lv.getD j 0/\lv.getD j 0<=0/\((∃ i,i<n/\lt.getD i 0=(j:Int))\/lv.getD j 0=0)
def xZ(T:List (List Int))(lt lu lv:List Int)(i j:Nat):Prop:=¬ (0<=ct T i j/\ct T i j<lu.getD i 0+lv.getD j 0)/\¬ (lt.getD i 0=(j:Int)/\lu.getD i 0+lv.getD j 0≠ct T i j)
def oY(T:List (List Int))(n m:Nat)(lt lu lv:List Int)(s:Int):Prop:=j8 T lt n=s/\Ld lu n/\Lc lt lv n m/\∀ i,i<n->∀ j,j<m->xZ T lt lu lv i j
end
section
open Go.RowKit
theorem xu{l:List Int}{P:Int->Prop}(h:∀ x∈l,P x){i:Nat}(hi:i<l.length):P (l.getD i 0):=by
 rw[aw _ _ _ hi];exact h _ (List.getElem_mem hi)
theorem FP{T:List (List Int)}{m:Nat}{l:List Nat}{s:Int}{lu lv:List Int}(h:I2 T m l s lu lv):ny T m (aX l)/\oY T T.length m (aX l) lu lv s:=by
 have eu:=h.best.asg
 refine⟨D6 eu,by rw[Gj eu,h.best.cost],λi hi=>?_,λj hj=>?_,λi hi j hj=>⟨λhx=>?_,λhx=>?_⟩⟩
 ·have:=xu h.ub (i:=i) (by rw[h.hlu];exact hi)
  omega
 ·have hv:=xu h.vb (i:=j) (by rw[h.hlv];exact hj)
  refine⟨by omega,hv.2,?_⟩
  by_cases h0:lv.getD j 0=0
  ·exact .inr h0
  obtain⟨i,hi,e⟩:=jQ (h.opt.used j hj (by show lv.getD j 0<0;omega))
  exact .inl ⟨i,by rw[← h.hll];exact hi,by rw[kv,e]⟩
 ·have:=h.du.feas i hi j hj hx.1
  omega
 obtain⟨h1,h2⟩:=hx
 rw[kv] at h1
 have e:l.getD i 0=j:=by omega
 have:=(h.opt.ok i hi).2.2
 rw[e] at this
 exact h2 this
end
section
open Go.RowKit
end
end Go.Proofs.YtgbnicokglpdbaaGreatDoor
