/-
Contracts of match; conditions: those of each theorem.
-/
import Derived.Test.YtgbnicokglpdbaaGreatDoorCe
namespace Go.Proofs.YtgbnicokglpdbaaGreatDoor
set_option maxHeartbeats 16000000
set_option maxRecDepth 100000
section
section
open Go.RowKit
structure I2(T:List (List Int))(m:Nat)(l:List Nat)(s:Int)(lu lv:List Int):Prop where
 best:jb T m l s
 opt:ki T m (λi=>lu.getD i 0) (λj=>lv.getD j 0) l
 du:mm T m (λi=>lu.getD i 0) (λj=>lv.getD j 0)
 hll:l.length=T.length
 hlu:lu.length=T.length
 hlv:lv.length=m
 sum:s=mN T m (λi=>lu.getD i 0) (λj=>lv.getD j 0)
 ub:∀ x∈lu,0<=x/\x<=64000000000000
 vb:∀ x∈lv,-64000000000000<=x/\x<=0
theorem sm(l:List Int)(i:Nat):(l.drop 1).getD i 0=l.getD (i+1) 0:=by
 rw[List.getD_eq_getElem?_getD,List.getElem?_drop,List.getD_eq_getElem?_getD,Nat.add_comm]
theorem vh{l:List Int}{P:Int->Prop}(h:∀ i,P (l.getD i 0)):∀ x∈l.drop 1,P x:=by
 intro x hx
 obtain⟨i,hi,rfl⟩:=List.getElem_of_mem (List.mem_of_mem_drop hx)
 have:=h i
 rwa [aw _ _ _ hi] at this
theorem Jc{T:List (List Int)}{m:Nat}{u v:List Int}{s:Int}(h:Ef T m u v s)(hu:u.length=T.length+1)(hv:v.length=m+1) :
 I2 T m (cD T m (λi=>u.getD (i+1) 0) (λj=>v.getD (j+1) 0) (List.range T.length) (List.replicate m false) []) s (u.drop 1) (v.drop 1):=by
 have hb:=Bc h.du h.op
 have eu:(λi=>(u.drop 1).getD i 0)=λi=>u.getD (i+1) 0:=funext λi=>sm u i
 have ev:(λi=>(v.drop 1).getD i 0)=λi=>v.getD (i+1) 0:=funext λi=>sm v i
 rw[← h.co] at hb
 have ho:=qG h.du hb.asg (by rw[hb.cost,h.co])
 exact⟨hb,by rw[eu,ev];exact ho,by rw[eu,ev];exact h.du,ho.len,by simp[hu],by simp[hv],by rw[eu,ev];exact h.co,vh h.ub,vh h.vb⟩
theorem Sv.kx{S:Nat->Prop}{W W':World}{sp n c m bu bv bp bw:Nat}{A:Option Addr}{u v:List Int}{p way:List Nat}(h:Sv W sp A n c m bu bv bp bw u v p way)(hk:Kx S W W')(h0:¬ S sp)(h1:¬ S bu)(h2:¬ S bv)(h3:¬ S bp)(h4:¬ S bw) :
 Sv W' sp A n c m bu bv bp bw u v p way:=⟨(hk.block sp h.lt h0).trans h.box,h.hu.kx hk h1,h.hv.kx hk h2,h.hp.kx hk h3,h.hw.kx hk h4,h.lu,h.lv,h.lp,h.lw⟩
theorem xX{W:World}{base e sz n c:Nat}{A:Option Addr}{xs:List Value}(h:W.ownsRow base e sz (.slice A n c) n xs):(∀ a,A=some a->base<=a.block)/\n<=c/\c<=9223372036854775807:=by
 rcases h.2 with⟨h1,h2⟩|⟨g,cap,cur,h1,h2,_,h4,h5,_⟩
 ·simp only[Value.slice.injEq] at h1
  obtain⟨rfl,rfl,rfl⟩:=h1
  exact⟨λa ha=>by simp at ha,Nat.le_refl _,by omega⟩
 simp only[Value.slice.injEq,true_and] at h1
 obtain⟨rfl,rfl⟩:=h1
 unfold maxLen at h5
 exact⟨λa ha=>by injection ha with ha;subst ha;exact h2,h4,by omega⟩
theorem yp{S:Nat->Prop}{W W':World}{A:Option Addr}{n:Nat}{l:List Int}(h:ag ak 1 W A n l)(hk:Kx S W W')(hs:∀ a,A=some a->¬ S a.block):ag ak 1 W' A n l:=
 ⟨h.1,h.2.1,λhn=>by
  obtain⟨b,o,e,hb,hc⟩:=h.2.2 hn
  exact⟨b,o,e,Nat.lt_of_lt_of_le hb hk.size,λj u hu=>(World.cell?_of_block (w:=W) (hk.block b hb (hs _ e))).trans (hc j u hu)⟩⟩
theorem uG(A:Option Addr)(n c m:Nat)(T:List (List Int))(w:World)(hT:d8 w A n T)(aa:fP T m)(ct:cE (gT T) m (List.range n)≠n) :
 Calls Tryz.prog 20 #[.slice A n c] w λe w'=>e=.returned (.tuple #[.agg #[.slice none 0 0,.slice none 0 0,.slice none 0 0,.int .i64 0],.int .i64 6])/\Below w.heap.size w w':=by
 refine ae ?_
 intro R hR
 have d3:n<=64:=by rw[hT.1];exact Nat.le_trans aa.nm aa.m64
 have bg:∀ r∈T,r.length<=9223372036854775807:=λr hr=>by rw[aa.rect r hr];have:=aa.m64;omega
 have ht:iL T=true:=oM.2 (by rw[aa.wid];exact aa)
 have hb:=ab w (.cells #[.slice none 0 0,.slice none 0 0,.slice none 0 0,.int .i64 0] 77)
 have hx:=heap_alloc_new w (.cells #[.slice none 0 0,.slice none 0 0,.slice none 0 0,.int .i64 0] 77)
 have HT:=zh (hT.below hb)
 have Hb:=zh hb
 have Hx:=zh hx
 have bi:=zh aa
 have bI:=zh bg
 have Ht:=zh ht
 have bD:=zh ct
 clear hT hb hx aa bg ht ct
 go_enter Tryz.func20,Tryz.ntmps20
 go_wp2_with fail
 refine (lq _ _ _ T _ HT.out (by omega) bI.out).mono ?_
 rw[if_pos Ht.out]
 rintro e w0 ⟨rfl,rfl⟩
 go_wp2_with fail
 refine (Ey _ _ m _ T _ HT.out bi.out bD.out).mono ?_
 rintro e w1 ⟨rfl,am⟩
 have a0:=(am.block _ (by simp)).trans Hx.out
 obtain⟨r0,r1,r2,r3,r4⟩:=an a0
 have a9:=zh (Hb.out.trans (am.mono Hb.out.size))
 clear am a0
 go_wp2_with fail
 refine bodyPost_ret (v:=.tuple #[.agg #[.slice none 0 0,.slice none 0 0,.slice none 0 0,.int .i64 0],.int .i64 6]) ?_ rfl (hR.out _ _ ⟨rfl,?_⟩)
 ·simp[results,Tryz.results20,go_sem,r0,r1,r2,r3]
 have h:=a9.out
 repeat (first|with_reducible exact h|with_reducible refine Below.setCell ?_ (by dsimp only;omega) _)
theorem vg(A:Option Addr)(n c m:Nat)(T:List (List Int))(w:World)(hT:d8 w A n T)(aa:fP T m)(cI:cE (gT T) m (List.range n)=n) :
 Calls Tryz.prog 20 #[.slice A n c] w λe w'=>∃ (A1 A2 A3:Option Addr) (c1 c2 c3:Nat) (l:List Nat) (s:Int) (lu lv:List Int),e=.returned (.tuple #[.agg #[.slice A1 n c1,.slice A2 n c2,.slice A3 m c3,.int .i64 s],.int .i64 0])/\I2 T m l s lu lv/\
  ag ak 1 w' A1 n (aX l)/\ag ak 1 w' A2 n lu/\ag ak 1 w' A3 m lv/\n<=c1/\n<=c2/\m<=c3/\c1<=9223372036854775807/\c2<=9223372036854775807/\c3<=9223372036854775807/\Below w.heap.size w w':=by
 refine ae ?_
 intro R hR
 have d3:n<=64:=by rw[hT.1];exact Nat.le_trans aa.nm aa.m64
 have bg:∀ r∈T,r.length<=9223372036854775807:=λr hr=>by rw[aa.rect r hr];have:=aa.m64;omega
 have ht:iL T=true:=oM.2 (by rw[aa.wid];exact aa)
 have en:1<=n:=by rw[hT.1];exact aa.n1
 have ei:=aa.m64
 have eo:n<=m:=by rw[hT.1];exact aa.nm
 have hb:=ab w (.cells #[.slice none 0 0,.slice none 0 0,.slice none 0 0,.int .i64 0] 77)
 have hx:=heap_alloc_new w (.cells #[.slice none 0 0,.slice none 0 0,.slice none 0 0,.int .i64 0] 77)
 have cN:=zh hT
 have HT:=zh (hT.below hb)
 have Hn:=zh hT.1
 have Hb:=zh hb
 have Hx:=zh hx
 have bi:=zh aa
 have bI:=zh bg
 have Ht:=zh ht
 have bS:=zh cI
 clear hT hb hx aa bg ht cI
 go_enter Tryz.func20,Tryz.ntmps20
 go_wp2_with fail
 refine (lq _ _ _ T _ HT.out (by omega) bI.out).mono ?_
 rw[if_pos Ht.out]
 rintro e w0 ⟨rfl,rfl⟩
 go_wp2_with fail
 refine (Cu _ _ m _ T _ HT.out bi.out bS.out).mono ?_
 rintro e w1 ⟨sp,bu,bv,bp,bw,u,v,p,way,s,rfl,hS,bc,bk,am⟩
 have a0:=(am.block _ (by simp)).trans Hx.out
 obtain⟨l0,l1,l2,l3,l4⟩:w.heap.size+1<=sp/\w.heap.size+1<=bu/\w.heap.size+1<=bv/\w.heap.size+1<=bp/\w.heap.size+1<=bw:=by
  have h0:=bc.l0;have h1:=bc.l1;have h2:=bc.l2;have h3:=bc.l3;have h4:=bc.l4
  simp at h0 h1 h2 h3 h4
  omega
 obtain⟨rb,ci⟩:∃ rb,w.heap.size=rb:=⟨_,rfl⟩
 have a9:=zh (Hb.out.trans (am.mono Hb.out.size))
 rw[ci] at a0 l0 l1 l2 l3 l4
 have c8:=zh a0
 have bE:=zh ci
 have HS:=zh hS
 have d4:=(Array.getElem?_eq_some_iff.1 a0).1
 have cV:=zh (Jc bk (by rw[← Hn.out];exact hS.lu) hS.lv)
 have c5:=zh bk.ub
 have c6:=zh bk.vb
 obtain⟨q0,q1,q2,q3,q4⟩:=hS.cells
 have es:=hS.lt
 have d5:=zh (hS.hu.sl (n:=n+1) hS.lu.symm)
 have d6:=zh (hS.hv.sl (n:=m+1) hS.lv.symm)
 have ej:¬ n=0:=by omega
 have eg:¬ m=0:=by omega
 have i1:(1:Int)<=(n:Int)+1:=by omega
 have i2:(1:Int)<=(m:Int)+1:=by omega
 clear hS bc bk am a0 ci q0 q3 q4
 obtain⟨FT,b5⟩:∃ FT,cD T m (λi=>u.getD (i+1) 0) (λj=>v.getD (j+1) 0) (List.range n) (List.replicate m false) []=FT:=⟨_,rfl⟩
 have bq:=cV.out
 rw[← Hn.out,b5] at bq
 have cL:=zh b5
 have bt:=zh bq
 have cj:=zh (show FT.length=n by rw[bq.hll,Hn.out])
 clear b5 bq
 have cO:=zh (show ∀ W',Kx (λj=>j=rb) w1 W'->d8 W' A n T from λW' hk=>cN.out.below (Kx.low a9.out hk (by rintro j rfl;rw[bE.out];exact Nat.le_refl _) a9.out.size))
 have bf:=zh (show ∀ W',Kx (λj=>j=rb) w1 W'->Sv W' sp A n c m bu bv bp bw u v p way from λW' hk=>HS.out.kx hk (by omega) (by omega) (by omega) (by omega) (by omega))
 have cS:=zh (show ∀ W',Kx (λj=>j=rb) w1 W'->ag ak 1 W' (some ⟨bu,1,none⟩) n (u.drop 1) from λW' hk=>by
  have h:=ag.drop1 (k:=1) ((bf.out W' hk).hu.sl (n:=n+1) HS.out.lu.symm) (by omega)
  rw[Nat.zero_add,Nat.add_sub_cancel] at h
  exact h)
 have cT:=zh (show ∀ W',Kx (λj=>j=rb) w1 W'->ag ak 1 W' (some ⟨bv,1,none⟩) m (v.drop 1) from λW' hk=>by
  have h:=ag.drop1 (k:=1) ((bf.out W' hk).hv.sl (n:=m+1) HS.out.lv.symm) (by omega)
  rw[Nat.zero_add,Nat.add_sub_cancel] at h
  exact h)
 have et:sp≠rb:=by omega
 have bj:=zh (show ∀ W',Kx (λj=>j=rb) w1 W'->W'.cell? ⟨sp,1,none⟩=some (.slice (some ⟨bu,0,none⟩) (n+1) (n+1))/\W'.cell? ⟨sp,2,none⟩=some (.slice (some ⟨bv,0,none⟩) (m+1) (m+1)) from λW' hk=>⟨(bf.out W' hk).cells.2.1,(bf.out W' hk).cells.2.2.1⟩)
 have c4:=zh (show ∀ W',Below w1.heap.size w1 W'->W'.heap[rb]?=some (.cells #[.slice none 0 0,.slice none 0 0,.slice none 0 0,.int .i64 0] 77 (0,0)) from λW' hb=>(hb.block rb d4).trans c8.out)
 have c9:Kx (λj=>j=rb) w1 w1.drew:=(Kx.refl _ w1).drewN 1
 go_wp2_with (rw[bE.out])
 go_region_held3 (λw'=>Kx (λj=>j=rb) w1 w'/\w'.cell? ⟨sp,1,none⟩=some (.slice (some ⟨bu,0,none⟩) (n+1) (n+1))/\w'.cell? ⟨sp,2,none⟩=some (.slice (some ⟨bv,0,none⟩) (m+1) (m+1)))
  (first
   |exact⟨c9,q1,q2⟩
   |exact⟨cr,dt,dx⟩
   |exact⟨cq,dd,dk⟩
   |exact⟨b7,dq,ds⟩
   |exact⟨b9 _ _ _ _,bj.out _ (b9 _ _ _ _)⟩
   |go_keep)
  (first
  |(go_at_call 48;have ad:=(‹Kx (λj=>j=rb) w1 _/\_›).1;refine (CI _ sp n c m bu bv bp bw A T u v p way (bf.out _ ad) (cO.out _ ad) bi.out c5.out c6.out).mono ?_;rw[cL.out,cj.out];rintro e wf ⟨Af,cf,rfl,cC,cl⟩;have cr:=ad.below cl;have cd:=kQ cl;obtain⟨dt,dx⟩:=bj.out wf cr;clear ad)
  |(go_at_call 49;have ad:=(‹Kx (λj=>j=rb) w1 _/\_›).1;refine (uM ⟨bu,1,none⟩ n n (u.drop 1) _ (cS.out _ ad) (by omega)).mono ?_;rintro e wa ⟨Aa,ca,rfl,cx,b6⟩;have cq:=ad.below b6;have cc:=cd.trans (b6.mono cd.size);obtain⟨dd,dk⟩:=bj.out wa cq;clear ad)
  |(go_at_call 49;have ad:=(‹Kx (λj=>j=rb) w1 _/\_›).1;refine (uM ⟨bv,1,none⟩ m m (v.drop 1) _ (cT.out _ ad) (by omega)).mono ?_;rintro e wb ⟨Ab,cb,rfl,cA,bm⟩;have b7:=ad.below bm;have dz:=cc.trans (bm.mono cc.size);obtain⟨dq,ds⟩:=bj.out wb b7;obtain⟨r0,r1,r2,r3,r4⟩:=an (c4.out wb dz);have b9:=λ(v0 v1 v2 v3:Value)=>bz (bz (bz (bz b7 (b:=rb) rfl 0 v0) (b:=rb) rfl 1 v1) (b:=rb) rfl 2 v2) (b:=rb) rfl 3 v3;clear ad))
 go_wp2
 have hz:=b9 (.slice Af n cf) (.slice Aa n ca) (.slice Ab m cb) (.int .i64 s)
 have b8:Kx (λj=>j=rb) wb ((((wb.setCell ⟨rb,0,none⟩ (.slice Af n cf)).setCell ⟨rb,1,none⟩ (.slice Aa n ca)).setCell ⟨rb,2,none⟩ (.slice Ab m cb)).setCell ⟨rb,3,none⟩ (.int .i64 s)):=bz (bz (bz (bz (Kx.refl (λj=>j=rb) wb) (b:=rb) rfl 0 _) (b:=rb) rfl 1 _) (b:=rb) rfl 2 _) (b:=rb) rfl 3 _
 obtain⟨of1,of2,of3⟩:=xX cC
 obtain⟨oa1,oa2,oa3⟩:=xX cx
 obtain⟨ob1,ob2,ob3⟩:=xX cA
 have sf:=((ag.of_own cC (by rw[km,cj.out])).below b6).below bm
 have sa:=(ag.of_own cx (by rw[bt.out.hlu,Hn.out])).below bm
 have sb:=ag.of_own cA (by rw[bt.out.hlv])
 have szf:w1.heap.size<=wf.heap.size:=cd.size
 have sza:w1.heap.size<=wa.heap.size:=cc.size
 refine bodyPost_ret (v:=.tuple #[.agg #[.slice Af n cf,.slice Aa n ca,.slice Ab m cb,.int .i64 s],.int .i64 0]) ?_ rfl (hR.out _ _ ⟨Af,Aa,Ab,cf,ca,cb,FT,s,u.drop 1,v.drop 1,rfl,bt.out,yp sf b8 (λa ha=>?_),yp sa b8 (λa ha=>?_),yp sb b8 (λa ha=>?_),of2,oa2,ob2,of3,oa3,ob3,
  Kx.low a9.out hz (by rintro j rfl;rw[bE.out];exact Nat.le_refl _) a9.out.size⟩)
 ·simp[results,Tryz.results20,go_sem,r0,r1,r2,r3]
 ·have h1:=of1 a ha
  have h2:w1.drew.heap.size=w1.heap.size:=rfl
  omega
 ·have h1:=oa1 a ha
  omega
 have h1:=ob1 a ha
 omega
end
section
open Go.RowKit
end
section
open Go.RowKit
theorem ry{w:World}{b:Nat}(x y:Int)(hb:b=w.heap.size):ag ak 1 (w.alloc (.cells #[.int .i64 x,.int .i64 y] 3)) (some ⟨b,0,none⟩) 2 [x,y]:=by
 subst hb
 exact fB (e:=3) (heap_alloc_new w _) rfl
end
section
open Go.RowKit
theorem Fj:au Tryz.prog 72 27 1 24:=au.of (z:=.slice none 0 0) Tryz.underlying72 (by kernel_rfl) rfl (by omega)
theorem Ju(a:Option Addr)(n c:Nat):∀ u∈(#[Value.slice a n c]:Array Value).toList,u.oneCell'=true:=by simp[Value.oneCell']
end
section
open Go.RowKit
end
section
open Go.RowKit
end
end
section
open Go.RowKit
def iV(p:Int×Int):List Value:=[.int .i64 p.1,.int .i64 p.2]
theorem ue(p:Int×Int):(iV p).length=2:=rfl
def iR(lim x:Int):Bool:=decide (0<=x)&&decide (x<=lim)
theorem eU{lim x:Int}:iR lim x=true ↔ 0<=x/\x<=lim:=by simp[iR]
def cy(p:Int×Int):Bool:=iR 10000 p.1&&iR 10000 p.2
def kA(a b:Nat):Bool:=decide (1<=a)&&(decide (a<=b)&&decide (b<=64))
def eC(js qs:List (Int×Int))(be tr:Int):Bool:=((kA js.length qs.length&&(iR 100 be&&iR 100 tr))&&js.all cy)&&qs.all cy
def ent(be tr:Int)(j q:Int×Int):Int:=if j.2<=q.2 then (if q.1-j.1<0 then -(q.1-j.1) else q.1-j.1)*be+(q.2-j.2)*tr else -1
def jz(be tr:Int)(qs:List (Int×Int))(j:Int×Int):List Int:=qs.map (ent be tr j)
def eJ(be tr:Int)(js qs:List (Int×Int)):List (List Int):=js.map (jz be tr qs)
theorem xo{be tr:Int}{j q:Int×Int}(h1:iR 100 be=true)(h2:iR 100 tr=true)(h3:cy j=true)(h4:cy q=true) : -1<=ent be tr j q/\ent be tr j q<=2000000:=by
 unfold cy at h3 h4
 rw[Bool.and_eq_true,eU,eU] at h3 h4
 rw[eU] at h1 h2
 unfold ent
 split
 ·rename_i ec
  obtain⟨d,hd⟩:∃ d,(if q.1-j.1<0 then -(q.1-j.1) else q.1-j.1)=d:=⟨_,rfl⟩
  have cn:0<=d/\d<=10000:=by rw[← hd];split<;>omega
  rw[hd]
  obtain⟨e,he⟩:∃ e,q.2-j.2=e:=⟨_,rfl⟩
  have cp:0<=e/\e<=10000:=by omega
  rw[he]
  have m1:=Int.mul_nonneg cn.1 h1.1
  have m2:=Int.mul_nonneg cp.1 h2.1
  have m3:d*be<=10000*100:=Int.mul_le_mul cn.2 h1.2 h1.1 (by omega)
  have m4:e*tr<=10000*100:=Int.mul_le_mul cp.2 h2.2 h2.1 (by omega)
  omega
 omega
theorem tt{be tr:Int}{js qs:List (Int×Int)}(h:eC js qs be tr=true):fP (eJ be tr js qs) qs.length:=by
 unfold eC kA at h
 simp only[Bool.and_eq_true,decide_eq_true_eq,List.all_eq_true] at h
 obtain⟨⟨⟨⟨h1,h2,h3⟩,h4,h5⟩,h6⟩,h7⟩:=h
 refine⟨by simpa[eJ] using h1,by simpa[eJ] using h2,h3,λx hx=>?_,λx hx c hc=>?_⟩
 ·obtain⟨j,_,rfl⟩:=List.mem_map.1 hx
  simp[jz]
 obtain⟨j,hj,rfl⟩:=List.mem_map.1 hx
 obtain⟨q,hq,rfl⟩:=List.mem_map.1 hc
 have:=xo h4 h5 (h6 j hj) (h7 q hq)
 omega
theorem ag.atM2{w:World}{A:Option Addr}{n k:Nat}{l:List (Int×Int)}(h:ag iV 2 w A n l)(hk:k<n) :
 ∃ b o x y,A=some ⟨b,o,none⟩/\b<w.heap.size/\l[k]?=some (x,y)/\w.cell? ⟨b,o+k*2,none⟩=some (.int .i64 x)/\w.cell? ⟨b,o+k*2+1,none⟩=some (.int .i64 y):=by
 obtain⟨b,o,⟨x,y⟩,hA,hb,hx,hc⟩:=h.at_ ue hk
 exact⟨b,o,x,y,hA,hb,hx,by simpa using hc 0 _ rfl,by simpa[Nat.add_assoc] using hc 1 _ rfl⟩
theorem oD(lim:Int)(A:Option Addr)(n c:Nat)(l:List Int)(w:World)(hA:ag ak 1 w A n l)(hn:n<=9223372036854775807) :
 Calls Tryz.prog 45 #[.int .i64 lim,.slice A n c] w λe w'=>e=.returned (.bool (l.all (iR lim)))/\w=w':=by
 refine ae ?_
 intro R hR
 have Hl:=zh hA.1
 have bS:=zh (show l.all (iR lim)=true->R (.returned (.bool true)) w from λh=>hR.out _ _ ⟨by rw[h],rfl⟩)
 have bD:=zh (show l.all (iR lim)=false->R (.returned (.bool false)) w from λh=>hR.out _ _ ⟨by rw[h],rfl⟩)
 clear hR
 go_enter Tryz.func45,Tryz.ntmps45
 go_wp2_with fail
 go_loop [6,9] (λ_ s9=>∃ k:Nat,k<=n/\s9=.int .i64 ((k:Nat):Int)/\Hid ((l.take k).all (iR lim)=true)) (λ_ s9=>n-(intOf s9).toNat)
 case atStart=>exact⟨0,by omega,rfl,zh (by simp)⟩
 obtain⟨k,hk,rfl,He⟩:=hrel
 by_cases d2:k<n
 ·obtain⟨b,o,x,rfl,d7,hx,q0⟩:=hA.at1 d2
  have i1:(k:Int)<(n:Int):=by omega
  by_cases aF:iR lim x=true
  ·have hS:=zh (qQ He.out hx aF)
   have h2:=eU.1 aF
   have e1:=h2.1
   have e2:=h2.2
   clear aF hx h2
   go_wp2
   exact⟨⟨k+1,by omega,by go_num,zh hS.out⟩,by simp[intOf];omega⟩
  have Hf:=zh (bD.out (by
   rw[List.all_eq_false]
   exact⟨x,List.mem_of_getElem? hx,by simpa using aF⟩))
  by_cases h0:x<0
  ·clear aF hx
   go_wp2
   exact Hf.out
  have e1:0<=x:=by omega
  have e2:lim<x:=by
   by_cases h:lim<x
   ·exact h
   exact absurd (eU.2 ⟨e1,by omega⟩) aF
  clear aF hx h0
  go_wp2
  exact Hf.out
 obtain rfl:k=n:=by omega
 have he:=He.out
 rw[List.take_of_length_le (by rw[Hl.out];exact Nat.le_refl _)] at he
 have Hf:=zh (bS.out he)
 clear he
 go_wp2
 exact Hf.out
end
end Go.Proofs.YtgbnicokglpdbaaGreatDoor
