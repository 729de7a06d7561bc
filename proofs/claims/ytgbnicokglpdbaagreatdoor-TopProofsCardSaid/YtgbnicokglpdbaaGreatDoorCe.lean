/-
Contracts of match's cheapest, completes and first; conditions: those of each theorem.
-/
import Derived.Test.YtgbnicokglpdbaaGreatDoorCd
namespace Go.Proofs.YtgbnicokglpdbaaGreatDoor
set_option maxHeartbeats 16000000
set_option maxRecDepth 100000
section
open Go.RowKit
def qz(T:List (List Int))(p:List Nat)(j:Nat):Int:=if p.getD (j+1) 0=0 then 0 else ct T (p.getD (j+1) 0-1) j
theorem yF{T:List (List Int)}{m:Nat}(h:cE (gT T) m (List.range T.length)=T.length):∃ f,iN T m f:=by
 cases hb:fq T m with
 |none=>exact absurd h ((pd T m).1 hb)
 |some x=>exact⟨x.1,(lj (T:=T) (m:=m) hb).asg⟩
structure Ef(T:List (List Int))(m:Nat)(u v:List Int)(c:Int):Prop where
 du:mm T m (λi=>u.getD (i+1) 0) (λj=>v.getD (j+1) 0)
 op:∃ f,ki T m (λi=>u.getD (i+1) 0) (λj=>v.getD (j+1) 0) f
 co:c=mN T m (λi=>u.getD (i+1) 0) (λj=>v.getD (j+1) 0)
 ub:∀ i,0<=u.getD i 0/\u.getD i 0<=64000000000000
 vb:∀ j,-64000000000000<=v.getD j 0/\v.getD j 0<=0
theorem Jd{T:List (List Int)}{m:Nat}(h:fP T m){u v:List Int}{p way:List Nat}(hM:MI (aF T) T.length m T.length u v p way)(hk:cE (gT T) m (List.range T.length)=T.length) :
 Ef T m u v (aB (qz T p) m)/\(∀ j,j<m->0<=qz T p j/\qz T p j<=1000000000):=by
 have hn:=Nat.le_trans h.nm h.m64
 obtain⟨h1,h2,h3,h4⟩:=B4 h.costOk hn hM (yF hk)
 refine⟨⟨h1,⟨_,h2⟩,?_,λi=>?_,λj=>?_⟩,λj hj=>?_⟩
 ·rw[← zO h2 h1,← h4];rfl
 ·have:=hM.ub i;unfold bO at this;omega
 ·have:=hM.vb j;unfold bO at this;omega
 unfold qz
 split
 ·omega
 rename_i hp
 have h5:=h3 j hj hp
 have h6:=hM.le (j+1) (by omega) (by omega)
 have h7:=h.costOk (p.getD (j+1) 0-1) j (by omega) hj
 omega
theorem JT{f:Nat->Int}{m:Nat}(h:∀ j,j<m->0<=f j/\f j<=1000000000){k:Nat}(hk:k<=m):0<=aB f k/\aB f k<=1000000000*(k:Int):=lJ k (λi hi=>h i (by omega))
theorem Ey(n c m:Nat)(A:Option Addr)(T:List (List Int))(w:World)(hT:d8 w A n T)(aa:fP T m)(hU:cE (gT T) m (List.range n)≠n) :
 Calls Tryz.prog 47 #[.slice A n c] w λe w'=>e=.returned (.tuple #[.pointer none,.int .i64 0,.bool false])/\Below w.heap.size w w':=by
 refine ae ?_
 intro R hR
 have k8:n<=64:=by rw[hT.1];exact Nat.le_trans aa.nm aa.m64
 have cS:1<=m:=Nat.le_trans aa.n1 aa.nm
 have d6:=aa.m64
 have cn:=m9 (gT T) m (List.range n) (nodup_range n)
 rw[List.length_range] at cn
 obtain⟨K,hK⟩:∃ K,cE (gT T) m (List.range n)=K:=⟨_,rfl⟩
 rw[hK] at cn hU
 have bS:K<n:=by omega
 have HK:=zh hK
 have HT:=zh hT
 have cd:=zh aa
 clear hK hT aa hU cn
 go_enter Tryz.func47,Tryz.ntmps47
 go_wp2_with fail
 refine (mG _ _ _ m T _ HT.out cd.out).mono ?_
 rintro e w1 ⟨g,rfl,hbx,hg,bq⟩
 go_wp2_with fail
 refine (io n (by omega) _).mono ?_
 rintro e w2 ⟨g2,rfl,bD,cI,bc⟩
 have cL:=(bc.block g (Array.getElem?_eq_some_iff.1 hbx).1).trans hbx
 have cj:=(HT.out.below bq).below bc
 have ca:=bq.trans (bc.mono bq.size)
 clear bq bc hbx hg bD
 go_wp2_with fail
 refine (il n m n _ _ (gT T) qO w2 (mH w2 g n c m _ T cj cd.out cL) cS (by omega) (by omega) _ _ n (List.range n) (by omega) (ru n) (fB (n:=n) cI (by simp))).mono ?_
 rw[HK.out]
 rintro e w3 ⟨bp,rfl,cl⟩
 have Hf:=zh (hR.out (.returned (.tuple #[.pointer none,.int .i64 0,.bool false])) w3 ⟨rfl,ca.trans (cl.mono ca.size)⟩)
 clear cl ca cI cL cj
 go_wp2
 go_ret3
 exact Hf.out
theorem Cu(n c m:Nat)(A:Option Addr)(T:List (List Int))(w:World)(hT:d8 w A n T)(aa:fP T m)(eg:cE (gT T) m (List.range n)=n) :
 Calls Tryz.prog 47 #[.slice A n c] w λe w'=>∃ (sp bu bv bp bw:Nat) (u v:List Int) (p way:List Nat) (s:Int),e=.returned (.tuple #[.pointer (some ⟨sp,0,none⟩),.int .i64 s,.bool true])/\
  Sv w' sp A n c m bu bv bp bw u v p way/\oX w.heap.size sp bu bv bp bw/\Ef T m u v s/\Below w.heap.size w w':=by
 refine ae ?_
 intro R hR
 have hn:=hT.1
 have k8:n<=64:=by rw[hn];exact Nat.le_trans aa.nm aa.m64
 have e6:1<=n:=by rw[hn];exact aa.n1
 have cS:1<=m:=Nat.le_trans aa.n1 aa.nm
 have d6:=aa.m64
 have e7:n<=m:=by rw[hn];exact aa.nm
 have HK:=zh eg
 have cA:=rA (a:=aF T) (n:=n) (m:=m) (by rw[hn];exact rM aa.costOk) (by omega) e7 n (Nat.le_refl _)
 have HT:=zh hT
 have cd:=zh aa
 have k1:=zh aa.rect
 obtain⟨X,hX⟩:∃ X,df (aF T) n m n=X:=⟨_,rfl⟩
 rw[hX] at cA
 have HX:=zh hX
 have hC:=Jd (T:=T) (m:=m) (u:=X.1) (v:=X.2.1) (p:=X.2.2.1) (way:=X.2.2.2) aa (by rw[hn] at cA;exact cA) (by rw[hn] at eg;exact eg)
 have eo:=zh hC
 have i0:=zh cA
 clear eg hT aa hX hC cA hn
 go_enter Tryz.func47,Tryz.ntmps47
 go_wp2_with fail
 refine (mG _ _ _ m T _ HT.out cd.out).mono ?_
 rintro e w1 ⟨g,rfl,hbx,hg,bq⟩
 go_wp2_with fail
 refine (io n (by omega) _).mono ?_
 rintro e w2 ⟨g2,rfl,bD,cI,bc⟩
 have cL:=(bc.block g (Array.getElem?_eq_some_iff.1 hbx).1).trans hbx
 have cj:=(HT.out.below bq).below bc
 have ca:=bq.trans (bc.mono bq.size)
 clear bq bc hbx hg bD
 go_wp2_with fail
 refine (il n m n _ _ (gT T) qO w2 (mH w2 g n c m _ T cj cd.out cL) cS (by omega) (by omega) _ _ n (List.range n) (by omega) (ru n) (fB (n:=n) cI (by simp))).mono ?_
 rw[HK.out]
 rintro e w3 ⟨bp0,rfl,cl⟩
 have f9:=zh (cj.below cl)
 have b6:=zh (ca.trans (cl.mono ca.size))
 have g0:decide ((n:Int)<n)=false:=by simp
 clear cl ca cI cL cj
 go_wp2_with fail
 refine (DL n c m _ T _ f9.out cd.out).mono ?_
 rw[HX.out]
 rintro e w4 ⟨sp,bu,bv,bp,bw,rfl,hS,a0,e4⟩
 have HS:=zh hS
 have mn:=zh a0
 have j3:=zh (b6.out.trans (e4.mono b6.out.size))
 have jj:=zh (f9.out.below e4)
 obtain⟨q0,q1,q2,q3,q4⟩:=hS.cells
 have j4:=zh (show ∀ W',Qt w4 W'->R (.returned (.tuple #[.pointer (some ⟨sp,0,none⟩),.int .i64 (aB (qz T X.2.2.1) m),.bool true])) W' from λW' hq=>by
  obtain⟨q,rfl⟩:=hq
  exact hR.out _ _ ⟨sp,bu,bv,bp,bw,X.1,X.2.1,X.2.2.1,X.2.2.2,_,rfl,hS.drewN q,⟨a0.a1,a0.a2,a0.a3,a0.a4,a0.a5,a0.a6,Nat.le_trans b6.out.size a0.l0,Nat.le_trans b6.out.size a0.l1,Nat.le_trans b6.out.size a0.l2,Nat.le_trans b6.out.size a0.l3,Nat.le_trans b6.out.size a0.l4⟩,eo.out.1,dT j3.out q⟩)
 clear hS a0 e4 g0
 go_wp2_with fail
 clear q0 q1 q2 q3 q4
 go_loopg [8,9,10,31] (m+1) (λgk s8 s9 s10 s31 wr=>∃ k:Nat,k+gk=m+1/\s31=.int .i64 ((k:Nat):Int)/\s8=.int .i64 (aB (qz T X.2.2.1) (k-1))/\wr=w4)
 case atStart=>exact⟨0,by omega,rfl,rfl,rfl⟩
 obtain⟨k,hL,rfl,rfl,rfl⟩:=hrel
 by_cases bS:k<m+1
 ·obtain⟨f1,f2,f3,f4,f5,f6⟩:=HS.out.at_ (k:=k) (by omega)
  have i1:(k:Int)<(m:Int)+1:=by omega
  by_cases hN:k=0
  ·subst hN
   clear f1 f3 f4 f5 f6
   go_wp2_with fail
   go_roundg (gk-1)
   case measure=>omega
   case rel=>exact⟨1,by omega,rfl,rfl,rfl⟩
  obtain⟨j,rfl⟩:∃ j,k=j+1:=⟨k-1,by omega⟩
  obtain⟨r,hr⟩:∃ r,X.2.2.1.getD (j+1) 0=r:=⟨_,rfl⟩
  rw[hr] at f2
  rw[Nat.add_sub_cancel]
  obtain⟨s0,cT⟩:∃ s0,aB (qz T X.2.2.1) j=s0:=⟨_,rfl⟩
  rw[cT]
  have l9:=JT eo.out.2 (k:=j) (by omega)
  rw[cT] at l9
  have bg:aB (qz T X.2.2.1) (j+1)=s0+if r=0 then 0 else ct T (r-1) j:=by rw[aB,cT,qz,hr]
  have g1:decide ((0:Int)<(j:Int)+1)=true:=decide_eq_true (by omega)
  by_cases e8:r=0
  ·subst e8
   rw[if_pos rfl,Int.add_zero] at bg
   have es:=zh bg
   clear bg cT hr f1 f3 f4 f5 f6
   go_wp2_with fail
   go_roundg (gk-1)
   case measure=>omega
   case rel=>exact⟨j+1+1,by omega,by go_num,by rw[Nat.add_sub_cancel,es.out],rfl⟩
  rw[if_neg e8] at bg
  obtain⟨r1,rfl⟩:∃ r1,r=r1+1:=⟨r-1,by omega⟩
  have lf:r1<n:=by
   have:=i0.out.le (j+1) (by omega) (by omega)
   omega
  obtain⟨b,o,Ai,ci,bi,oi,rfl,_,_,t1,rfl,t2⟩:=iM jj.out k1.out (Below.refl _ _) (r:=r1) (k:=j) lf (by omega)
  rw[Nat.add_sub_cancel] at bg
  obtain⟨y,hy⟩:∃ y,ct T r1 j=y:=⟨_,rfl⟩
  rw[hy] at bg t2
  have mj:=eo.out.2 j (by omega)
  rw[qz,hr,if_neg (by omega),Nat.add_sub_cancel,hy] at mj
  have i2:(r1:Int)<(n:Int):=by omega
  have i3:(j:Int)<(m:Int):=by omega
  have g2:decide ((0:Int)<(r1:Int)+1)=true:=decide_eq_true (by omega)
  have es:=zh bg
  clear bg cT hr hy f1 f3 f4 f5 f6 e8 hN
  go_wp2_with fail
  go_roundg (gk-1)
  case measure=>omega
  case rel=>exact⟨j+1+1,by omega,by go_num,by rw[Nat.add_sub_cancel,es.out],rfl⟩
 obtain rfl:k=m+1:=by omega
 have j2:=zh (j4.out _ (Qt.refl _))
 rw[Nat.add_sub_cancel]
 go_wp2
 go_ret3
 exact j2.out
end
section
open Go.RowKit
theorem ag.drop1{w:World}{b o n k:Nat}{l:List Int}(h:ag ak 1 w (some ⟨b,o,none⟩) n l)(hk:k<n):ag ak 1 w (some ⟨b,o+k,none⟩) (n-k) (l.drop k):=by
 obtain⟨h1,h2,h3⟩:=h
 refine⟨by simp[h1],by rw[bU jM];simp[h1],λ_=>?_⟩
 obtain⟨b',o',hA,hb,hc⟩:=h3 (by omega)
 simp only[Option.some.injEq,Addr.mk.injEq,and_true] at hA
 obtain⟨rfl,rfl⟩:=hA
 refine⟨b,o+k,rfl,hb,λj u hu=>?_⟩
 rw[lM,List.getElem?_map,List.getElem?_drop] at hu
 rw[Nat.add_assoc]
 exact hc (k+j) u (by rw[lM,List.getElem?_map];exact hu)
theorem kQ{b:Nat}{w w':World}(h:Below b w.drew w'):Below b w w':=⟨h.os,h.tape,h.output,h.size,h.block⟩
theorem tI(n k:Nat):(Gz n).drop k=aX ((List.range n).drop k):=by unfold Gz aX;rw[List.map_drop]
def eO(v:Nat->Int)(taken:List Bool)(k:Nat):List Nat:=(List.range k).filter λj => !(taken.getD j false)&&decide (v j<0)
theorem Bu(v:Nat->Int)(taken:List Bool)(k:Nat):eO v taken (k+1)=eO v taken k++if (!(taken.getD k false)&&decide (v k<0))=true then [k] else []:=by
 unfold eO
 rw[List.range_succ,List.filter_append]
 congr 1
 rw[List.filter_cons]
 split<;>simp[*]
theorem vi(v:Nat->Int)(taken:List Bool)(k:Nat):(eO v taken k).length<=k:=by
 have:=List.length_filter_le (λj => !(taken.getD j false)&&decide (v j<0)) (List.range k)
 simpa[eO] using this
theorem rV(S:List Nat)(k:Nat):aX (S++[k])=aX S++[(k:Int)]:=by simp[aX]
theorem Eh:Enters Tryz.prog 220:=enters_of Tryz.func220 (by kernel_rfl) rfl
theorem Es(W:World)(b5 b7 n m fr:Nat)(F:FuncId)(caps:Array Value)(g:Nat->Nat->Bool)(cN:Enters Tryz.prog F)(bE:kb W W.heap.size F caps n m g)
 (h5:W.heap[b5]?=some (.cells #[.int .i64 (fr:Int)] 3 (0,0))) (h7:W.heap[b7]?=some (.cells #[.func (.func F) #[] caps] 146 (0,0))) (_hn:n<=1000) :
 kb W W.heap.size 220 #[.pointer (some ⟨b5,0,none⟩),.pointer (some ⟨b7,0,none⟩)] m n (λj i=>decide (fr<=i)&&g i j):=by
 intro W1 j i hb hj hi
 refine ae ?_
 intro R hR
 have q5:W1.cell? ⟨b5,0,none⟩=some (.int .i64 (fr:Int)):=by rw[cell_of_row _ _ 0 _ _ (0,0) ((hb.block b5 (Array.getElem?_eq_some_iff.1 h5).1).trans h5)];rfl
 have q7:W1.cell? ⟨b7,0,none⟩=some (.func (.func F) #[] caps):=by rw[cell_of_row _ _ 0 _ _ (0,0) ((hb.block b7 (Array.getElem?_eq_some_iff.1 h7).1).trans h7)];rfl
 have ms:∀ (args:Array Value) (w:World),(callFunc F args).run Tryz.prog w=.ok (.enter F args) w:=cN
 have Hm:=zh (bE W1 i j hb hi hj)
 clear hb h5 h7 bE cN
 show Calls Tryz.prog 220 #[.int .i64 (j:Int),.int .i64 (i:Int),.pointer (some ⟨b5,0,none⟩),.pointer (some ⟨b7,0,none⟩)] W1 R
 by_cases hf:fr<=i
 ·have g1:decide (fr<=i)=true:=decide_eq_true hf
  have g2:decide ((i:Int)>=(fr:Int))=true:=decide_eq_true (by omega)
  have Hf:=zh (show ∀ W',Qt W1 W'->R (.returned (.bool (g i j))) W' from λW' hq=>hR.out _ _ ⟨rv (by show _=(decide (fr<=i)&&g i j);rw[g1];rfl),hq⟩)
  clear hR g1
  go_enter Tryz.func220,Tryz.ntmps220
  go_wp2_with fail
  refine Hm.out.mono ?_
  rintro e w2 ⟨rfl,hq⟩
  go_wp2
  exact Hf.out _ hq
 have g1:decide (fr<=i)=false:=decide_eq_false hf
 have Hf:=zh (hR.out (.returned (.bool false)) W1 ⟨rv (by show _=(decide (fr<=i)&&g i j);rw[g1];rfl),Qt.refl _⟩)
 clear hR g1
 go_enter Tryz.func220,Tryz.ntmps220
 go_wp2
 exact Hf.out
theorem vS(W:World)(sp n c m bu bv bp bw bk fr:Nat)(A:Option Addr)(u v:List Int)(p way:List Nat)(taken:List Bool)(F:FuncId)(caps:Array Value)(g:Nat->Nat->Bool)(vf:Nat->Int)
 (hS:Sv W sp A n c m bu bv bp bw u v p way) (hk:em W bk taken) (cn:taken.length=m) (cN:Enters Tryz.prog F) (bE:kb W W.heap.size F caps n m g) (e6:1<=n) (cS:1<=m) (hn:n<=64) (hm:m<=64) (m1:fr<=n) (cq:∀ j,vf j=v.getD (j+1) 0) :
 Calls Tryz.prog 138 #[.pointer (some ⟨sp,0,none⟩),.int .i64 (fr:Int),.slice (some ⟨bk,0,none⟩) m m,.func (.func F) #[] caps] W λe W' =>
  e=.returned (.bool (decide (cE g m ((List.range n).drop fr)=((List.range n).drop fr).length)&&decide (cE (λj i=>decide (fr<=i)&&g i j) n (eO vf taken m)=(eO vf taken m).length)))/\Below W.heap.size W W':=by
 refine ae ?_
 intro R hR
 obtain⟨X,hX⟩:∃ X,(List.range n).drop fr=X:=⟨_,rfl⟩
 obtain⟨M,hM⟩:∃ M,eO vf taken m=M:=⟨_,rfl⟩
 rw[hX,hM] at hR
 have he:X.length=n-fr:=by rw[← hX];simp
 have HX:=zh hX
 have jk:=zh he
 have HM:=zh hM
 have kl:=zh cn
 have ds:=zh bE
 have et:=zh cq
 have HS:=zh hS
 have Hk:=zh hk
 have ma:=hS.lt
 have m3:=hk.lt
 obtain⟨q0,q1,q2,q3,q4⟩:=hS.cells
 have n1:sp≠W.heap.size:=by omega
 have n2:sp≠W.heap.size+1:=by omega
 have z1:IntKind.i64.wrap ((n:Int)+1-1)=(n:Int):=by rw[show (n:Int)+1-1=n by omega];exact IntWalk.i64_in _ (by omega)
 have z2:IntKind.i64.wrap ((m:Int)+1-1)=(m:Int):=by rw[show (m:Int)+1-1=m by omega];exact IntWalk.i64_in _ (by omega)
 clear hX hM he cn bE cq hS hk
 go_enter Tryz.func138,Tryz.ntmps138
 go_wp2_with fail
 go_quiet (fail)
 rename_i nq
 clear z1 z2 q0 q1 q2 q3 q4 n1 n2
 have bc:=uF W (.cells #[.int .i64 (fr:Int)] 3) (.cells #[.func (.func F) #[] caps] 146)
 have bj:=dT bc nq
 have h5:(((W.alloc (.cells #[.int .i64 (fr:Int)] 3)).alloc (.cells #[.func (.func F) #[] caps] 146)).drewN nq).heap[W.heap.size]?=some (.cells #[.int .i64 (fr:Int)] 3 (0,0)):=CR W _ _
 have h7:(((W.alloc (.cells #[.int .i64 (fr:Int)] 3)).alloc (.cells #[.func (.func F) #[] caps] 146)).drewN nq).heap[W.heap.size+1]?=some (.cells #[.func (.func F) #[] caps] 146 (0,0)):=CS W _ _
 have ha:=HS.out.below bj
 have hO:=Hk.out.below bj
 have hP:=ds.out.at bj bj.size
 clear bc
 generalize (((W.alloc (.cells #[.int .i64 (fr:Int)] 3)).alloc (.cells #[.func (.func F) #[] caps] 146)).drewN nq)=wd at *
 obtain⟨b5,e5⟩:∃ b,W.heap.size=b:=⟨_,rfl⟩
 obtain⟨b7,ad⟩:∃ b,W.heap.size+1=b:=⟨_,rfl⟩
 rw[ad] at h7
 rw[e5] at h5
 have jF:=zh e5
 have jT:=zh ad
 have q5:wd.cell? ⟨b5,0,none⟩=some (.int .i64 (fr:Int)):=by rw[cell_of_row _ _ 0 _ _ (0,0) h5];rfl
 have gw:=(Array.getElem?_eq_some_iff.1 h5).1
 have H5:=zh h5
 have H7:=zh h7
 have i9:=zh ha
 have kd:=zh hO
 have kw:=zh hP
 have dk:=zh bj
 have i1:(fr:Int)<=(n:Int):=by omega
 clear h5 h7 ha hO hP bj e5 ad
 go_wp2_with (rw[jT.out,jF.out])
 go_upto_region 2 with fail
 go_cut [11] (λs11 wx=>∃ (A2:Option Addr) (L2 c2:Nat),s11=.slice A2 L2 c2/\ag ak 1 wx A2 L2 (aX X)/\L2=n-fr/\Below wd.heap.size wd wx)
 case first =>
  by_cases hH:fr=n
  ·have hh:X=[]:=by rw[← HX.out,hH];exact List.drop_of_length_le (by simp)
   have js:=zh hh
   subst hH
   clear hh
   go_region_held3 (λw'=>w'.cell? ⟨b5,0,none⟩=some (.int .i64 (fr:Int)))
    (first|go_keep|exact (cC.cell (p:=⟨b5,0,none⟩) gw).trans q5)
    (first|(go_at_call 52;refine (io fr (by omega) _).mono ?_;rintro e w6 ⟨g6,rfl,k7,hB,cC⟩))
   all_goals
    go_wp2_with fail
    go_meet
    exact⟨_,_,_,rfl,by rw[js.out];(first|exact ag.nil _ _|(rw[Nat.sub_self];exact ag.nil _ _)),by omega,kQ cC⟩
  have bS:fr<n:=by omega
  have m0:¬ n=fr:=by omega
  go_region_held3 (λw'=>w'.cell? ⟨b5,0,none⟩=some (.int .i64 (fr:Int)))
   (first|go_keep|exact (cC.cell (p:=⟨b5,0,none⟩) gw).trans q5)
   (first|(go_at_call 52;refine (io n (by omega) _).mono ?_;rintro e w6 ⟨g6,rfl,k7,hB,cC⟩))
  all_goals
   go_wp2_with fail
   go_meet
   refine⟨_,_,_,rfl,?_,rfl,kQ cC⟩
   have hd:=ag.drop1 (fB (n:=n) hB (by simp)) bS
   rw[Nat.zero_add] at hd
   rw[← HX.out,← tI]
   exact hd
 obtain⟨A2,L2,c2,mc,gC,gO,hbx⟩:=hcut
 subst mc
 have h7:=(hbx.block b7 (Array.getElem?_eq_some_iff.1 H7.out).1).trans H7.out
 have q7:wc.cell? ⟨b7,0,none⟩=some (.func (.func F) #[] caps):=by rw[cell_of_row _ _ 0 _ _ (0,0) h7];rfl
 have h9:=zh gC
 have i8:=zh (i9.out.below hbx)
 have ka:=zh (kd.out.below hbx)
 have go:=zh (kw.out.at hbx hbx.size)
 have gb:=zh (dk.out.trans (hbx.mono dk.out.size))
 have fb:=zh ((hbx.block b5 (Array.getElem?_eq_some_iff.1 H5.out).1).trans H5.out)
 have fu:=zh h7
 obtain⟨K,hK⟩:∃ K,cE g m X=K:=⟨_,rfl⟩
 have gN:=m9 g m X (by rw[← HX.out];exact nW n fr)
 rw[hK] at hR gN
 have HK:=zh hK
 have k5:=zh (show ∀ r∈X,r<n from λr hr=>by rw[← HX.out] at hr;exact (cz.1 hr).2)
 rw[jk.out] at gN hR
 have mq:L2<=n:=by omega
 have f8:=zh gO
 clear gC hbx h7 hK gO
 go_wp2_with fail
 refine (il n m n F caps g cN _ go.out cS (by omega) (by omega) A2 c2 L2 X (by omega) k5.out h9.out).mono ?_
 rw[HK.out]
 rintro e w7 ⟨bp7,rfl,ad⟩
 have jf:=zh (i8.out.below ad)
 have kk:=zh (ka.out.below ad)
 have kN:=zh (go.out.at ad ad.size)
 have dq:=zh (gb.out.trans (ad.mono gb.out.size))
 have fc:=zh ((ad.block b5 (Array.getElem?_eq_some_iff.1 fb.out).1).trans fb.out)
 have fz:=zh ((ad.block b7 (Array.getElem?_eq_some_iff.1 fu.out).1).trans fu.out)
 clear ad q7 q5
 by_cases mo:K<L2
 ·have Hf:=zh (hR.out (.returned (.bool false)) w7 ⟨by rw[decide_eq_false (by have:=f8.out;omega)];rfl,dq.out⟩)
  go_wp2
  exact Hf.out
 have hG:decide (K=n-fr)=true:=decide_eq_true (by have:=f8.out;omega)
 have j1:=zh hG
 have mr:=dq.out.size
 clear hG
 go_wp2_with fail
 go_loopg [14,15,49] m (λgk s14 s15 s49 wr=>∃ (k:Nat) (A3:Option Addr) (c3:Nat),k+gk=m/\s49=.int .i64 ((k:Nat):Int)/\s14=.slice A3 (eO vf taken k).length c3/\wr.ownsRow w7.heap.size 3 1 (.slice A3 (eO vf taken k).length c3) (eO vf taken k).length ((aX (eO vf taken k)).flatMap ak)/\Below w7.heap.size w7 wr)
 case atStart=>exact⟨0,none,0,by omega,rfl,rfl,World.ownsRow_nil _ _ _ _,Below.refl _ _⟩
 obtain⟨k,A3,c3,hL,rfl,rfl,ho,hb⟩:=hrel
 obtain⟨wi,rfl⟩:∃ wi:World,wi=wr:=⟨_,rfl⟩
 by_cases bS:k<m
 ·have e3:=jf.out.below hb
  obtain⟨q0,q1,q2,q3,q4⟩:=e3.cells
  obtain⟨f1,f2,f3,f4,f5,f6⟩:=e3.at_ (k:=k+1) (by omega)
  obtain⟨d1,d2⟩:=(kk.out.below hb).at_ (k:=k) (by rw[kl.out];exact bS)
  have i2:(k:Int)<(m:Int):=by omega
  have i3:(k:Int)+1<(m:Int)+1:=by omega
  have t1:((k:Int)+1).toNat=k+1:=by omega
  have d7:=vi vf taken k
  have bm:=Bu vf taken k
  obtain⟨y,hy⟩:∃ y,v.getD (k+1) 0=y:=⟨_,rfl⟩
  rw[hy] at f1
  rw[show vf k=y by rw[et.out,hy]] at bm
  obtain⟨Mk,g7⟩:∃ Mk,eO vf taken k=Mk:=⟨_,rfl⟩
  rw[g7] at d7 bm ho ⊢
  obtain⟨Lk,eF⟩:∃ Lk,Mk.length=Lk:=⟨_,rfl⟩
  rw[eF] at d7 ho ⊢
  have cc:=zh eF
  have Ho:=zh ho
  have Hb:=zh hb
  have cV:=hb.size
  clear e3 f2 f3 f4 f5 f6 d2 g7 eF ho hb hy
  cases am:taken.getD k false with
  |true =>
   rw[am] at d1 bm
   have bI:=zh (show eO vf taken (k+1)=Mk by rw[bm];simp)
   clear bm am
   go_wp2_with fail
   go_roundg (gk-1)
   case measure=>omega
   case rel=>exact⟨k+1,A3,c3,by omega,by go_num,by rw[bI.out,cc.out],by rw[bI.out,cc.out];exact Ho.out,Hb.out⟩
  |false =>
   rw[am] at d1 bm
   by_cases fa:y<0
   ·have bI:=zh (show eO vf taken (k+1)=Mk++[k] by rw[bm,decide_eq_true fa];rfl)
    clear bm am
    go_wp2_with (at_builtin;refine ax rfl (.tmp 68) (.tmp 70) _ rfl lG w7.heap.size _ _ _ rfl (Ho.out.kept (World.grownBy_alloc wi _ none) (by cases (Value.slice A3 Lk c3).ownBlock<;>simp)) _ _ _ _ rfl (Sl.new _ _ _ 1 1 rfl) (by simp[Value.oneCell']) (by unfold maxLen;omega) (by omega) (by simp;omega) ?_;intro A4 c4 w8 hW hI _;have hl:=aL (Hb.out.alloc cV _) (Ho.out.kept (World.grownBy_alloc wi _ none) (by cases (Value.slice A3 Lk c3).ownBlock<;>simp)) (Nat.le_refl _) (by simp;omega) hI;have HO:=zh (show w8.ownsRow w7.heap.size 3 1 (.slice A4 (Lk+1) c4) (Lk+1) ((aX (Mk++[k])).flatMap ak) from by rw[rV,List.flatMap_append];exact hW);have HB:=zh hl;clear hW hI hl)
    go_roundg (gk-1)
    case measure=>omega
    case rel=>exact⟨k+1,A4,c4,by omega,by go_num,by rw[bI.out,List.length_append,cc.out];rfl,by rw[bI.out,List.length_append,cc.out];exact HO.out,HB.out⟩
   have bI:=zh (show eO vf taken (k+1)=Mk by rw[bm,decide_eq_false fa];simp)
   have g3:decide (y<0)=false:=decide_eq_false fa
   clear bm am
   go_wp2_with fail
   go_roundg (gk-1)
   case measure=>omega
   case rel=>exact⟨k+1,A3,c3,by omega,by go_num,by rw[bI.out,cc.out],by rw[bI.out,cc.out];exact Ho.out,Hb.out⟩
 obtain rfl:m=k:=by omega
 rw[HM.out] at ho ⊢
 obtain⟨Lm,cx⟩:∃ Lm,M.length=Lm:=⟨_,rfl⟩
 rw[cx] at ho hR ⊢
 have d7:=vi vf taken m
 rw[HM.out,cx] at d7
 have la:M.Nodup:=by rw[← HM.out];exact (nodup_range m).filter _
 have ks:=zh (show ∀ r∈M,r<m from λr hr=>by rw[← HM.out] at hr;exact List.mem_range.1 (List.mem_filter.1 hr).1)
 obtain⟨K2,eB⟩:∃ K2,cE (λj i=>decide (fr<=i)&&g i j) n M=K2:=⟨_,rfl⟩
 rw[eB] at hR
 have iF:=zh eB
 have ml:=zh cx
 have iT:=zh (ag.of_own ho (by rw[km,cx]))
 have fo:=(hb.block b5 (Array.getElem?_eq_some_iff.1 fc.out).1).trans fc.out
 have f0:=(hb.block b7 (Array.getElem?_eq_some_iff.1 fz.out).1).trans fz.out
 have hQ:=kN.out.at hb hb.size
 have cr:=zh (ab wi (.cells #[.int .i64 (m:Int),.int .i64 (n:Int),.func (.func 220) #[] #[.pointer (some ⟨b5,0,none⟩),.pointer (some ⟨b7,0,none⟩)]] 148))
 have ih:=zh ((Es wi b5 b7 n m fr F caps g cN hQ fo f0 (by omega)).at cr.out cr.out.size)
 have en:=zh (dq.out.trans (hb.mono dq.out.size))
 have i5:=zh (iT.out.below cr.out)
 clear cx ho hb fo f0 hQ la eB
 go_wp2_with fail
 refine (il m n m _ _ (λj i=>decide (fr<=i)&&g i j) Eh _ ih.out (by omega) (by omega) (by omega) A3 c3 Lm M (by omega) ks.out i5.out).mono ?_
 rw[iF.out]
 rintro e w9 ⟨bp9,rfl,hs⟩
 have Hf:=zh (show ∀ t:Bool,decide (K2=Lm)=t->R (.returned (.bool t)) w9 from λt ht=>hR.out _ _ ⟨by rw[j1.out,ht];rfl,(en.out.trans (cr.out.mono en.out.size)).trans (hs.mono (Nat.le_trans en.out.size cr.out.size))⟩)
 clear hs
 by_cases hE:K2=Lm
 ·have g4:((K2:Int)==Lm)=true:=by simp[hE]
  have Hg:=zh (Hf.out true (decide_eq_true hE))
  clear hE
  go_wp2
  exact Hg.out
 have g4:((K2:Int)==Lm)=false:=by simp;omega
 have Hg:=zh (Hf.out false (decide_eq_false hE))
 clear hE
 go_wp2
 exact Hg.out
end
section
open Go.RowKit
theorem Eg:Enters Tryz.prog 137:=enters_of Tryz.func137 (by kernel_rfl) rfl
theorem jn{W:World}{base sz n b:Nat}{e t:TypeId}{v:Value}{xs:List Value}{cs:Array Value}(h:W.ownsRow base e sz v n xs)(hb:W.heap[b]?=some (.cells cs t (0,0)))(lc:e≠t):v.ownBlock≠some b:=by
 rcases h.2 with⟨rfl,_⟩|⟨g,c,cur,rfl,_,hg,_⟩
 ·simp[Value.ownBlock]
 intro e1
 have:g=b:=by simpa[Value.ownBlock] using e1
 subst this
 rw[hg] at hb
 simp only[Option.some.injEq,Obj.cells.injEq] at hb
 exact lc hb.2.1
structure Ft(W0 W:World)(bx bt bk sp m:Nat)(taken:List Bool):Prop where
 hbx:W.heap[bx]?=some (.cells #[.pointer (some ⟨sp,0,none⟩)] 137 (0,0))
 hbt:W.heap[bt]?=some (.cells #[.slice (some ⟨bk,0,none⟩) m m] 224 (0,0))
 hbk:em W bk taken
 tl:taken.length=m
 lo:W0.heap.size<=bk
 bel:Below W0.heap.size W0 W
section
variable{W0 W W':World}{bx bt bk sp m:Nat}{taken:List Bool}
theorem Ft.below(h:Ft W0 W bx bt bk sp m taken)(hb:Below W.heap.size W W'):Ft W0 W' bx bt bk sp m taken:=
 ⟨(hb.block bx (Array.getElem?_eq_some_iff.1 h.hbx).1).trans h.hbx,(hb.block bt (Array.getElem?_eq_some_iff.1 h.hbt).1).trans h.hbt,h.hbk.below hb,h.tl,h.lo,h.bel.trans (hb.mono h.bel.size)⟩
theorem Ft.ne(h:Ft W0 W bx bt bk sp m taken):bx≠bk/\bt≠bk:=by
 have h3:W.heap[bk]?=_:=h.hbk
 refine⟨λe=>?_,λe=>?_⟩
 ·have h1:=h.hbx;rw[e,h3] at h1;simp at h1
 have h1:=h.hbt;rw[e,h3] at h1;simp at h1
theorem Ft.set(h:Ft W0 W bx bt bk sp m taken)(k:Nat)(x:Bool):Ft W0 (W.setCell ⟨bk,k,none⟩ (.bool x)) bx bt bk sp m (taken.set k x):=
 ⟨(Below.heap_setCell W ⟨bk,k,none⟩ _ bx h.ne.1).trans h.hbx,(Below.heap_setCell W ⟨bk,k,none⟩ _ bt h.ne.2).trans h.hbt,h.hbk.set k x,by simpa using h.tl,h.lo,h.bel.setCell (p:=⟨bk,k,none⟩) h.lo _⟩
theorem Ft.grown(h:Ft W0 W bx bt bk sp m taken){v:Value}{base n sz:Nat}{xs:List Value}(ho:W.ownsRow base 3 sz v n xs)(hb:W0.heap.size<=base)(hg:W.grownBy W' v.ownBlock):Ft W0 W' bx bt bk sp m taken:=by
 have h3:W.heap[bk]?=_:=h.hbk
 exact⟨(hg.block bx (Array.getElem?_eq_some_iff.1 h.hbx).1 (λe=>jn ho h.hbx (by decide) e.symm)).trans h.hbx,(hg.block bt (Array.getElem?_eq_some_iff.1 h.hbt).1 (λe=>jn ho h.hbt (by decide) e.symm)).trans h.hbt,
  (hg.block bk h.hbk.lt (λe=>jn ho h3 (by decide) e.symm)).trans h.hbk,h.tl,h.lo,aL h.bel ho hb h.bel.size hg⟩
end
theorem DZ(W0 W:World)(bx bt bk sp n c m bu bv bp bw:Nat)(A:Option Addr)(T:List (List Int))(u v:List Int)(p way:List Nat)(taken:List Bool)(hF:Ft W0 W bx bt bk sp m taken)(hS:Sv W0 sp A n c m bu bv bp bw u v p way)(hT:d8 W0 A n T)(aa:fP T m)
 (hu:∀ i,0<=u.getD i 0/\u.getD i 0<=64000000000000) (hv:∀ i,-64000000000000<=v.getD i 0/\v.getD i 0<=0) :
 kb W W.heap.size 137 #[.pointer (some ⟨bt,0,none⟩),.pointer (some ⟨bx,0,none⟩)] n m (cu T (λi=>u.getD (i+1) 0) (λj=>v.getD (j+1) 0) taken):=by
 intro W1 i j hb hi hj
 refine ae ?_
 intro R hR
 have b8:=hF.below hb
 have dz:=hS.below b8.bel
 obtain⟨q0,q1,q2,q3,q4⟩:=dz.cells
 have qx:W1.cell? ⟨bx,0,none⟩=some (.pointer (some ⟨sp,0,none⟩)):=by rw[cell_of_row _ _ 0 _ _ (0,0) b8.hbx];rfl
 have qt:W1.cell? ⟨bt,0,none⟩=some (.slice (some ⟨bk,0,none⟩) m m):=by rw[cell_of_row _ _ 0 _ _ (0,0) b8.hbt];rfl
 obtain⟨d1,d2⟩:=b8.hbk.at_ (k:=j) (by rw[b8.tl];exact hj)
 have k6:=aa.costOk i j (by rw[← hT.1];exact hi) hj
 have d6:=aa.m64
 have e7:n<=m:=by rw[hT.1];exact aa.nm
 obtain⟨b,o,Ai,ci,bi,oi,rfl,_,_,t1,rfl,t2⟩:=iM hT aa.rect b8.bel hi hj
 obtain⟨f1,f2,f3,f4,f5,f6⟩:=dz.at_ (k:=j+1) (by omega)
 obtain⟨e1,e2⟩:=dz.atU (k:=i+1) (by omega)
 have mb:=hu (i+1)
 have mf:=hv (j+1)
 have a9:cu T (λi=>u.getD (i+1) 0) (λj=>v.getD (j+1) 0) taken i j=(!(taken.getD j false)&&(decide (0<=ct T i j)&&(u.getD (i+1) 0+v.getD (j+1) 0==ct T i j))):=rfl
 obtain⟨z,hz⟩:∃ z,ct T i j=z:=⟨_,rfl⟩
 obtain⟨x,hx⟩:∃ x,u.getD (i+1) 0=x:=⟨_,rfl⟩
 obtain⟨y,hy⟩:∃ y,v.getD (j+1) 0=y:=⟨_,rfl⟩
 rw[hz] at t2 k6 a9
 rw[hx] at e1 mb a9
 rw[hy] at f1 mf a9
 have i1:(i:Int)<(n:Int):=by omega
 have i2:(j:Int)<(m:Int):=by omega
 have i3:(i:Int)+1<(n:Int)+1:=by omega
 have i4:(j:Int)+1<(m:Int)+1:=by omega
 have y1:IntKind.i64.wrap ((i:Int)+1)=(i:Int)+1:=IntWalk.i64_in _ (by omega)
 have y2:IntKind.i64.wrap ((j:Int)+1)=(j:Int)+1:=IntWalk.i64_in _ (by omega)
 have y3:IntKind.i64.wrap (x+y)=x+y:=IntWalk.i64_in _ (by omega)
 have s1:((i:Int)+1).toNat=i+1:=by omega
 have s2:((j:Int)+1).toNat=j+1:=by omega
 show Calls Tryz.prog 137 #[.int .i64 (i:Int),.int .i64 (j:Int),.pointer (some ⟨bt,0,none⟩),.pointer (some ⟨bx,0,none⟩)] W1 R
 rw[a9] at hR
 have HR:=zh hR
 clear hR a9 hx hy hz hF b8 hS dz hT aa hb hu hv e2 f2 f3 f4 f5 f6 d2
 cases am:taken.getD j false with
 |true =>
  rw[am] at d1 HR
  have Hf:=zh (show ∀ q,R (.returned (.bool false)) (W1.drewN q) from λq=>HR.out.out _ _ ⟨by simp,(Qt.refl W1).step q⟩)
  clear am HR
  go_enter Tryz.func137,Tryz.ntmps137
  go_wp2_with fail
  go_quiet (fail)
  go_wp2
  exact Hf.out _
 |false =>
  rw[am] at d1 HR
  by_cases c5:z = -1
  ·have g1:(z != -1)=false:=by simp[c5]
   have Hf:=zh (show ∀ q,R (.returned (.bool false)) (W1.drewN q) from λq=>HR.out.out _ _ ⟨by rw[c5];rfl,(Qt.refl W1).step q⟩)
   clear am HR c5
   go_enter Tryz.func137,Tryz.ntmps137
   go_wp2_with fail
   go_quiet (fail)
   go_wp2
   exact Hf.out _
  have g1:(z != -1)=true:=by simpa using c5
  have h8:decide (0<=z)=true:=decide_eq_true (by omega)
  have Hf:=zh (show ∀ q,R (.returned (.bool (x+y==z))) (W1.drewN q) from λq=>HR.out.out _ _ ⟨by rw[h8];rfl,(Qt.refl W1).step q⟩)
  clear am HR c5 h8
  go_enter Tryz.func137,Tryz.ntmps137
  go_wp2_with fail
  go_quiet (fail)
  go_wp2
  exact Hf.out _
theorem yI{T:List (List Int)}{n m fr:Nat}{u v:Nat->Int}{taken:List Bool}(hn:n=T.length):cW T m u v fr taken =
 (decide (cE (cu T u v taken) m ((List.range n).drop fr)=((List.range n).drop fr).length)&&decide (cE (λj i=>decide (fr<=i)&&cu T u v taken i j) n (eO v taken m)=(eO v taken m).length)):=by subst hn;rfl
theorem Bz{T:List (List Int)}{m row k:Nat}{u v:Nat->Int}{taken:List Bool}(hk:k<m)(h1:∀ j,j<k->(cu T u v taken row j&&cW T m u v (row+1) (taken.set j true))=false)(h2:(cu T u v taken row k&&cW T m u v (row+1) (taken.set k true))=true):mC T m u v taken row=some k:=by
 unfold mC
 rw[List.find?_eq_some_iff_append]
 refine⟨h2,List.range k,(List.range (m-(k+1))).map (· + (k+1)),?_,λj hj=>by rw[h1 j (List.mem_range.1 hj)];rfl⟩
 have:m=k+1+(m-(k+1)):=by omega
 rw[this,List.range_add,List.range_succ,List.append_assoc]
 simp[Nat.add_comm]
theorem By{T:List (List Int)}{m row:Nat}{u v:Nat->Int}{taken:List Bool}(h1:∀ j,j<m->(cu T u v taken row j&&cW T m u v (row+1) (taken.set j true))=false):mC T m u v taken row=none:=by
 unfold mC
 rw[List.find?_eq_none]
 intro j hj
 rw[h1 j (List.mem_range.1 hj)];simp
theorem yP{T:List (List Int)}{m r c:Nat}{u v:Nat->Int}{rs:List Nat}{taken:List Bool}{l:List Nat}(h:mC T m u v taken r=some c):cD T m u v (r :: rs) taken l=cD T m u v rs (taken.set c true) (l++[c]):=by rw[cD,h]
theorem yO{T:List (List Int)}{m r:Nat}{u v:Nat->Int}{rs:List Nat}{taken:List Bool}{l:List Nat}(h:mC T m u v taken r=none):cD T m u v (r :: rs) taken l=cD T m u v rs taken l:=by rw[cD,h]
theorem Ge{l:List Bool}{k:Nat}(h:l.getD k false=false)(hk:k<l.length):(l.set k true).set k false=l:=by
 rw[List.set_set]
 rw[aw _ _ _ hk] at h
 rw[← h,List.set_getElem_self]
theorem CI(W:World)(sp n c m bu bv bp bw:Nat)(A:Option Addr)(T:List (List Int))(u v:List Int)(p way:List Nat)(hS:Sv W sp A n c m bu bv bp bw u v p way)(hT:d8 W A n T)(aa:fP T m)
 (hu:∀ i,0<=u.getD i 0/\u.getD i 0<=64000000000000) (hv:∀ i,-64000000000000<=v.getD i 0/\v.getD i 0<=0) :
 Calls Tryz.prog 48 #[.pointer (some ⟨sp,0,none⟩)] W λe W'=>∃ A' c',e=.returned (.slice A' (cD T m (λi=>u.getD (i+1) 0) (λj=>v.getD (j+1) 0) (List.range n) (List.replicate m false) []).length c')/\
  W'.ownsRow W.heap.size 3 1 (.slice A' (cD T m (λi=>u.getD (i+1) 0) (λj=>v.getD (j+1) 0) (List.range n) (List.replicate m false) []).length c') (cD T m (λi=>u.getD (i+1) 0) (λj=>v.getD (j+1) 0) (List.range n) (List.replicate m false) []).length
   ((aX (cD T m (λi=>u.getD (i+1) 0) (λj=>v.getD (j+1) 0) (List.range n) (List.replicate m false) [])).flatMap ak)/\Below W.heap.size W W':=by
 refine ae ?_
 intro R hR
 obtain⟨uf,h0⟩:∃ uf,(λi=>u.getD (i+1) 0)=uf:=⟨_,rfl⟩
 obtain⟨vf,cq⟩:∃ vf,(λj=>v.getD (j+1) 0)=vf:=⟨_,rfl⟩
 have bE:=λ(W1:World) (bx bt bk:Nat) (taken:List Bool) (hF:Ft W W1 bx bt bk sp m taken)=>DZ W W1 bx bt bk sp n c m bu bv bp bw A T u v p way taken hF hS hT aa hu hv
 rw[h0,cq] at hR bE
 obtain⟨FT,ev⟩:∃ FT,cD T m uf vf (List.range n) (List.replicate m false) []=FT:=⟨_,rfl⟩
 rw[ev] at hR
 have hn:=hT.1
 have e6:1<=n:=by rw[hn];exact aa.n1
 have d6:=aa.m64
 have e7:n<=m:=by rw[hn];exact aa.nm
 have hD:=λ(fr:Nat) (taken:List Bool)=>yI (T:=T) (n:=n) (m:=m) (fr:=fr) (u:=uf) (v:=vf) (taken:=taken) hn
 have j0:=zh hD
 have ds:=zh bE
 have et:=zh (show ∀ j,vf j=v.getD (j+1) 0 from λj=>by rw[← cq])
 have iv:=zh ev
 have HS:=zh hS
 have ma:=hS.lt
 obtain⟨q0,q1,q2,q3,q4⟩:=hS.cells
 have n1:sp≠W.heap.size:=by omega
 have z1:IntKind.i64.wrap ((n:Int)+1-1)=(n:Int):=by rw[show (n:Int)+1-1=n by omega];exact IntWalk.i64_in _ (by omega)
 have z2:IntKind.i64.wrap ((m:Int)+1-1)=(m:Int):=by rw[show (m:Int)+1-1=m by omega];exact IntWalk.i64_in _ (by omega)
 clear h0 cq bE ev hD hS hT aa hu hv hn
 go_enter Tryz.func48,Tryz.ntmps48
 go_wp2_with fail
 go_quiet (fail)
 rename_i nq
 clear z1 z2 q0 q1 q2 q3 q4 n1
 have bj:=dT (ab W (.cells #[.pointer (some ⟨sp,0,none⟩)] 137)) nq
 have hx:((W.alloc (.cells #[.pointer (some ⟨sp,0,none⟩)] 137)).drewN nq).heap[W.heap.size]?=some (.cells #[.pointer (some ⟨sp,0,none⟩)] 137 (0,0)):=heap_alloc_new W _
 generalize ((W.alloc (.cells #[.pointer (some ⟨sp,0,none⟩)] 137)).drewN nq)=wd at *
 have dk:=zh bj
 have Hx:=zh hx
 have cV:=bj.size
 clear bj hx
 go_wp2_with (at_make;refine lD rfl (.tmp 22) (.tmp 22) _ rfl 4 Tryz.underlying224 nO rfl (by omega) _ m rfl rfl rfl (by omega) ?_;intro w2 e9 bD)
 have d5:Ft W (w2.alloc (.cells #[.slice (some ⟨wd.heap.size,0,none⟩) m m] 224)) W.heap.size w2.heap.size wd.heap.size sp m (List.replicate m false):=
  ⟨((ab w2 _).block _ (Nat.lt_of_lt_of_le (Array.getElem?_eq_some_iff.1 Hx.out).1 bD.size)).trans ((bD.block _ (Array.getElem?_eq_some_iff.1 Hx.out).1 (by simp)).trans Hx.out),heap_alloc_new w2 _,((ab w2 _).block _ (Array.getElem?_eq_some_iff.1 e9).1).trans (by rw[e9];simp),by simp,cV,(dk.out.grown bD cV (λk hk=>by cases hk)).alloc (Nat.le_trans cV bD.size) _⟩
 obtain⟨bt,hbt⟩:∃ b,w2.heap.size=b:=⟨_,rfl⟩
 obtain⟨bx,hbx⟩:∃ b,W.heap.size=b:=⟨_,rfl⟩
 obtain⟨bk,hbk⟩:∃ b,wd.heap.size=b:=⟨_,rfl⟩
 rw[hbt,hbk] at d5 ⊢
 rw[hbx] at d5 ⊢
 have j5:=zh d5
 clear e9 bD hbt hbk hbx d5
 go_loopg [6,8,9,26,30] n (λgk s6 s8 s9 s26 s30 wr=>∃ (row c6:Nat) (A6:Option Addr) (l:List Nat) (taken:List Bool),row+gk=n/\s26=.int .i64 ((row:Nat):Int)/\s6=.slice A6 l.length c6/\l.length<=row/\wr.ownsRow W.heap.size 3 1 (.slice A6 l.length c6) l.length ((aX l).flatMap ak)/\Ft W wr bx bt bk sp m taken/\
  Hid (cD T m uf vf ((List.range n).drop row) taken l=FT))
 case atStart=>exact⟨0,0,none,[],_,by omega,rfl,rfl,Nat.le_refl _,World.ownsRow_nil _ _ _ _,j5.out,iv⟩
 obtain⟨row,c6,A6,l,taken,hL,rfl,rfl,hll,ho,hF,He⟩:=hrel
 obtain⟨wi,rfl⟩:∃ wi:World,wi=wr:=⟨_,rfl⟩
 by_cases bS:row<n
 ·have i1:(row:Int)<(n:Int):=by omega
  obtain⟨ga,rfl⟩:∃ ga,gk=ga+1:=⟨gk-1,by omega⟩
  obtain⟨Ll,eI⟩:∃ Ll,l.length=Ll:=⟨_,rfl⟩
  rw[eI] at hll ho ⊢
  have dd:=zh eI
  have gg:=zh (eY bS)
  have Ho:=zh ho
  have HF:=zh hF
  clear eI ho hF
  go_wp2_with fail
  go_loopg [6,9,30] m (λg2 s6 s9 s30 wr=>∃ col:Nat,col+g2=m/\s30=.int .i64 ((col:Nat):Int)/\s6=.slice A6 Ll c6/\wr.ownsRow W.heap.size 3 1 (.slice A6 Ll c6) Ll ((aX l).flatMap ak)/\Ft W wr bx bt bk sp m taken/\Hid (∀ j,j<col->(cu T uf vf taken row j&&cW T m uf vf (row+1) (taken.set j true))=false))
  case atStart=>exact⟨0,by omega,rfl,rfl,Ho.out,HF.out,zh (λj hj=>by omega)⟩
  obtain⟨col,m2,rfl,rfl,ho,hF,Hc⟩:=hrel
  obtain⟨wj,rfl⟩:∃ wj:World,wj=wr:=⟨_,rfl⟩
  by_cases cO:col<m
  ·have i2:(col:Int)<(m:Int):=by omega
   have Hm:=zh (ds.out wj bx bt bk taken hF wj row col (Below.refl _ _) bS cO)
   have dt:=zh ho
   have c8:=zh hF
   have hZ:taken.length=m:=hF.tl
   have k4:=zh hZ
   clear ho hF hZ
   go_wp2_with fail
   refine Hm.out.mono ?_
   cases a9:cu T uf vf taken row col with
   |false =>
    have HC:=zh (show ∀ j,j<col+1->(cu T uf vf taken row j&&cW T m uf vf (row+1) (taken.set j true))=false from λj hj=>by
     by_cases e:j=col
     ·subst e;rw[a9];rfl
     exact Hc.out j (by omega))
    clear a9
    rintro e w5 ⟨rfl,hq⟩
    have cp:=ai dt.out hq.below
    have bf:=c8.out.below hq.below
    have kP:=zh cp
    have ij:=zh bf
    clear cp bf hq
    go_wp2_with fail
    go_roundg (gk-1)
    case measure=>omega
    case rel=>exact⟨col+1,by omega,by go_num,rfl,kP.out,ij.out,HC⟩
   |true =>
    have am:taken.getD col false=false:=by
     unfold cu at a9
     cases hx:taken.getD col false with
     |false=>rfl
     |true=>rw[hx] at a9;simp at a9
    have k2:=zh a9
    have k3:=zh am
    clear a9 am
    rintro e w5 ⟨rfl,hq⟩
    have cp:=ai dt.out hq.below
    have bf:=c8.out.below hq.below
    have dx:=bf.set col true
    have hV:=cp.kept (ic w5 bk col (.bool true)) (.inr (jn cp (show w5.heap[bk]?=_ from bf.hbk) (by decide)))
    have qt:w5.cell? ⟨bt,0,none⟩=some (.slice (some ⟨bk,0,none⟩) m m):=by rw[cell_of_row _ _ 0 _ _ (0,0) bf.hbt];rfl
    have qx:w5.cell? ⟨bx,0,none⟩=some (.pointer (some ⟨sp,0,none⟩)):=by rw[cell_of_row _ _ 0 _ _ (0,0) bf.hbx];rfl
    obtain⟨nb1,nb2⟩:=bf.ne
    obtain⟨d1,d2⟩:=bf.hbk.at_ (k:=col) (by rw[bf.tl];exact cO)
    have kS:=zh hV
    have ei:=zh dx
    have i7:=zh (HS.out.below dx.bel)
    have ku:=zh (ds.out _ bx bt bk _ dx)
    have z3:IntKind.i64.wrap ((row:Int)+1)=(row:Int)+1:=IntWalk.i64_in _ (by omega)
    clear cp bf dx hV hq
    go_wp2_with fail
    refine (vS _ sp n c m bu bv bp bw bk (row+1) A u v p way (taken.set col true) 137 _ (cu T uf vf (taken.set col true)) vf i7.out ei.out.hbk ei.out.tl Eg ku.out e6 (by omega) (by omega) d6 (by omega) et.out).mono ?_
    rw[← j0.out]
    rintro e w7 ⟨rfl,ad⟩
    have b9:=ei.out.below ad
    have ec:=ai kS.out ad
    have f7:=zh b9
    have gs:=zh ec
    have qt:w7.cell? ⟨bt,0,none⟩=some (.slice (some ⟨bk,0,none⟩) m m):=by rw[cell_of_row _ _ 0 _ _ (0,0) b9.hbt];rfl
    obtain⟨d3,d4⟩:=b9.hbk.at_ (k:=col) (by rw[b9.tl];exact cO)
    have eu:=b9.set col false
    rw[Ge k3.out (by rw[k4.out];exact cO)] at eu
    have im:=zh eu
    have k0:=zh (ec.kept (ic w7 bk col (.bool false)) (.inr (jn ec (show w7.heap[bk]?=_ from b9.hbk) (by decide))))
    clear b9 ec eu ad qx d1 d2
    cases hcp:cW T m uf vf (row+1) (taken.set col true) with
    |true =>
     have HN:=zh (Bz cO Hc.out (by rw[k2.out,hcp];rfl))
     have HE:=zh (show cD T m uf vf ((List.range n).drop (row+1)) (taken.set col true) (l++[col])=FT by rw[← yP HN.out,← gg.out];exact He.out)
     have m4:W.heap.size<=w7.heap.size:=f7.out.bel.size
     have g5:(l++[col]).length=Ll+1:=by rw[List.length_append,dd.out];rfl
     have ej:=zh g5
     clear hcp g5 d3 d4 qt
     go_wp2_with (at_builtin;refine ax rfl (.tmp 47) (.tmp 49) _ rfl lG W.heap.size _ _ _ rfl (gs.out.kept (World.grownBy_alloc w7 _ none) (by cases (Value.slice A6 Ll c6).ownBlock<;>simp)) _ _ _ _ rfl (Sl.new _ _ _ 1 1 rfl) (by simp[Value.oneCell']) (by unfold maxLen;omega) (by omega) (by simp;omega) ?_;intro A9 c9 w9 hY hJ _;have gI:=(f7.out.below (ab w7 (.cells #[.int .i64 (col:Int)] 3))).grown (gs.out.kept (World.grownBy_alloc w7 _ none) (by cases (Value.slice A6 Ll c6).ownBlock<;>simp)) (Nat.le_refl _) hJ;have i6:=zh (show w9.ownsRow W.heap.size 3 1 (.slice A9 (Ll+1) c9) (Ll+1) ((aX (l++[col])).flatMap ak) from by rw[rV,List.flatMap_append];exact hY);have iq:=zh gI;clear hY hJ gI)
     go_roundg ga
     case measure=>omega
     case rel=>exact⟨row+1,c9,A9,l++[col],taken.set col true,by omega,by go_num,by rw[ej.out],by rw[ej.out];omega,by rw[ej.out];exact i6.out,iq.out,HE⟩
    |false =>
     have HC:=zh (show ∀ j,j<col+1->(cu T uf vf taken row j&&cW T m uf vf (row+1) (taken.set j true))=false from λj hj=>by
      by_cases e:j=col
      ·subst e;rw[hcp];simp
      exact Hc.out j (by omega))
     clear hcp
     go_wp2_with fail
     go_roundg (gk-1)
     case measure=>omega
     case rel=>exact⟨col+1,by omega,by go_num,rfl,k0.out,im.out,HC⟩
  obtain rfl:col=m:=by omega
  have HE:=zh (show cD T col uf vf ((List.range n).drop (row+1)) taken l=FT by rw[← yO (By Hc.out),← gg.out];exact He.out)
  have dt:=zh ho
  have c8:=zh hF
  clear ho hF
  go_wp2_with fail
  go_roundg ga
  case measure=>omega
  case rel=>exact⟨row+1,c6,A6,l,taken,by omega,by go_num,by rw[dd.out],by rw[dd.out];omega,by rw[dd.out];exact dt.out,c8.out,HE⟩
 obtain rfl:n=row:=by omega
 have bg:=He.out
 rw[List.drop_of_length_le (by simp),cD] at bg
 subst bg
 have Hf:=zh (hR.out (.returned (.slice A6 l.length c6)) wi ⟨A6,c6,rfl,ho,hF.bel⟩)
 clear ho hF
 go_wp2
 exact Hf.out
end
end Go.Proofs.YtgbnicokglpdbaaGreatDoor
