/-
plan; conditions: those of each theorem.
-/
import Derived.Test.YtgbnicokglpdbaaGreatDoorBd
import Derived.Test.YtgbnicokglpdbaaGreatDoorAx
import Derived.Deep.RegionLaw
namespace Go.Proofs.YtgbnicokglpdbaaGreatDoor
set_option maxHeartbeats 8000000
set_option maxRecDepth 8000
section
section
open Go.RowKit
theorem si(d:Nat->Int):∀ (A B:List Tk) (i:Nat) (x:(Nat->Int)×Int),dc d (A++B) i x=dc d B (i+A.length) (dc d A i x)
 |[],_,_,_=>rfl
 |t :: A,B,i,x=>by
  show dc d (A++B) (i+1) _=_
  rw[si d A B,show i+1+A.length=i+(t :: A).length by rw[List.length_cons];omega]
  rfl
theorem xp{T:List Tk}{k:Nat}{t:Tk}(d:Nat->Int)(x:(Nat->Int)×Int)(h:T[k]?=some t):dc d (T.take (k+1)) 0 x=(aR (dc d (T.take k) 0 x).1 k (dS (λa=>(dc d (T.take k) 0 x).1 a+d a) t.A 0),max (dc d (T.take k) 0 x).2 (dS (λa=>(dc d (T.take k) 0 x).1 a+d a) t.A 0+d k)):=by
 have hk:=(List.getElem?_eq_some_iff.1 h).1
 rw[List.take_add_one,h,Option.toList_some,si,List.length_take,Nat.min_eq_left (by omega),Nat.zero_add]
 rfl
theorem Gw{T:List Tk}{d:Nat->Int}(hd:∀ i,0<=d i/\d i<=1000):∀ k,k<=T.length->(∀ j,0<=(dc d (T.take k) 0 (λ_=>0,0)).1 j/\(dc d (T.take k) 0 (λ_=>0,0)).1 j<=1000*(k:Int))/\0<=(dc d (T.take k) 0 (λ_=>0,0)).2/\(dc d (T.take k) 0 (λ_=>0,0)).2<=1000*((k:Int)+1)
 |0,_=>⟨λj=>⟨Int.le_refl _,Int.le_refl _⟩,Int.le_refl _,by rw[List.take_zero];show (0:Int)<=1000*(((0:Nat):Int)+1);decide⟩
 |k+1,hk=>by
  obtain⟨h1,h2,h3⟩:=Gw (T:=T) hd k (by omega)
  rw[xp d _ (List.getElem?_eq_getElem (show k<T.length by omega))]
  obtain⟨y,hy⟩:∃ y,dc d (T.take k) 0 (λ_=>0,0)=y:=⟨_,rfl⟩
  rw[hy] at h1 h2 h3 ⊢
  have g1:=(so (λa=>y.1 a+d a) T[k].A 0).1
  have g2:=sr (λa=>y.1 a+d a) (c:=1000*((k:Int)+1)) T[k].A 0 (by omega) λa _=>by
   have:=(h1 a).2
   have:=(hd a).2
   show y.1 a+d a<=_
   omega
  have g3:=(hd k).2
  have g4:=(hd k).1
  refine⟨λj=>?_,?_,?_⟩
  ·dsimp only
   by_cases e:j=k
   ·subst e;rw[bH];omega
   rw[bA _ _ e];have:=h1 j;omega
  ·dsimp only;omega
  dsimp only;omega
theorem y9(w:World)(sb bx bd:Nat)(n m c cd:Nat)(st:Nat->Int)(Ad:Option Addr)(D:List Int)(h1:w.heap[bx]?=some (.cells #[.slice (some ⟨sb,0,none⟩) n c] 27 (0,0)))(h2:w.heap[bd]?=some (.cells #[.slice Ad m cd] 27 (0,0)))(hs:az w sb n st)(hd:ag ak 1 w Ad m D)(a:Nat)(hn:a<n)(hm:a<m)(hb:∀ j,0<=st j/\st j<=100000)(bi:∀ x∈D,0<=x/\x<=1000) :
 Calls Tryz.prog 151 #[.int .i64 (a:Nat),.pointer (some ⟨bx,0,none⟩),.pointer (some ⟨bd,0,none⟩)] w λe w'=>e=.returned (.int .i64 (st a+D.getD a 0))/\Below w.heap.size w w':=by
 refine ae ?_
 intro R hR
 obtain⟨b,o,x,rfl,ad,hx,q0⟩:=hd.at1 hm
 have hV:D.getD a 0=x:=cX hx
 have mf:=bi x (List.mem_of_getElem? hx)
 have hN:=hb a
 rw[hV] at hR
 have k0:w.cell? ⟨bx,0,none⟩=some (.slice (some ⟨sb,0,none⟩) n c):=by rw[cell_of_row _ _ 0 _ _ (0,0) h1];rfl
 have k1:w.cell? ⟨bd,0,none⟩=some (.slice (some ⟨b,o,none⟩) m cd):=by rw[cell_of_row _ _ 0 _ _ (0,0) h2];rfl
 obtain⟨p0,-⟩:=hs.at_ hn
 have i1:(a:Int)<(n:Int):=by omega
 have i2:(a:Int)<(m:Int):=by omega
 have i0:(0:Int)<=(a:Int):=by omega
 have HF:=zh (hR.out (.returned (.int .i64 (st a+x))) w.drew ⟨rfl,(Below.refl _ _).drew⟩)
 clear hR h1 h2 hs hd hx hV
 go_enter Tryz.func151,Tryz.ntmps151
 go_upto_region 1 with fail
 go_region
 all_goals
  go_wp2_with fail
  exact HF.out
theorem BI(w:World)(A:Option Addr)(n c:Nat)(hn:n<=100000)(L:List Nat)(hA:ag ak 1 w A n (L.map Int.ofNat))(bx bd:Nat)(g:Nat->Int)(x:Int)(hg:∀ a,0<=g a/\g a<=1000000)(hx:0<=x/\x<=1000000)
 (HC:Hid (∀ W,Below w.heap.size w W->∀ a,a∈L->Calls Tryz.prog 151 #[.int .i64 (a:Nat),.pointer (some ⟨bx,0,none⟩),.pointer (some ⟨bd,0,none⟩)] W λe w'=>e=.returned (.int .i64 (g a))/\Below W.heap.size W w')) :
 Calls Tryz.prog 150 #[.int .i64 x,.slice A n c,.func (.func 151) #[] #[.pointer (some ⟨bx,0,none⟩),.pointer (some ⟨bd,0,none⟩)]] w λe w'=>e=.returned (.int .i64 (dS g L x))/\Below w.heap.size w w':=by
 refine ae ?_
 intro R hR
 have HR:=zh hR.out
 have HA:=zh hA
 have hl:n=L.length:=by have:=hA.1;rwa [List.length_map] at this
 have Hl:=zh hl
 have Hg:=zh hg
 clear hR hA hg hl
 go_enter Tryz.func150,Tryz.ntmps150
 go_wp2_with fail
 go_loopw [0,8,11] (λs0 _ s11 wr=>∃ (k:Nat) (y:Int),s11=.int .i64 (k:Nat)/\s0=.int .i64 y/\k<=n/\0<=y/\y<=1000000/\Hid (dS g (L.drop k) y=dS g L x)/\Hid (Below w.heap.size w wr)) (λ_ _ s11 _=>n-(intOf s11).toNat)
 case atStart=>exact⟨0,x,rfl,rfl,Nat.zero_le _,hx.1,hx.2,zh rfl,zh (Below.refl _ _)⟩
 rename World=>wb
 obtain⟨k,y,rfl,rfl,hk,mj,ml,HG,HB⟩:=hrel
 by_cases aa:k<n
 ·obtain⟨b,o,z,rfl,hb,hz,p0⟩:=(HA.out.below HB.out).at1 aa
  rw[List.getElem?_map] at hz
  obtain⟨a,ha,rfl⟩:=Option.map_eq_some_iff.1 hz
  change _=some (Value.int .i64 (a:Int)) at p0
  have gT:L.drop k=a :: L.drop (k+1):=by
   rw[List.drop_eq_getElem_cons (List.getElem?_eq_some_iff.1 ha).1,(List.getElem?_eq_some_iff.1 ha).2]
  have bw:=HG.out
  rw[gT] at bw
  have fo:=zh (show dS g (L.drop (k+1)) (max y (g a))=dS g L x from bw)
  have e6:=zh (HC.out wb HB.out a (List.mem_of_getElem? ha))
  obtain⟨u,hu⟩:∃ u,g a=u:=⟨_,rfl⟩
  have kS:=Hg.out a
  rw[hu] at fo e6 kS
  have i1:(k:Int)<(n:Int):=by omega
  have i0:(0:Int)<=(k:Int):=by omega
  clear hz ha gT bw hu
  go_wp2_with (go_at_call 151;refine e6.out.mono ?_;rintro e w2 ⟨rfl,bc⟩;have b8:=zh (HB.out.trans (bc.mono HB.out.size));clear bc)
  have kl:(if y<u then u else y)=max y u:=by split<;>omega
  have h1:0<=max y u:=by omega
  have h2:max y u<=1000000:=by omega
  exact⟨⟨k+1,max y u,by go_num,by rw[kl],aa,h1,h2,fo,b8⟩,by simp[intOf];omega⟩
 obtain rfl:k=n:=by omega
 have i1:¬ (k:Int)<(k:Int):=by omega
 have bw:=HG.out
 rw[List.drop_eq_nil_of_le (by have:=Hl.out;omega)] at bw
 have HF:=zh (HR.out (.returned (.int .i64 y)) wb ⟨by rw[← bw];rfl,HB.out⟩)
 clear bw
 go_wp2_with fail
 exact HF.out
theorem xj(D:List Int)(h:∀ x∈D,0<=x/\x<=1000)(i:Nat):0<=D.getD i 0/\D.getD i 0<=1000:=by
 rw[List.getD_eq_getElem?_getD]
 cases hi:D[i]? with
 |none=>simp
 |some x=>exact h x (List.mem_of_getElem? hi)
theorem Ah:∀ (l:List Int),(∀ a∈l,0<=a)->(l.map Int.toNat).map Int.ofNat=l
 |[],_=>rfl
 |a :: l,h=>by
  have:=h a List.mem_cons_self
  rw[List.map_cons,List.map_cons,Ah l λb hb=>h b (List.mem_cons_of_mem _ hb)]
  congr 1
  exact Int.toNat_of_nonneg this
theorem ol(w:World)(A:Option Addr)(n c:Nat)(L:List (RT×Option Addr×Nat))(hT:fQ w A n L)(bj:dU (L.map (·.1))=true)(Ad:Option Addr)(cd:Nat)(D:List Int)(hd:ag ak 1 w Ad n D)(bi:∀ x∈D,0<=x/\x<=1000) :
 Calls Tryz.prog 60 #[.slice A n c,.slice Ad n cd] w λe w'=>∃ sb,e=.returned (.tuple #[.slice (some ⟨sb,0,none⟩) n n,.int .i64 (dc (λi=>D.getD i 0) ((L.map (·.1)).map RT.tk) 0 (λ_=>0,0)).2])/\az w' sb n (dc (λi=>D.getD i 0) ((L.map (·.1)).map RT.tk) 0 (λ_=>0,0)).1/\w.heap.size<=sb/\Below w.heap.size w w':=by
 refine ae ?_
 intro R hR
 obtain⟨T,bm⟩:∃ T,(L.map (·.1)).map RT.tk=T:=⟨_,rfl⟩
 obtain⟨ok1,ok2⟩:=kn bj
 rw[bm] at hR ok1
 have HR:=zh hR.out
 have HT:=zh hT
 have hn:n=T.length:=by rw[← bm,List.length_map,List.length_map];exact hT.len
 have Hn:=zh hn
 have cA:=zh (show ∀ (k:Nat) (x:RT×Option Addr×Nat),L[k]?=some x->T[k]?=some x.1.tk from λk x hx=>by rw[← bm,List.getElem?_map,List.getElem?_map,hx];rfl)
 have H2:=zh (λ(k:Nat) (x:RT×Option Addr×Nat) (hx:L[k]?=some x)=>ok2 k x.1 (by rw[List.getElem?_map,hx];rfl))
 have cr:=zh (λ(k:Nat) (x:RT×Option Addr×Nat) (hx:L[k]?=some x)=>p9 bj k x.1 (by rw[List.getElem?_map,hx];rfl))
 have ks:n<=32:=hn ▸ ok1.l2
 have Hd:=zh hd
 have jk:=zh bi
 have cC:=zh (xj D bi)
 have jf:=zh (Gw (T:=T) (xj D bi))
 have es:=kI n (by omega)
 obtain⟨wa,c6⟩:∃ wa,w.alloc (.cells #[.slice Ad n cd] 27)=wa:=⟨_,rfl⟩
 have gI:Below w.heap.size w wa:=c6 ▸ ab w _
 have hU:wa.heap[w.heap.size]?=some (.cells #[.slice Ad n cd] 27 (0,0)):=c6 ▸ heap_alloc_new w _
 have i9:=zh c6
 have e4:=zh gI
 have f8:=zh hU
 clear hR hT bj hn ok1 ok2 bm hd bi c6 gI hU
 go_enter Tryz.func60,Tryz.ntmps60
 go_upto_region 1 with fail
 rw[i9.out]
 go_cut [6] from 10 to 12 (λs6 wx=>∃ sb bx,s6=.pointer (some ⟨bx,0,none⟩)/\wa.heap.size<=sb/\wa.heap.size<=bx/\Hid (wx.heap[bx]?=some (.cells #[.slice (some ⟨sb,0,none⟩) n n] 27 (0,0)))/\Hid (az wx sb n λ_=>0)/\Hid (Below wa.heap.size wa wx))
 case first =>
  go_wp2_with fail
  go_meet
  obtain⟨wy,c8⟩:∃ wy,wa.alloc (.cells (madeCells #[Value.int .i64 0] n) 3)=wy:=⟨_,rfl⟩
  have h1:wy.heap[wa.heap.size]?=_:=c8 ▸ heap_alloc_new wa _
  have b1:Below wa.heap.size wa wy:=c8 ▸ ab wa _
  have s1:wy.heap.size=wa.heap.size+1:=by rw[← c8];simp
  rw[c8,← s1]
  have b2:=ab wy (.cells #[.slice (some ⟨wa.heap.size,0,none⟩) n n] 27)
  exact⟨_,_,rfl,Nat.le_refl _,by omega,zh (heap_alloc_new wy _),zh ((cM h1).on (b2.block _ (by omega))),zh (b1.trans (b2.mono (by omega)))⟩
 rename World=>w1
 obtain⟨sb,bx,rfl,hN,hbx,HX,HS,aF⟩:=hcut
 have k7:=(Array.getElem?_eq_some_iff.1 HX.out).1
 have bf:sb≠bx:=by
  rintro rfl
  obtain⟨cur,e1,-⟩:=HS.out
  rw[HX.out] at e1
  simp at e1
 have jT:=(Array.getElem?_eq_some_iff.1 f8.out).1
 have kN:=e4.out.size
 clear es
 go_wp2_with fail
 go_loopw [7,8,9,15] (λs7 _ _ s15 wr=>∃ (k:Nat) (st:Nat->Int) (fin:Int),s15=.int .i64 (k:Nat)/\s7=.int .i64 fin/\k<=n/\0<=fin/\fin<=100000/\Hid (∀ j,0<=st j/\st j<=100000)/\Hid (dc (λi=>D.getD i 0) (T.take k) 0 (λ_=>0,0)=(st,fin))/\Hid (az wr sb n st)/\Hid (wr.heap[bx]?=some (.cells #[.slice (some ⟨sb,0,none⟩) n n] 27 (0,0)))/\Hid (Below wa.heap.size wa wr)) (λ_ _ _ s15 _=>n-(intOf s15).toNat)
 case atStart=>exact⟨0,_,0,rfl,rfl,Nat.zero_le _,by decide,by decide,zh λj=>⟨Int.le_refl _,by decide⟩,zh rfl,HS,HX,aF⟩
 rename World=>wb
 obtain⟨k,st,fin,rfl,rfl,hk,k8,la,HSt,HE,ec,ei,am⟩:=hrel
 have hB:Below w.heap.size w wb:=e4.out.trans (am.out.mono kN)
 by_cases aa:k<n
 ·obtain⟨b,o,x,rfl,hb,hx,⟨c0,c1,c2,c3⟩,wd,bq,a9,bk⟩:=(HT.out.below hB).nx aa
  have hQ:=cA.out k x hx
  have c4:=xp (λi=>D.getD i 0) (λ_=>0,0) hQ
  rw[HE.out] at c4
  dsimp only at c4
  obtain⟨ad,bc,gw⟩:=jf.out (k+1) (by have:=Hn.out;omega)
  have eg:=zh c4
  obtain⟨v,hv⟩:∃ v,dS (λa=>st a+D.getD a 0) x.1.tk.A 0=v:=⟨_,rfl⟩
  obtain⟨dk,cS⟩:∃ dk,D.getD k 0=dk:=⟨_,rfl⟩
  have ka:=cC.out k
  have mc:0<=v/\v<=101000:=by
   rw[← hv]
   exact⟨(so _ _ _).1,sr _ _ _ (by decide) λa _=>by have:=(HSt.out a).2;have:=(cC.out a).2;show st a+D.getD a 0<=_;omega⟩
  rw[hv,cS] at eg
  rw[cS] at ka
  have gN:(∀ j,0<=aR st k v j/\aR st k v j<=100000)/\0<=max fin (v+dk)/\max fin (v+dk)<=100000:=by
   have h9:=eg.out
   rw[h9] at ad bc gw
   exact⟨λj=>⟨(ad j).1,by have h8:=(ad j).2;dsimp only at h8;omega⟩,bc,by omega⟩
  have h6:=zh gN
  clear ad bc gw c4 gN
  have ca:=zh bq
  have i1:(k:Int)<(n:Int):=by omega
  have i0:(0:Int)<=(k:Int):=by omega
  have cI:Below w.heap.size w wd:=hB.trans (a9.mono hB.size)
  have ds:=zh (am.out.trans (a9.mono am.out.size))
  have ct:=zh (ec.out.on (a9.block _ ec.out.lt))
  have bD:=zh ((a9.block bx (Array.getElem?_eq_some_iff.1 ei.out).1).trans ei.out)
  have cp:=zh ((ds.out.block _ jT).trans f8.out)
  have ij:=zh (Hd.out.below cI)
  have hX:=zh ((HT.out.af x (List.mem_of_getElem? hx)).below cI)
  have et:=(H2.out k x hx).2
  have kk:x.1.A.length<=100000:=by have:=cr.out k x hx;omega
  have HV:=zh hv
  have k6:=hB.size
  have e3:=zh cI
  have ih:=zh cS
  clear hB cI
  obtain⟨ι,mk,bp⟩:=iP wd.heap.size wd
  have e7:=zh (λ(y:ι)=>show Calls Tryz.prog 150 #[.int .i64 0,.slice x.2.1 x.1.A.length x.2.2,.func (.func 151) #[] #[.pointer (some ⟨bx,0,none⟩),.pointer (some ⟨w.heap.size,0,none⟩)]] (mk y) λe w''=>e=.returned (.int .i64 v)/\∃ m,w''=mk m from by
   have bu:=bp.below y
   have j2:=kk
   refine bp.call ((BI (mk y) x.2.1 x.1.A.length x.2.2 j2 x.1.tk.A (by
    rw[show x.1.tk.A=x.1.A.map Int.toNat from rfl,Ah _ λa ha=>(et a ha).1]
    exact hX.out.below bu) bx w.heap.size (λa=>st a+D.getD a 0) 0 (λa=>⟨by have:=(HSt.out a).1;have:=(cC.out a).1;show 0<=st a+D.getD a 0;omega,by have:=(HSt.out a).2;have:=(cC.out a).2;show st a+D.getD a 0<=_;omega⟩) (by decide) (zh λW hW a ha=>?_)).mono λe w'' h=>⟨by rw[← HV.out];exact h.1,h.2⟩)
   have cN:Below wd.heap.size wd W:=bu.trans (hW.mono bu.size)
   obtain⟨z,hz,rfl⟩:=List.mem_map.1 ha
   have mn:=et z hz
   exact y9 W sb bx w.heap.size n n n cd st Ad D ((cN.block _ (Array.getElem?_eq_some_iff.1 bD.out).1).trans bD.out) ((cN.block _ (Array.getElem?_eq_some_iff.1 cp.out).1).trans cp.out) (ct.out.on (cN.block _ ct.out.lt)) (ij.out.below cN) z.toNat (by omega) (by omega) HSt.out jk.out)
  have j5:=(bp.iff _).1 ((Below.refl wd.heap.size wd).drew)
  have t0:∀ y,(mk y).cell? ⟨bx,0,none⟩=some (.slice (some ⟨sb,0,none⟩) n n):=λy=>by rw[cell_of_row _ _ 0 _ _ (0,0) (((bp.below y).block _ (Array.getElem?_eq_some_iff.1 bD.out).1).trans bD.out)];rfl
  have t1:∀ y,(mk y).cell? ⟨wb.heap.size,3,none⟩=some (.slice x.2.1 x.1.A.length x.2.2):=λy=>by rw[cell_of_row _ _ 3 _ _ (0,0) (((bp.below y).block _ (Array.getElem?_eq_some_iff.1 bk).1).trans bk)];rfl
  haveI:=bp.ne
  have jj:=zh bp
  have k5:=zh bk
  clear hx hQ bq a9 bk hv cS bp et
  go_upto_region 6 with fail
  rw[ca.out]
  clear c0 c1 c2 c3
  refine jC (C:=λw'=>∃ y,w'=mk y) 7 (by kernel_rfl) (by kernel_rfl) j5 ?_
  simp only[List.take_succ_cons,List.take_zero,List.drop_succ_cons,List.drop_zero]
  repeat (go_big_quiet_step (with_reducible exact e7.out _))
  refine wpQuiet_nil ?_
  intro _ k2
  obtain⟨y,rfl⟩:=k2
  have bu:=jj.out.below y
  have f6:=zh (ct.out.on (bu.block _ ct.out.lt))
  obtain⟨p1,p2⟩:=f6.out.at_ aa
  obtain⟨w5,cn⟩:∃ w5,(mk y).setCell ⟨sb,k,none⟩ (.int .i64 v)=w5:=⟨_,rfl⟩
  have eu:az w5 sb n (aR st k v):=cn ▸ f6.out.set v aa
  have bt:∀ j,j<wd.heap.size->j≠sb->w5.heap[j]?=wd.heap[j]?:=λj hj hn=>cn ▸ (al hn).trans (bu.block j hj)
  have gk:Below wa.heap.size wa w5:=cn ▸ (ds.out.trans (bu.mono ds.out.size)).setCell hN _
  have i8:=zh cn
  clear t0 t1 e7 cn
  go_upto_region 7 with fail
  rw[i8.out]
  obtain⟨q1,-⟩:=eu.at_ aa
  rw[bH] at q1
  obtain⟨db,do_,dx,rfl,gO,g0,dq⟩:=Hd.out.at1 aa
  obtain rfl:dx=dk:=(cX g0).symm.trans ih.out
  have en:=(bt bx (Array.getElem?_eq_some_iff.1 bD.out).1 (Ne.symm bf)).trans bD.out
  have gg:=(bt w.heap.size (Array.getElem?_eq_some_iff.1 cp.out).1 (by omega)).trans cp.out
  have t0:w5.cell? ⟨bx,0,none⟩=some (.slice (some ⟨sb,0,none⟩) n n):=by rw[cell_of_row _ _ 0 _ _ (0,0) en];rfl
  have t1:w5.cell? ⟨w.heap.size,0,none⟩=some (.slice (some ⟨db,do_,none⟩) n cd):=by rw[cell_of_row _ _ 0 _ _ (0,0) gg];rfl
  have t2:w5.cell? ⟨db,do_+k,none⟩=some (.int .i64 dx):=(World.cell?_of_block (w:=w) (a:=⟨db,do_+k,none⟩) ((bt db (Nat.lt_of_lt_of_le gO e3.out.size) (by omega)).trans (e3.out.block db gO))).trans dq
  have f7:=zh en
  have f5:=zh eu
  have cq:=zh gk.drew
  clear en gg eu bt gk g0 dq
  have cT:Hid (dc (λi=>D.getD i 0) (T.take (k+1)) 0 (λ_=>0,0)=(aR st k v,max fin (v+dx))):=eg
  have bg:=h6.out
  by_cases hc:fin<v+dx
  ·have e9:max fin (v+dx)=v+dx:=by omega
   rw[e9] at cT bg
   obtain⟨u1,u2,u3⟩:=bg
   have U1:=zh u1
   have g1:decide (fin<v+dx)=true:=decide_eq_true hc
   clear e9 u1
   go_region
   all_goals
    go_wp2_with fail
    exact⟨⟨k+1,aR st k v,v+dx,by go_num,rfl,aa,u2,u3,U1,cT,f5,f7,cq⟩,by simp[intOf];omega⟩
  have e9:max fin (v+dx)=fin:=by omega
  rw[e9] at cT bg
  obtain⟨u1,u2,u3⟩:=bg
  have U1:=zh u1
  have g1:decide (fin<v+dx)=false:=decide_eq_false hc
  clear e9 u1
  go_region
  all_goals
   go_wp2_with fail
   exact⟨⟨k+1,aR st k v,fin,by go_num,rfl,aa,u2,u3,U1,cT,f5,f7,cq⟩,by simp[intOf];omega⟩
 obtain rfl:k=n:=by omega
 have i1:¬ (k:Int)<(k:Int):=by omega
 have he:=HE.out
 rw[List.take_of_length_le (by have:=Hn.out;omega)] at he
 have k0:wb.cell? ⟨bx,0,none⟩=some (.slice (some ⟨sb,0,none⟩) k k):=by rw[cell_of_row _ _ 0 _ _ (0,0) ei.out];rfl
 have HF:=zh (HR.out (.returned (.tuple #[.slice (some ⟨sb,0,none⟩) k k,.int .i64 fin])) wb ⟨sb,by rw[he],by rw[he];exact ec.out,by omega,hB⟩)
 clear he hB
 go_wp2_with fail
 exact HF.out
end
end
section
section
open Go.RowKit
theorem q9:∀ (l:List Int),l.flatMap ak=l.map λi=>Value.int .i64 i
 |[]=>rfl
 |a :: l=>congrArg (Value.int .i64 a :: ·) (q9 l)
theorem az.slE{W:World}{g n:Nat}{f:Nat->Int}(h:az W g n f){D:List Int}(hl:n=D.length)(he:∀ (i:Nat) (x:Int),D[i]?=some x->f i=x):ag ak 1 W (some ⟨g,0,none⟩) n D:=by
 refine⟨hl,by rw[q9,List.length_map,Nat.mul_one];exact hl.symm,λ_=>⟨g,0,rfl,h.lt,λj u hu=>?_⟩⟩
 rw[q9,List.getElem?_map] at hu
 obtain⟨x,hx,rfl⟩:=Option.map_eq_some_iff.1 hu
 rw[Nat.zero_add,(h.at_ (by rw[hl];exact (List.getElem?_eq_some_iff.1 hx).1)).1,he j x hx]
def ix(L:List RT):Int:=(dc (λi=>(L.map RT.C).getD i 0) (L.map RT.tk) 0 (λ_=>0,0)).2
def BC(L:List RT):Int:=(dc (λi=>(L.map RT.N).getD i 0) (L.map RT.tk) 0 (λ_=>0,0)).2
theorem ww{w:World}{n:Nat}{W:World}{a b:Nat}{s4 s5:Value}(h4:s4=.slice (some ⟨a,0,none⟩) n n)(h5:s5=.slice (some ⟨b,0,none⟩) n n)(ha:az W a n λ_=>0)(hb:az W b n λ_=>0)(bf:a≠b)(h1:w.heap.size<=a)(h2:w.heap.size<=b)(hw:Below w.heap.size w W) :
 ∃ a b,s4=.slice (some ⟨a,0,none⟩) n n/\s5=.slice (some ⟨b,0,none⟩) n n/\a≠b/\w.heap.size<=a/\w.heap.size<=b/\Hid (az W a n λ_=>0)/\Hid (az W b n λ_=>0)/\Hid (Below w.heap.size w W):=⟨a,b,h4,h5,bf,h1,h2,zh ha,zh hb,zh hw⟩
theorem eT(w:World)(o p:Obj):(((w.alloc o).alloc p).drew.heap[w.heap.size]?=some o/\((w.alloc o).alloc p).drew.heap[w.heap.size+1]?=some p)/\Below w.heap.size w ((w.alloc o).alloc p).drew:=by
 have s1:(w.alloc o).heap.size=w.heap.size+1:=by simp
 have h1:=heap_alloc_new (w.alloc o) p
 rw[s1] at h1
 exact⟨⟨(Below.heap_alloc (w.alloc o) p _ (by rw[s1];omega)).trans (heap_alloc_new w o),h1⟩,(((Below.refl w.heap.size w).alloc (Nat.le_refl _) o).alloc (by omega) p).drew⟩
theorem Do(w:World)(A:Option Addr)(n c:Nat)(L:List (RT×Option Addr×Nat))(hT:fQ w A n L)(bj:dU (L.map (·.1))=true) :
 Calls Tryz.prog 144 #[.slice A n c] w λe w'=>e=.returned (.tuple #[.int .i64 (ix (L.map (·.1))),.int .i64 (BC (L.map (·.1)))])/\Below w.heap.size w w':=by
 refine ae ?_
 intro R hR
 have HR:=zh hR.out
 have HT:=zh hT
 have Hl:=zh hT.len
 have f9:=zh bj
 have jF:=(kn bj).1.l2
 rw[List.length_map,List.length_map,← hT.len] at jF
 have es:=kI n (by omega)
 have fu:=zh (show (∀ x∈(L.map (·.1)).map RT.C,0<=x/\x<=1000)/\∀ x∈(L.map (·.1)).map RT.N,0<=x/\x<=1000 from by
  have h2:=(kn bj).2
  constructor
  ·intro x hx
   obtain⟨t,ht,rfl⟩:=List.mem_map.1 hx
   obtain⟨i,hi⟩:=List.getElem?_of_mem ht
   obtain⟨⟨g1,g2,g3,g4,-,-⟩,-⟩:=h2 i t hi
   exact⟨g3,by omega⟩
  intro x hx
  obtain⟨t,ht,rfl⟩:=List.mem_map.1 hx
  obtain⟨i,hi⟩:=List.getElem?_of_mem ht
  obtain⟨⟨g1,g2,-⟩,-⟩:=h2 i t hi
  exact⟨g1,g2⟩)
 clear hR hT bj
 go_enter Tryz.func144,Tryz.ntmps144
 go_upto_region 1 with fail
 go_cut [4,5] from 8 to 13 (λs4 s5 wx=>∃ a b,s4=.slice (some ⟨a,0,none⟩) n n/\s5=.slice (some ⟨b,0,none⟩) n n/\a≠b/\w.heap.size<=a/\w.heap.size<=b/\Hid (az wx a n λ_=>0)/\Hid (az wx b n λ_=>0)/\Hid (Below w.heap.size w wx))
 case first =>
  go_region
  all_goals
   go_wp2_with fail
   go_meet
   first
   |exact ww rfl rfl (cM (eT w _ _).1.1) (cM (eT w _ _).1.2) (by omega) (Nat.le_refl _) (Nat.le_succ _) (eT w _ _).2
   |exact ww rfl rfl (cM (eT w _ _).1.2) (cM (eT w _ _).1.1) (by omega) (Nat.le_succ _) (Nat.le_refl _) (eT w _ _).2
 rename World=>w1
 obtain⟨ga,gb,rfl,rfl,bf,g6,g7,HA,HB,hZ⟩:=hcut
 clear es
 go_wp2_with fail
 go_loopw [6,7,16] (λ_ _ s16 wr=>∃ k:Nat,s16=.int .i64 (k:Nat)/\k<=n/\Hid (∃ f,az wr ga n f/\∀ i x,i<k->L[i]?=some x->f i=x.1.C)/\Hid (∃ f,az wr gb n f/\∀ i x,i<k->L[i]?=some x->f i=x.1.N)/\Hid (Below w.heap.size w wr)) (λ_ _ s16 _=>n-(intOf s16).toNat)
 case atStart=>exact⟨0,rfl,Nat.zero_le _,zh ⟨_,HA.out,λi x h=>absurd h (Nat.not_lt_zero i)⟩,zh ⟨_,HB.out,λi x h=>absurd h (Nat.not_lt_zero i)⟩,hZ⟩
 rename World=>wb
 obtain⟨k,rfl,hk,eF,e5,am⟩:=hrel
 by_cases aa:k<n
 ·obtain⟨b,o,x,rfl,hb,hx,⟨c0,c1,c2,c3⟩,wd,bq,a9,bk⟩:=(HT.out.below am.out).nx aa
  obtain⟨fa,bv,bS⟩:=eF.out
  obtain⟨fb,bg,b5⟩:=e5.out
  have cO:=bv.on (a9.block _ bv.lt)
  have bi:=bg.on (a9.block _ bg.lt)
  obtain⟨d0,d1,-,-,dz⟩:=an bk
  obtain⟨p1,z1⟩:=cO.at_ aa
  obtain⟨p2,z2⟩:=bi.at_ aa
  have i1:(k:Int)<(n:Int):=by omega
  have i0:(0:Int)<=(k:Int):=by omega
  have ca:=zh bq
  have HX:=zh hx
  have n1:ga≠wb.heap.size:=Nat.ne_of_lt bv.lt
  have n2:gb≠wb.heap.size:=Nat.ne_of_lt bg.lt
  have n3:gb≠ga:=Ne.symm bf
  have cl:∀ (f:Nat->Int) (g:RT->Int),(∀ i y,i<k->L[i]?=some y->f i=g y.1)->∀ i y,i<k+1->L[i]?=some y->aR f k (g x.1) i=g y.1:=λf g h i y hi hy=>by
   by_cases e:i=k
   ·subst e;rw[bH];rw[hx] at hy;cases hy;rfl
   rw[bA _ _ e];exact h i y (by omega) hy
  have dt:=zh (show (∃ f,az ((wd.setCell ⟨ga,k,none⟩ (.int .i64 x.1.C)).setCell ⟨gb,k,none⟩ (.int .i64 x.1.N)) ga n f/\∀ i y,i<k+1->L[i]?=some y->f i=y.1.C)/\(∃ f,az ((wd.setCell ⟨ga,k,none⟩ (.int .i64 x.1.C)).setCell ⟨gb,k,none⟩ (.int .i64 x.1.N)) gb n f/\∀ i y,i<k+1->L[i]?=some y->f i=y.1.N)/\Below w.heap.size w ((wd.setCell ⟨ga,k,none⟩ (.int .i64 x.1.C)).setCell ⟨gb,k,none⟩ (.int .i64 x.1.N)).drew from
   ⟨⟨_,(cO.set _ aa).on (al bf),cl fa RT.C bS⟩,⟨_,(bi.on (al (Ne.symm bf))).set _ aa,cl fb RT.N b5⟩,(((am.out.trans (a9.mono am.out.size)).setCell g6 _).setCell g7 _).drew⟩)
  have d4:=zh (show (∃ f,az ((wd.setCell ⟨gb,k,none⟩ (.int .i64 x.1.N)).setCell ⟨ga,k,none⟩ (.int .i64 x.1.C)) ga n f/\∀ i y,i<k+1->L[i]?=some y->f i=y.1.C)/\(∃ f,az ((wd.setCell ⟨gb,k,none⟩ (.int .i64 x.1.N)).setCell ⟨ga,k,none⟩ (.int .i64 x.1.C)) gb n f/\∀ i y,i<k+1->L[i]?=some y->f i=y.1.N)/\Below w.heap.size w ((wd.setCell ⟨gb,k,none⟩ (.int .i64 x.1.N)).setCell ⟨ga,k,none⟩ (.int .i64 x.1.C)).drew from
   ⟨⟨_,(cO.on (al bf)).set _ aa,cl fa RT.C bS⟩,⟨_,(bi.set _ aa).on (al (Ne.symm bf)),cl fb RT.N b5⟩,(((am.out.trans (a9.mono am.out.size)).setCell g7 _).setCell g6 _).drew⟩)
  obtain⟨⟨N,C,Rt,As⟩,Ax,cx⟩:=x
  dsimp only at *
  clear bq a9 bk hx cl bv bS bg b5 cO bi dz
  go_upto_region 5 with fail
  rw[ca.out]
  clear c0 c1 c2 c3
  go_region
  all_goals
   go_wp2_with fail
   first
   |exact⟨⟨k+1,by go_num,aa,zh dt.out.1,zh dt.out.2.1,zh dt.out.2.2⟩,by simp[intOf];omega⟩
   |exact⟨⟨k+1,by go_num,aa,zh d4.out.1,zh d4.out.2.1,zh d4.out.2.2⟩,by simp[intOf];omega⟩
 obtain rfl:k=n:=by omega
 have i1:¬ (k:Int)<(k:Int):=by omega
 obtain⟨fa,bv,bS⟩:=eF.out
 obtain⟨fb,bg,b5⟩:=e5.out
 have eo:(L.map (·.1)).length=k:=by rw[List.length_map];exact Hl.out.symm
 have hK:ag ak 1 wb (some ⟨ga,0,none⟩) k ((L.map (·.1)).map RT.C):=bv.slE (by rw[List.length_map];exact eo.symm) λi x hx=>by
  rw[List.getElem?_map,List.getElem?_map] at hx
  obtain⟨t,ht,rfl⟩:=Option.map_eq_some_iff.1 hx
  obtain⟨u,hu,rfl⟩:=Option.map_eq_some_iff.1 ht
  exact bS i u (by have:=(List.getElem?_eq_some_iff.1 hu).1;have:=Hl.out;omega) hu
 have hL:ag ak 1 wb (some ⟨gb,0,none⟩) k ((L.map (·.1)).map RT.N):=bg.slE (by rw[List.length_map];exact eo.symm) λi x hx=>by
  rw[List.getElem?_map,List.getElem?_map] at hx
  obtain⟨t,ht,rfl⟩:=Option.map_eq_some_iff.1 hx
  obtain⟨u,hu,rfl⟩:=Option.map_eq_some_iff.1 ht
  exact b5 i u (by have:=(List.getElem?_eq_some_iff.1 hu).1;have:=Hl.out;omega) hu
 obtain⟨vf,ev⟩:∃ v,ix (L.map (·.1))=v:=⟨_,rfl⟩
 obtain⟨vn,eB⟩:∃ v,BC (L.map (·.1))=v:=⟨_,rfl⟩
 have e8:=zh (ol wb A k c L (HT.out.below am.out) f9.out (some ⟨ga,0,none⟩) k _ hK fu.out.1)
 rw[show (dc (λi=>((L.map (·.1)).map RT.C).getD i 0) ((L.map (·.1)).map RT.tk) 0 (λ_=>0,0)).2=vf from ev] at e8
 have fc:=zh (λ(W:World) (hb:Below wb.heap.size wb W)=>ol W A k c L (HT.out.below (am.out.trans (hb.mono am.out.size))) f9.out (some ⟨gb,0,none⟩) k _ (hL.below hb) fu.out.2)
 rw[show (dc (λi=>((L.map (·.1)).map RT.N).getD i 0) ((L.map (·.1)).map RT.tk) 0 (λ_=>0,0)).2=vn from eB] at fc
 have HF:=zh (λ(W:World) (hb:Below wb.heap.size wb W)=>HR.out (.returned (.tuple #[.int .i64 (ix (L.map (·.1))),.int .i64 (BC (L.map (·.1)))])) W ⟨rfl,am.out.trans (hb.mono am.out.size)⟩)
 rw[ev,eB] at HF
 clear bv bS bg b5 eo hK hL ev eB
 go_upto_region 8 with (go_at_call 60;refine e8.out.mono ?_;rintro e w4 ⟨s1,rfl,-,-,gC⟩;have dd:=zh gC;clear gC)
 go_wp2_with (go_at_call 60;refine (fc.out _ dd.out).mono ?_;rintro e w5 ⟨s2,rfl,-,-,bt⟩;have cq:=zh (dd.out.trans (bt.mono dd.out.size));clear bt)
 exact HF.out _ cq.out
theorem mR(w:World)(A:Option Addr)(n c:Nat)(L:List (RT×Option Addr×Nat))(hT:fQ w A n L)(dl:Int)(hn:n<=1000000000)(ha:∀ x∈L,x.1.A.length<=1000000000) :
 Calls Tryz.prog 56 #[.slice A n c,.int .i64 dl] w λe w'=>e=.returned (.int .i64 (if dU (L.map (·.1))&&decide (0<=dl/\dl<=1000000) then (if ix (L.map (·.1))<=dl then 0 else 6) else 1))/\Below w.heap.size w w':=by
 refine ae ?_
 intro R hR
 have HR:=zh hR.out
 have HC:=zh (oh w A n c L hT hn ha)
 have HT:=zh hT
 clear hR hT
 cases hck:dU (L.map (·.1)) with
 |false =>
  have HF:=zh (λ(W:World) (hb:Below w.heap.size w W)=>HR.out (.returned (.int .i64 1)) W ⟨by rw[hck];rfl,hb⟩)
  rw[hck] at HC
  clear hck
  go_enter Tryz.func56,Tryz.ntmps56
  go_wp2_with (go_at_call 63;refine HC.out.mono ?_;rintro e w1 ⟨rfl,ad⟩;have aF:=zh ad;clear ad)
  exact HF.out _ aF.out
 |true =>
  rw[hck] at HC
  by_cases hd:0<=dl/\dl<=1000000
  ·have HE:=zh (λ(W:World) (hb:Below w.heap.size w W)=>Do W A n c L (HT.out.below hb) hck)
   have g1:¬ dl<0:=by omega
   have g2:¬ dl > 1000000:=by omega
   have HF:=zh (λ(W:World) (hb:Below w.heap.size w W)=>HR.out (.returned (.int .i64 (if ix (L.map (·.1))<=dl then 0 else 6))) W ⟨by rw[hck,decide_eq_true hd];rfl,hb⟩)
   obtain⟨f,hf⟩:∃ f,ix (L.map (·.1))=f:=⟨_,rfl⟩
   rw[hf] at HE HF
   clear hck hf
   go_enter Tryz.func56,Tryz.ntmps56
   by_cases g5:f<=dl
   ·rw[if_pos g5] at HF
    have g3:¬ f > dl:=by omega
    go_wp2_with (first
     |(go_at_call 63;refine HC.out.mono ?_;rintro e w1 ⟨rfl,ad⟩;have aF:=zh ad;clear ad)
     |(go_at_call 144;refine (HE.out _ aF.out).mono ?_;rintro e w2 ⟨rfl,bc⟩;have b8:=zh (aF.out.trans (bc.mono aF.out.size));clear bc))
    exact HF.out _ b8.out
   rw[if_neg g5] at HF
   have g3:f > dl:=by omega
   go_wp2_with (first
    |(go_at_call 63;refine HC.out.mono ?_;rintro e w1 ⟨rfl,ad⟩;have aF:=zh ad;clear ad)
    |(go_at_call 144;refine (HE.out _ aF.out).mono ?_;rintro e w2 ⟨rfl,bc⟩;have b8:=zh (aF.out.trans (bc.mono aF.out.size));clear bc))
   exact HF.out _ b8.out
  have HF:=zh (λ(W:World) (hb:Below w.heap.size w W)=>HR.out (.returned (.int .i64 1)) W ⟨by rw[hck,decide_eq_false hd];rfl,hb⟩)
  clear hck
  go_enter Tryz.func56,Tryz.ntmps56
  by_cases g1:dl<0
  ·go_wp2_with (go_at_call 63;refine HC.out.mono ?_;rintro e w1 ⟨rfl,ad⟩;have aF:=zh ad;clear ad)
   exact HF.out _ aF.out
  have g2:dl > 1000000:=by omega
  go_wp2_with (go_at_call 63;refine HC.out.mono ?_;rintro e w1 ⟨rfl,ad⟩;have aF:=zh ad;clear ad)
  exact HF.out _ aF.out
end
end
section
section
open Go.RowKit
def qq(a:Ac):List Value:=[.int .i64 (a.f:Nat),.int .i64 (a.t:Nat),.int .i64 a.l,.int .i64 a.r,.int .i64 0,.int .i64 (a.k:Nat),.int .i64 (a.num:Nat)]
structure mp(W:World)(base nb nx n tl:Nat)(E:List Ac):Prop where
 bn:base<=nb
 bx:base<=nx
 x:W.heap[nx]?=some (.cells #[.pointer (some ⟨nb,0,none⟩)] 157 (0,0))
 row:∃ A c,W.heap[nb]?=some (.cells #[.int .i64 (n:Nat),.slice A E.length c,.int .i64 (tl:Nat),.slice none 0 0] 236 (0,0))/\W.ownsRow base 238 7 (.slice A E.length c) E.length (E.flatMap qq)
theorem mp.nw{W:World}{base nb nx n tl:Nat}{E:List Ac}(h:mp W base nb nx n tl E)(bf:E≠[]):∃ g c,base<=g/\ii W nb g E (λ_=>0) n c tl none 0 0:=by
 obtain⟨A,c,h1,h2⟩:=h.row
 have hS:ag qq 7 W A E.length E:=ag.of_own h2 rfl
 rcases h2.2 with⟨-,h0⟩|⟨g,cap,cur,hv,hg,hh,j4,-,kP,-⟩
 ·exact absurd (List.eq_nil_of_length_eq_zero h0) bf
 simp only[Value.slice.injEq] at hv
 obtain⟨rfl,-,rfl⟩:=hv
 refine⟨g,c,hg,h1,cur,hh,by rw[kP];exact Nat.mul_le_mul_right 7 j4,λi a hi=>?_⟩
 obtain⟨b,o,y,e1,-,hy,hc⟩:=hS.at_ (sz:=7) (λ_=>rfl) (List.getElem?_eq_some_iff.1 hi).1
 simp only[Option.some.injEq,Addr.mk.injEq,and_true] at e1
 obtain⟨rfl,rfl⟩:=e1
 rw[hi] at hy
 cases hy
 have hj:∀ j u,(qq a)[j]?=some u->cur[i*7+j]?=some u:=λj u hu=>by
  have:=hc j u hu
  rw[Nat.zero_add,cell_of_row _ _ _ _ _ (0,0) hh] at this
  exact this
 exact⟨hj 0 _ rfl,hj 1 _ rfl,hj 2 _ rfl,hj 3 _ rfl,hj 4 _ rfl,hj 5 _ rfl,hj 6 _ rfl⟩
def Kk(w:World)(base:Nat)(S:Nat->Prop):Prop:=∀ j,S j->base<=j/\∀ x C ty,w.heap[x]?=some (.cells C ty (0,0))->ty≠236->ty≠238->j≠x
theorem Fq{W wz w7:World}{base nb nx n tl c c7:Nat}{E:List Ac}{A A7:Option Addr}{a:Ac}(h:mp W base nb nx n tl E)(hb:Below W.heap.size W wz)(h1:W.heap[nb]?=some (.cells #[.int .i64 (n:Nat),.slice A E.length c,.int .i64 (tl:Nat),.slice none 0 0] 236 (0,0)))(h2:W.ownsRow base 238 7 (.slice A E.length c) E.length (E.flatMap qq))
 (cj:w7.ownsRow base 238 7 (.slice A7 (E.length+1) c7) (E.length+1) (E.flatMap qq++qq a)) (cV:wz.grownBy w7 (Value.slice A E.length c).ownBlock) :
 ((∃ v,w7.cell? ⟨nb,1,none⟩=some v/\w7.frozen? ⟨nb,1,none⟩=false)/\w7.cell? ⟨nx,0,none⟩=some (.pointer (some ⟨nb,0,none⟩)))/\mp (w7.setCell ⟨nb,1,none⟩ (.slice A7 (E.length+1) c7)) base nb nx n tl (E++[a])/\∃ S,Kk W base S/\Kx S W (w7.setCell ⟨nb,1,none⟩ (.slice A7 (E.length+1) c7)):=by
 have ku:=(Array.getElem?_eq_some_iff.1 h1).1
 have k3:=(Array.getElem?_eq_some_iff.1 h.x).1
 have b6:Kx (λj=>(Value.slice A E.length c).ownBlock=some j) W w7:=((Kx.refl _ W).below hb).grown cV λj e=>.inl e
 have bf:=cZ h1 h2 (by decide)
 have kw:=cZ h.x h2 (by decide)
 have h7:=(b6.block nb ku λe=>bf nb e rfl).trans h1
 have hP:=(b6.block nx k3 λe=>kw nx e rfl).trans h.x
 obtain⟨-,q1,-,-,q4⟩:=an h7
 have k4:nx≠nb:=by
  intro e
  have h9:=h.x
  rw[e,h1] at h9
  simp at h9
 refine⟨⟨⟨_,q1,q4 1⟩,by rw[cell_of_row _ _ 0 _ _ (0,0) hP];rfl⟩,⟨h.bn,h.bx,(al k4).trans hP,A7,c7,(aA h7).trans (by simp),?_⟩,λj=>j=nb\/(Value.slice A E.length c).ownBlock=some j,λj hj=>?_,(b6.mono λj e=>.inr e).trans (aI w7 nb 1 _) λj _ e=>.inl e⟩
 ·rw[List.flatMap_append,List.length_append]
  have:=aH (w:=w7.setCell ⟨nb,1,none⟩ (.slice A7 (E.length+1) c7)) cj λj hj=>al (cZ h7 cj (by decide) j hj)
  simpa using this
 rcases hj with rfl|hj
 ·refine⟨h.bn,λx C ty hx t1 t2 e=>?_⟩
  subst e
  rw[h1] at hx
  cases hx
  exact t1 rfl
 exact⟨(h2.lt j hj).1,λx C ty hx t1 t2=>cZ hx h2 (Ne.symm t2) j hj⟩
theorem Ie:(Tryz.prog.info? 238).map (λi=>(i.zero,i.size,i.bytes))=some (some (.agg #[.int .i64 0,.int .i64 0,.int .i64 0,.int .i64 0,.int .i64 0,.int .i64 0,.int .i64 0]),7,56):=by kernel_rfl
theorem GW:au Tryz.prog 233 238 7 56:=au.of (z:=.agg #[.int .i64 0,.int .i64 0,.int .i64 0,.int .i64 0,.int .i64 0,.int .i64 0,.int .i64 0]) Tryz.underlying233 Ie rfl (by omega)
theorem GF(a:Ac):∀ u∈qq a,u.oneCell'=true:=by
 intro u hu
 simp only[qq,List.mem_cons,List.not_mem_nil,or_false] at hu
 rcases hu with rfl|rfl|rfl|rfl|rfl|rfl|rfl<;>rfl
theorem FA(w:World)(base nb nx n tl:Nat)(E:List Ac)(h:mp w base nb nx n tl E)(hE:E.length<=100000)(a:Ac) :
 Calls Tryz.prog 145 #[.int .i64 (a.f:Nat),.int .i64 (a.t:Nat),.int .i64 a.l,.int .i64 a.r,.int .i64 (a.k:Nat),.int .i64 (a.num:Nat),.pointer (some ⟨nx,0,none⟩)] w λe w'=>e=.returned (.tuple #[])/\mp w' base nb nx n tl (E++[a])/\∃ S,Kk w base S/\Kx S w w':=by
 refine ae ?_
 intro R hR
 have HR:=zh hR.out
 obtain⟨A,c,h1,h2⟩:=h.row
 obtain⟨wz,hO⟩:∃ wz,w.alloc (.cells #[.int .i64 (a.f:Nat),.int .i64 (a.t:Nat),.int .i64 a.l,.int .i64 a.r,.int .i64 0,.int .i64 (a.k:Nat),.int .i64 (a.num:Nat)] 238)=wz:=⟨_,rfl⟩
 have bE:Below w.heap.size w wz.drew:=(show Below w.heap.size w wz from hO ▸ ab w _).drew
 have HM:=zh (λ(A7:Option Addr) (c7:Nat) (w7:World) h3 h4=>Fq (a:=a) (A7:=A7) (c7:=c7) (w7:=w7) h bE h1 h2 h3 h4)
 have HO:=zh (ai h2 bE)
 have i7:=zh (Sl.drew (Sl.new w #[.int .i64 (a.f:Nat),.int .i64 (a.t:Nat),.int .i64 a.l,.int .i64 a.r,.int .i64 0,.int .i64 (a.k:Nat),.int .i64 (a.num:Nat)] 238 7 1 rfl))
 have js:=zh (GF a)
 obtain⟨-,k1,-,-,f1⟩:=an h1
 have k0:w.cell? ⟨nx,0,none⟩=some (.pointer (some ⟨nb,0,none⟩)):=by rw[cell_of_row _ _ 0 _ _ (0,0) h.x];rfl
 obtain⟨-,k1z,-⟩:=an (W:=wz) ((bE.block nb (Array.getElem?_eq_some_iff.1 h1).1).trans h1)
 have h9:wz.heap[nx]?=_:=(bE.block nx (Array.getElem?_eq_some_iff.1 h.x).1).trans h.x
 have k0z:wz.cell? ⟨nx,0,none⟩=some (.pointer (some ⟨nb,0,none⟩)):=by rw[cell_of_row _ _ 0 _ _ (0,0) h9];rfl
 have j3:base<=wz.heap.size:=Nat.le_trans (Nat.le_trans h.bn (Nat.le_of_lt (Array.getElem?_eq_some_iff.1 h1).1)) bE.size
 have i3:Hid (wz.drew.ownsRow base 238 7 (.slice A E.length c) E.length (E.flatMap qq)):=HO
 clear hR h h1 h2 bE HO h9
 subst hO
 go_enter Tryz.func145,Tryz.ntmps145
 go_region_law ((refine er rfl (.tmp 17) (.tmp 25) 233 rfl GW base (.slice A E.length c) E.length _ ?_ i3.out (some ⟨w.heap.size,0,none⟩) 1 1 (qq a) ?_ i7.out js.out (by unfold maxLen;omega) (by omega) j3 ?_;(· (simp[Act.eval]));(· (simp[Act.eval]));intro A7 c7 w7 cj cV _;obtain⟨⟨⟨v7,tc,tf⟩,tx⟩,hD,S7,hM,b6⟩:=HM.out A7 c7 w7 cj cV;have iv:=zh hD;have i6:=zh hM;have im:=zh b6;clear cj cV hD hM b6))
 all_goals
  have HF:=zh (HR.out (.returned (.tuple #[])) _ ⟨rfl,iv.out,S7,i6.out,im.out⟩)
  go_wp2_with fail
  refine⟨rfl,.tuple #[],?_,HF.out⟩
  simp[results,Tryz.results145,go_sem]
end
end
section
section
open Go.RowKit
def a7:List Tk->Nat
 |[]=>0
 |t :: T=>t.A.length+a7 T
theorem lh:∀ (A B:List Tk) (i k:Nat),ah (A++B) i k=ah A i k++ah B (i+A.length) (k+a7 A)
 |[],B,i,k=>rfl
 |t :: A,B,i,k=>by
  show bQ t i++(bL t.A i k++ah (A++B) (i+1) (k+t.A.length))=_
  rw[lh A B,show i+1+A.length=i+(A.length+1) by omega,show k+t.A.length+a7 A=k+(t.A.length+a7 A) by omega]
  show _=(bQ t i++(bL t.A i k++ah A (i+1) (k+t.A.length)))++_
  simp only[List.append_assoc]
  rfl
theorem gV:∀ (A B:List Tk),a7 (A++B)=a7 A+a7 B
 |[],B=>by simp[a7]
 |t :: A,B=>by show t.A.length+a7 (A++B)=t.A.length+a7 A+a7 B;rw[gV A B];omega
theorem iz{T:List Tk}{k:Nat}{t:Tk}(h:T[k]?=some t):ah (T.take (k+1)) 0 0=(ah (T.take k) 0 0++bQ t k)++bL t.A k (a7 (T.take k))/\a7 (T.take (k+1))=a7 (T.take k)+t.A.length:=by
 have hk:=(List.getElem?_eq_some_iff.1 h).1
 rw[List.take_add_one,h]
 refine⟨?_,?_⟩
 ·rw[Option.toList_some,lh,List.length_take,Nat.min_eq_left (by omega),Nat.zero_add,Nat.zero_add]
  show _++(bQ t k++(bL t.A k _++[]))=_
  rw[List.append_nil,List.append_assoc]
 rw[Option.toList_some,gV]
 rfl
theorem sK:∀ (A B:List Nat) (i k:Nat),bL (A++B) i k=bL A i k++bL B i (k+A.length)
 |[],_,_,_=>rfl
 |a :: A,B,i,k=>by
  show _ :: bL (A++B) i (k+1)=_ :: (bL A i (k+1)++bL B i (k+(A.length+1)))
  rw[sK A B,show k+1+A.length=k+(A.length+1) by omega]
theorem rg{A:List Nat}{j a:Nat}(i k:Nat)(h:A[j]?=some a):bL (A.take (j+1)) i k=bL (A.take j) i k++[⟨eI a,bI i,0,aG,2,k+j⟩]:=by
 have hj:=(List.getElem?_eq_some_iff.1 h).1
 rw[List.take_add_one,h,Option.toList_some,sK,List.length_take,Nat.min_eq_left (by omega)]
 rfl
theorem nh:∀ (A:List Nat) (i k:Nat),(bL A i k).length=A.length
 |[],_,_=>rfl
 |_ :: A,i,k=>congrArg (· + 1) (nh A i (k+1))
theorem lF:∀ (T:List Tk) (i k:Nat),(∀ t∈T,t.A.length<=32)->(ah T i k).length<=36*T.length/\a7 T<=32*T.length
 |[],_,_,_=>⟨Nat.le_refl _,Nat.le_refl _⟩
 |t :: T,i,k,h=>by
  obtain⟨h1,h2⟩:=lF T (i+1) (k+t.A.length) λu hu=>h u (List.mem_cons_of_mem _ hu)
  have:=h t List.mem_cons_self
  refine⟨?_,by show t.A.length+a7 T<=32*(T.length+1);omega⟩
  show (bQ t i++(bL t.A i k++ah T (i+1) (k+t.A.length))).length<=36*(T.length+1)
  rw[List.length_append,List.length_append,nh]
  show 4+_<=_
  omega
theorem jq{L:List RT}(h:dU L=true):AJ (L.map RT.tk)/\(∀ (i:Nat) (t:RT),L[i]?=some t->l7 t/\t.A.length<=32/\∀ a∈t.A,0<=a/\a<(i:Int))/\(ah (L.map RT.tk) 0 0).length<=2000:=by
 obtain⟨h1,h2⟩:=kn h
 have h3:=p9 h
 have g1:=of_decide_eq_true (Bool.and_eq_true_iff.1 h).1
 refine⟨h1,λi t hi=>⟨(h2 i t hi).1,h3 i t hi,(h2 i t hi).2⟩,?_⟩
 have h4:=(lF (L.map RT.tk) 0 0 λt ht=>by
  obtain⟨u,hu,rfl⟩:=List.mem_map.1 ht
  obtain⟨i,hi⟩:=List.getElem?_of_mem hu
  show (u.A.map Int.toNat).length<=32
  rw[List.length_map]
  exact h3 i u hi).1
 rw[List.length_map] at h4
 omega
theorem mp.below{W w:World}{base nb nx n tl:Nat}{E:List Ac}(h:mp W base nb nx n tl E)(hb:Below W.heap.size W w):mp w base nb nx n tl E:=by
 obtain⟨A,c,h1,h2⟩:=h.row
 exact⟨h.bn,h.bx,(hb.block _ (Array.getElem?_eq_some_iff.1 h.x).1).trans h.x,A,c,(hb.block _ (Array.getElem?_eq_some_iff.1 h1).1).trans h1,ai h2 hb⟩
theorem Iu(w:World)(n:Nat){m:Int}{N:Nat}(e:m=(N:Nat)):mp ((w.alloc (.cells #[.int .i64 m,.slice none 0 0,.int .i64 (n:Nat),.slice none 0 0] 236)).alloc (.cells #[.pointer (some ⟨w.heap.size,0,none⟩)] 157)) w.heap.size w.heap.size (w.heap.size+1) N n []/\
 Below w.heap.size w ((w.alloc (.cells #[.int .i64 m,.slice none 0 0,.int .i64 (n:Nat),.slice none 0 0] 236)).alloc (.cells #[.pointer (some ⟨w.heap.size,0,none⟩)] 157)):=by
 subst e
 obtain⟨w1,c5⟩:∃ w1,w.alloc (.cells #[.int .i64 (N:Nat),.slice none 0 0,.int .i64 (n:Nat),.slice none 0 0] 236)=w1:=⟨_,rfl⟩
 have h1:w1.heap[w.heap.size]?=_:=c5 ▸ heap_alloc_new w _
 have b1:Below w.heap.size w w1:=c5 ▸ ab w _
 have s1:w1.heap.size=w.heap.size+1:=by rw[← c5];simp
 rw[c5]
 have h2:=heap_alloc_new w1 (.cells #[.pointer (some ⟨w.heap.size,0,none⟩)] 157)
 have b2:=ab w1 (.cells #[.pointer (some ⟨w.heap.size,0,none⟩)] 157)
 rw[s1] at h2
 exact⟨⟨Nat.le_refl _,Nat.le_succ _,h2,none,0,(b2.block _ (by omega)).trans h1,World.ownsRow_nil _ _ _ _⟩,b1.trans (b2.mono (by omega))⟩
structure oZ(w W:World)(nb nx n tl tb:Nat)(x:RT×Option Addr×Nat)(E:List Ac):Prop where
 nw:mp W w.heap.size nb nx n tl E
 bel:Below w.heap.size w W
 box:W.heap[tb]?=some (.cells #[.int .i64 x.1.N,.int .i64 x.1.C,.int .i64 x.1.R,.slice x.2.1 x.1.A.length x.2.2] 43 (0,0))
theorem oZ.drew{w W:World}{nb nx n tl tb:Nat}{x:RT×Option Addr×Nat}{E:List Ac}(h:oZ w W nb nx n tl tb x E):oZ w W.drew nb nx n tl tb x E:=⟨h.nw.below (Below.refl _ _).drew,h.bel.drew,h.box⟩
theorem oZ.add{w W:World}{nb nx n tl tb:Nat}{x:RT×Option Addr×Nat}{E:List Ac}(h:oZ w W nb nx n tl tb x E)(hE:E.length<=100000)(a:Ac) :
 Calls Tryz.prog 145 #[.int .i64 (a.f:Nat),.int .i64 (a.t:Nat),.int .i64 a.l,.int .i64 a.r,.int .i64 (a.k:Nat),.int .i64 (a.num:Nat),.pointer (some ⟨nx,0,none⟩)] W λe w'=>e=.returned (.tuple #[])/\oZ w w' nb nx n tl tb x (E++[a]):=by
 refine (FA W _ nb nx n tl E h.nw hE a).mono ?_
 rintro e w' ⟨rfl,h1,S,h2,h3⟩
 exact⟨rfl,h1,h3.low h.bel (λj hj=>(h2 j hj).1) h.bel.size,(h3.block tb (Array.getElem?_eq_some_iff.1 h.box).1 λhs=>(h2 tb hs).2 tb _ _ h.box (by decide) (by decide) rfl).trans h.box⟩
theorem og(w:World)(A:Option Addr)(n c:Nat)(L:List (RT×Option Addr×Nat))(hT:fQ w A n L)(bj:dU (L.map (·.1))=true) :
 Calls Tryz.prog 57 #[.slice A n c] w λe w'=>∃ nb g cc,w.heap.size<=nb/\w.heap.size<=g/\e=.returned (.pointer (some ⟨nb,0,none⟩))/\ii w' nb g (ah ((L.map (·.1)).map RT.tk) 0 0) (λ_=>0) (nP ((L.map (·.1)).map RT.tk)) cc ((L.map (·.1)).map RT.tk).length none 0 0/\Below w.heap.size w w':=by
 refine ae ?_
 intro R hR
 obtain⟨T,bm⟩:∃ T,(L.map (·.1)).map RT.tk=T:=⟨_,rfl⟩
 obtain⟨ok1,ok2,ok3⟩:=jq bj
 rw[bm] at hR ok1 ok3
 have HR:=zh hR.out
 have HT:=zh hT
 have hl:=hT.len
 have hn:n=T.length:=by rw[← bm,List.length_map,List.length_map];exact hl
 have Hn:=zh hn
 have gs:∀ (k:Nat) (x:RT×Option Addr×Nat),L[k]?=some x->T[k]?=some x.1.tk:=λk x hx=>by rw[← bm,List.getElem?_map,List.getElem?_map,hx];rfl
 have cA:=zh gs
 have H2:=zh (λ(k:Nat) (x:RT×Option Addr×Nat) (hx:L[k]?=some x)=>ok2 k x.1 (by rw[List.getElem?_map,hx];rfl))
 have H1:=zh ok1
 have H3:=zh ok3
 have ks:n<=32:=hn ▸ ok1.l2
 have lc:1<=n:=hn ▸ ok1.l1
 have eNP:((2:Int)+2*(n:Int))=((nP T:Nat):Int):=by unfold nP;rw[← hn];omega
 have ENP:=zh eNP
 clear hR hT hl hn gs ok1 ok2 ok3 bm bj eNP
 go_enter Tryz.func57,Tryz.ntmps57
 go_upto_region 1 with fail
 go_cut [3] from 10 to 17 (λs3 wx=>∃ nb nx,s3=.pointer (some ⟨nx,0,none⟩)/\Hid (mp wx w.heap.size nb nx (nP T) n [])/\Hid (Below w.heap.size w wx))
 case first =>
  go_wp2_with fail
  go_meet
  have h:=Iu w n ENP.out
  exact⟨w.heap.size,w.heap.size+1,rfl,zh h.1,zh h.2⟩
 rename World=>w1
 obtain⟨nb,nx,rfl,iT,HB⟩:=hcut
 have b7:=zh (λ(W:World) (tb:Nat) (x:RT×Option Addr×Nat) (E:List Ac) (h:oZ w W nb nx (nP T) n tb x E) (hE:E.length<=100000) (a:Ac)=>h.add hE a)
 have cr:=zh (λ(k:Nat)=>show (ah (T.take k) 0 0).length<=1200/\a7 (T.take k)<=1200 by
  have h9:=lF (T.take k) 0 0 λt ht=>by
   obtain⟨i,hi⟩:=List.getElem?_of_mem (List.mem_of_mem_take ht)
   have ho:i<L.length:=by have:=(List.getElem?_eq_some_iff.1 hi).1;have:=Hn.out;have:=HT.out.len;omega
   have hx:=cA.out i _ (List.getElem?_eq_getElem ho)
   rw[hi] at hx
   cases hx
   show (L[i].1.A.map Int.toNat).length<=32
   rw[List.length_map]
   exact (H2.out i _ (List.getElem?_eq_getElem ho)).2.1
  have:=List.length_take_le' k T
  have:=Hn.out
  omega)
 go_wp2_with fail
 go_loopw [5,6,7,9,21] (λs5 _ _ _ s21 wr=>∃ k:Nat,s21=.int .i64 (k:Nat)/\s5=.int .i64 (a7 (T.take k):Nat)/\k<=n/\Hid (mp wr w.heap.size nb nx (nP T) n (ah (T.take k) 0 0))/\Hid (Below w.heap.size w wr)) (λ_ _ _ _ s21 _=>n-(intOf s21).toNat)
 case atStart=>exact⟨0,rfl,rfl,Nat.zero_le _,iT,HB⟩
 rename World=>wb
 obtain⟨k,rfl,rfl,hk,HN,am⟩:=hrel
 by_cases aa:k<n
 ·obtain⟨b,o,x,rfl,hb,hx,⟨c0,c1,c2,c3⟩,wd,bq,a9,bk⟩:=(HT.out.below am.out).nx aa
  have Hx:=zh hx
  obtain⟨g1,g2,g3⟩:=H2.out k x hx
  have HG:=zh g3
  have go:=iz (cA.out k x hx)
  have c9:=zh go
  obtain⟨l1,l2⟩:=cr.out k
  obtain⟨l3,l4⟩:=cr.out (k+1)
  have HD:=zh (show oZ w wd nb nx (nP T) n wb.heap.size x (ah (T.take k) 0 0) from ⟨HN.out.below a9,am.out.trans (a9.mono am.out.size),bk⟩)
  have ca:=zh bq
  have i1:(k:Int)<(n:Int):=by omega
  have i0:(0:Int)<=(k:Int):=by omega
  obtain⟨q,hq⟩:∃ q,a7 (T.take k)=q:=⟨_,rfl⟩
  obtain⟨E0,ej⟩:∃ E0,ah (T.take k) 0 0=E0:=⟨_,rfl⟩
  rw[hq,ej] at c9
  rw[ej] at HD l1
  rw[hq] at l2 ⊢
  clear hx go bq a9 bk g1 g3 hq ej
  go_upto_region 7 with fail
  rw[ca.out]
  go_upto_region 8 with (first
   |(go_at_call 146;refine (gR _ k (by omega)).mono ?_;rintro e _ ⟨rfl,rfl⟩)
   |(go_at_call 145;refine (b7.out _ _ x _ HD.out (by omega) ⟨0,bI k,0,aG,3,k⟩).mono ?_;rintro e w2 ⟨rfl,hF⟩;have d5:=zh hF;clear hF))
  have l9:=HN.out.bn
  have mb:=d5.out.bel.size
  go_upto_region 9 with (first
   |(go_at_call 147;refine (iQ _ k (by omega)).mono ?_;rintro e _ ⟨rfl,rfl⟩)
   |(go_at_call 145;refine (b7.out _ _ x _ d5.out (by simp;omega) ⟨eI k,1,0,aG,4,k⟩).mono ?_;rintro e w3 ⟨rfl,hG⟩;have d6:=zh hG;clear hG))
  clear HD d5
  obtain⟨d0,d1,d2,d3,-⟩:=an d6.out.box
  have fz:=zh d6.out.drew
  refine wp_region_still_tail 10 (by kernel_rfl) (by kernel_rfl) ?_
  simp only[List.take_succ_cons,List.take_zero,List.drop_succ_cons,List.drop_zero]
  still_step
  still_step
  still_call ((gR _ k (by omega)).mono λ_ _ h=>⟨h.1,h.2⟩)
  still_step
  still_call ((iQ _ k (by omega)).mono λ_ _ h=>⟨h.1,h.2⟩)
  still_step
  still_step
  still_step
  still_step
  still_step
  refine wpStill_nil ?_
  change wpList _ _ _ _ _ w3.drew
  go_upto_region 10 with (go_at_call 145;refine (b7.out _ _ x _ fz.out (by simp;omega) ⟨bI k,eI k,x.1.N,x.1.R,0,k⟩).mono ?_;rintro e w4 ⟨rfl,hH⟩;have d7:=zh hH;clear hH)
  clear d6 fz d0 d1 d2 d3
  obtain⟨d0,d1,d2,d3,-⟩:=an d7.out.box
  have f0:=zh d7.out.drew
  refine wp_region_still_tail 8 (by kernel_rfl) (by kernel_rfl) ?_
  simp only[List.take_succ_cons,List.take_zero,List.drop_succ_cons,List.drop_zero]
  still_step
  still_step
  still_call ((gR _ k (by omega)).mono λ_ _ h=>⟨h.1,h.2⟩)
  still_step
  still_call ((iQ _ k (by omega)).mono λ_ _ h=>⟨h.1,h.2⟩)
  still_step
  still_step
  still_step
  refine wpStill_nil ?_
  change wpList _ _ _ _ _ w4.drew
  go_upto_region 11 with (go_at_call 145;refine (b7.out _ _ x _ f0.out (by simp;omega) ⟨bI k,eI k,x.1.C,aG,1,k⟩).mono ?_;rintro e w5 ⟨rfl,hI⟩;have f2:=zh hI;clear hI)
  clear d7 f0 d0 d1 d2 d3
  obtain⟨d0,d1,d2,d3,-⟩:=an f2.out.box
  go_wp2_with fail
  clear c0 c1 c2 c3 d0 d1 d2 d3
  go_loopw [5,9,59] (λs5 _ s59 wr=>∃ j q':Nat,s59=.int .i64 (j:Nat)/\s5=.int .i64 (q':Nat)/\j<=x.1.A.length/\q'<=1200+j/\Hid (q'=q+j)/\Hid (oZ w wr nb nx (nP T) n wb.heap.size x ((E0++bQ x.1.tk k)++bL (x.1.tk.A.take j) k q))) (λ_ _ s59 _=>x.1.A.length-(intOf s59).toNat)
  case atStart =>
   refine⟨0,q,rfl,rfl,Nat.zero_le _,l2,zh rfl,zh ?_⟩
   have h:=f2.out
   simp only[List.append_assoc] at h
   rw[List.take_zero]
   show oZ _ _ _ _ _ _ _ _ (_++[])
   rw[List.append_nil]
   exact h
  rename World=>wj
  obtain⟨j,q',rfl,rfl,hj,lf,HQ,b9⟩:=hrel
  by_cases hr:j<x.1.A.length
  ·obtain⟨b2,o2,a0,e2,bc,cL,p0⟩:=((HT.out.af x (List.mem_of_getElem? Hx.out)).below b9.out.bel).at1 hr
   obtain⟨m,rfl⟩:=Int.eq_ofNat_of_zero_le (HG.out a0 (List.mem_of_getElem? cL)).1
   have hm:=(HG.out (m:Int) (List.mem_of_getElem? cL)).2
   have hC:=rg (A:=x.1.tk.A) (j:=j) (a:=m) k q (by show (x.1.A.map Int.toNat)[j]?=_;rw[List.getElem?_map,cL];rfl)
   have iq:=zh hC
   have j1:(j:Int)<(x.1.A.length:Int):=by omega
   have j0:(0:Int)<=(j:Int):=by omega
   obtain⟨⟨N,C,Rt,As⟩,Ax,cx⟩:=x
   dsimp only at *
   subst e2
   have kd:((E0++bQ (RT.tk ⟨N,C,Rt,As⟩) k)++bL ((RT.tk ⟨N,C,Rt,As⟩).A.take j) k q).length<=100000:=by
    rw[List.length_append,List.length_append,nh,List.length_take]
    show E0.length+4+_<=_
    omega
   have ma:=b9.out.bel.size
   clear hC cL
   go_upto_region 15 with (first
    |(go_at_call 147;refine (iQ _ m (by omega)).mono ?_;rintro e _ ⟨rfl,rfl⟩)
    |(go_at_call 146;refine (gR _ k (by omega)).mono ?_;rintro e _ ⟨rfl,rfl⟩)
    |(go_at_call 145;refine (b7.out _ _ _ _ b9.out kd ⟨eI m,bI k,0,aG,2,q'⟩).mono ?_;rintro e w6 ⟨rfl,hJ⟩;have f4:=zh hJ;clear hJ))
   have i5:=zh (show oZ w w6 nb nx (nP T) n wb.heap.size ⟨⟨N,C,Rt,As⟩,some ⟨b2,o2,none⟩,cx⟩ ((E0++bQ (RT.tk ⟨N,C,Rt,As⟩) k)++bL ((RT.tk ⟨N,C,Rt,As⟩).A.take (j+1)) k q) from by
    rw[iq.out,← List.append_assoc,← HQ.out]
    exact f4.out)
   clear f4
   go_wp2_with fail
   exact⟨⟨j+1,q'+1,by go_num,by go_num,hr,by omega,zh (by have:=HQ.out;omega),i5⟩,by simp[intOf];omega⟩
  obtain rfl:j=x.1.A.length:=by omega
  have j1:¬ (x.1.A.length:Int)<(x.1.A.length:Int):=by omega
  have iF:=zh (show mp wj w.heap.size nb nx (nP T) n (ah (T.take (k+1)) 0 0) from by
   rw[c9.out.1]
   have h:=b9.out.nw
   rw[List.take_of_length_le (by show (x.1.A.map Int.toNat).length<=_;rw[List.length_map];exact Nat.le_refl _)] at h
   exact h)
  have hY:=zh b9.out.bel
  have i4:=zh (show a7 (T.take (k+1))=q' from by
   rw[c9.out.2,HQ.out]
   show q+(x.1.A.map Int.toNat).length=_
   rw[List.length_map])
  go_wp2_with fail
  exact⟨⟨k+1,by go_num,by rw[i4.out],aa,iF,hY⟩,by simp[intOf];omega⟩
 obtain rfl:k=n:=by omega
 have i1:¬ (k:Int)<(k:Int):=by omega
 have e9:T.take k=T:=List.take_of_length_le (by have:=Hn.out;omega)
 have ci:=HN.out
 rw[e9] at ci
 obtain⟨g,cc,h1,h2⟩:=ci.nw (by
  intro e
  have h9:=Hn.out
  cases T with
  |nil=>simp at h9;omega
  |cons t T=>simp[ah,bQ] at e)
 have k0:wb.cell? ⟨nx,0,none⟩=some (.pointer (some ⟨nb,0,none⟩)):=by rw[cell_of_row _ _ 0 _ _ (0,0) ci.x];rfl
 have HF:=zh (HR.out (.returned (.pointer (some ⟨nb,0,none⟩))) wb ⟨nb,g,cc,ci.bn,h1,rfl,by rw[← Hn.out];exact h2,am.out⟩)
 clear e9 ci h1 h2
 go_wp2_with fail
 exact HF.out
end
end
end Go.Proofs.YtgbnicokglpdbaaGreatDoor
