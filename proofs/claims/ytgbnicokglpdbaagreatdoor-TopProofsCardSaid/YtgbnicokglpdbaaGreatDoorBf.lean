/-
plan's way back along the last steps; conditions: those of each theorem.
-/
import Derived.Test.YtgbnicokglpdbaaGreatDoorBd
import Derived.Deep.RegionLaw
namespace Go.Proofs.YtgbnicokglpdbaaGreatDoor
set_option maxHeartbeats 8000000
set_option maxRecDepth 8000
section
section
open Go.RowKit
def Kq(x:Nat×Bool):List Value:=[.int .i64 (x.1:Nat),.bool x.2]
theorem GZ:au Tryz.prog 240 246 2 16:=au.of (z:=.agg #[.int .i64 0,.bool false]) Tryz.underlying240 (by kernel_rfl) rfl (by omega)
theorem FR(w:World)(nb g:Nat)(E:List Ac)(F:Nat->Int)(n c tl:Nat)(PA:Option Addr)(pn pc:Nat)(hN:ii w nb g E F n c tl PA pn pc)(pb:Nat)(P:Nat->Nat×Bool)(hp:dF w pb n P)(S:List (Nat×Bool))(hS:jI E P 1 S)
 (hs:∀ x∈S,∃ a,E[x.1]?=some a/\a.f<n/\a.t<n/\0<=F x.1/\F x.1<=1000000000/\0<=a.r/\a.r<=aG) (hl:S.length<=100000) (hn:1<n) :
 Calls Tryz.prog 149 #[.pointer (some ⟨nb,0,none⟩),.slice (some ⟨pb,0,none⟩) n n] w λe w'=>∃ A c,e=.returned (.tuple #[.slice A S.length c,.int .i64 (g9 E F S aG)])/\w'.ownsRow w.heap.size 246 2 (.slice A S.length c) S.length (S.flatMap Kq)/\Below w.heap.size w w':=by
 refine ae ?_
 intro R hR
 have HR:=zh hR.out
 have HN:=zh hN
 have HP:=zh hp
 have HSt:=zh hs
 have bg:=(Array.getElem?_eq_some_iff.1 hN.box).1
 have a0:=hN.arcs.lt
 have jF:=hp.lt
 have HS:=zh hS
 clear hR hN hp hs hS
 go_enter Tryz.func149,Tryz.ntmps149
 go_wp2_with fail
 go_loopg [6,7,8,9,10] (S.length+1) (λgk s6 s7 s8 _ _ wr=>∃ (v:Nat) (S0 S1:List (Nat×Bool)) (am:Int) (A:Option Addr) (c:Nat),s8=.int .i64 (v:Nat)/\s7=.int .i64 am/\s6=.slice A S0.length c/\v<n/\S1.length<gk/\am<=1099511627776/\-1000000000<=am/\Hid (S0++S1=S)/\Hid (jI E P v S1)/\Hid (g9 E F S1 am=g9 E F S aG)/\Hid (wr.ownsRow w.heap.size 246 2 (.slice A S0.length c) S0.length (S0.flatMap Kq))/\Hid (Below w.heap.size w wr))
 case atStart=>exact⟨1,[],S,aG,none,0,rfl,rfl,rfl,hn,Nat.lt_succ_self _,by unfold aG;omega,by unfold aG;omega,zh rfl,HS,zh rfl,zh (World.ownsRow_nil _ _ _ _),zh (Below.refl _ _)⟩
 rename World=>wb
 obtain⟨v,S0,S1,am,A,c',rfl,rfl,rfl,hv,gN,ka,kd,HE,HW,HA,HO,HB⟩:=hrel
 cases HW.out with
 |nil =>
  have e1:S0=S:=by have:=HE.out;rw[List.append_nil] at this;exact this
  have e2:am=g9 E F S aG:=HA.out
  have HF:=zh (HR.out (.returned (.tuple #[.slice A S0.length c',.int .i64 am])) wb ⟨A,c',by rw[e1,e2],by rw[← e1];exact HO.out,HB.out⟩)
  clear e1 e2
  go_wp2_with fail
  exact HF.out
 |@cons v S2 dq hw2 =>
  have iT:=zh hw2
  have mc:(v:Int)≠0:=by omega
  have mf:(v:Int)<(n:Int):=by omega
  have mj:(0:Int)<=(v:Int):=by omega
  have g4:P v∈S:=HE.out ▸ List.mem_append_right _ List.mem_cons_self
  obtain⟨a,hy,hf,ht,en,eo,kN,kP⟩:=HSt.out _ g4
  obtain⟨p1,p2,-⟩:=(HP.out.on (HB.out.block _ jF)).at_ hv
  clear HW hw2 g4
  obtain⟨x,hx⟩:∃ x,P v=x:=⟨_,rfl⟩
  have Hx:=zh hx
  rw[hx] at hy en eo p1 p2
  clear hx
  obtain⟨i,q⟩:=x
  obtain⟨y,fb⟩:∃ y,F i=y:=⟨_,rfl⟩
  have HY:=zh fb
  dsimp only at hy en eo p1 p2
  rw[fb] at en eo
  clear fb
  obtain⟨wd,a9⟩:∃ wd,wb.alloc (.cells #[.int .i64 (i:Nat),.bool q] 246)=wd:=⟨_,rfl⟩
  have ad:Below wb.heap.size wb wd:=a9 ▸ ab wb _
  have bc:wd.heap[wb.heap.size]?=some (.cells #[.int .i64 (i:Nat),.bool q] 246 (0,0)):=a9 ▸ heap_alloc_new wb _
  have b8:=HB.out.trans (ad.mono HB.out.size)
  have bv:ja wd g E F:=HN.out.arcs.on (b8.block _ a0)
  have hi:i<E.length:=(List.getElem?_eq_some_iff.1 hy).1
  have gO:(i:Int)<(E.length:Int):=by omega
  have jf:(0:Int)<=(i:Int):=by omega
  obtain⟨-,c0,c1,c2,c3,c4,c5,c6,-⟩:=bv.at_ hy
  rw[HY.out] at c4
  obtain⟨-,k1,-⟩:=an (HN.out.below b8).box
  obtain⟨q0,q1,-⟩:=ap bc
  have aa:∀ b,b<w.heap.size->b<wd.heap.size:=λb hb=>Nat.lt_of_lt_of_le hb b8.size
  have dt:=(Array.getElem?_eq_some_iff.1 bc).1
  have hz:=λ(p:Addr) (hp:p.block<wd.heap.size)=>World.cell?_alloc_lt wd (.cells #[.int .i64 0,.int .i64 0,.int .i64 0,.int .i64 0,.int .i64 0,.int .i64 0,.int .i64 0] 238) p hp
  have z0:=(hz ⟨g,i*7,none⟩ (aa _ a0)).trans c0
  have z1:=(hz ⟨g,i*7+1,none⟩ (aa _ a0)).trans c1
  have z2:=(hz ⟨g,i*7+2,none⟩ (aa _ a0)).trans c2
  have z3:=(hz ⟨g,i*7+3,none⟩ (aa _ a0)).trans c3
  have z4:=(hz ⟨g,i*7+4,none⟩ (aa _ a0)).trans c4
  have z5:=(hz ⟨g,i*7+5,none⟩ (aa _ a0)).trans c5
  have z6:=(hz ⟨g,i*7+6,none⟩ (aa _ a0)).trans c6
  have zk:=(hz ⟨nb,1,none⟩ (aa _ bg)).trans k1
  have zq:=(hz ⟨wb.heap.size,0,none⟩ dt).trans q0
  have ei:=zh bc
  have bS:=zh b8
  have b7:=zh a9
  have cr:=zh (ai HO.out ad)
  have Hy:=zh hy
  have j0:=HB.out.size
  clear hz aa b8 bv ad bc a9 hy
  go_upto_region 6 with fail
  rw[b7.out]
  go_cut [10] from 17 to 24 (λs10 wx=>s10=.pointer (some ⟨wd.heap.size,0,none⟩)/\Hid (wx.heap[wd.heap.size]?=some (.cells #[.int .i64 (a.f:Nat),.int .i64 (a.t:Nat),.int .i64 a.l,.int .i64 a.r,.int .i64 y,.int .i64 (a.k:Nat),.int .i64 (a.num:Nat)] 238 (0,0)))/\Hid (Below wd.heap.size wd wx))
  case first =>
   go_region
   all_goals
    go_wp2_with fail
    go_meet
    exact⟨rfl,zh (heap_alloc_new wd _),zh ((ab wd _).drew)⟩
  rename World=>we
  obtain⟨rfl,i3,b5⟩:=hcut
  clear c0 c1 c2 c3 c4 c5 c6 z0 z1 z2 z3 z4 z5 z6 zk zq k1 q0 q1
  obtain⟨d0,d1,-,d3,d4⟩:=o8 i3.out
  obtain⟨q0,q1,-⟩:=ap ((b5.out.block _ dt).trans ei.out)
  obtain⟨am',bm⟩:∃ am',(if q=true then min am y else if a.r<aG then min am (a.r-y) else am)=am':=⟨_,rfl⟩
  obtain⟨v',bD⟩:∃ v',(if q=true then a.t else a.f)=v':=⟨_,rfl⟩
  have gC:g9 E F S2 am'=g9 E F S aG:=by
   rw[← HA.out]
   show _=g9 E F S2 _
   rw[Hx.out,← bm]
   dsimp only
   rw[Hy.out,HY.out]
  have hG:=zh gC
  have cI:am'<=1099511627776:=by rw[← bm];split;(· omega);split<;>omega
  have cL : -1000000000<=am':=by rw[← bm];split;(· omega);split<;>omega
  have j2:v'<n:=by rw[← bD];split<;>assumption
  have i2:Hid (jI E P v' S2):=zh (by
   have h:=iT.out
   rw[Hx.out] at h
   unfold uq at h
   dsimp only at h
   rw[Hy.out] at h
   dsimp only at h
   rw[bD] at h
   exact h)
  have fu:Hid ((S0++[(i,q)])++S2=S):=zh (by rw[← HE.out,Hx.out,List.append_assoc];rfl)
  have g2:S0.length+1+S2.length=S.length:=by have:=congrArg List.length fu.out;simp at this;omega
  have ks:S2.length+1<gk:=by simpa using gN
  have f7:=zh (ai (ai cr.out b5.out) (ab we (.cells #[.int .i64 (i:Nat),.bool q] 246)))
  have lc:=b5.out.size
  have la:=bS.out.size
  have dz:=zh (bS.out.trans ((b5.out.trans ((ab we (.cells #[.int .i64 (i:Nat),.bool q] 246)).mono b5.out.size)).mono bS.out.size))
  clear gC
  go_upto_if 26 with fail
  rw[show ((v:Int) != 0)=true by simp[dq]]
  go_cut [7,8] from 27 to 44 (λs7 s8 wx=>s7=.int .i64 am'/\s8=.int .i64 (v':Nat)/\wx=we)
  case first =>
   cases q with
   |true =>
    simp only[if_pos] at bm bD
    subst bD
    go_wp2_with fail
    all_goals
     go_meet
     exact⟨congrArg _ (by omega),rfl,rfl⟩
   |false =>
    simp only[Bool.false_eq_true,if_false] at bm bD
    subst bD
    by_cases hh:a.r<1099511627776
    ·rw[if_pos (show a.r<aG from hh)] at bm
     have kS : -1000000000<=a.r-y:=by omega
     go_wp2_with fail
     all_goals
      go_meet
      exact⟨congrArg _ (by omega),rfl,rfl⟩
    rw[if_neg (show ¬ a.r<aG from hh)] at bm
    go_wp2_with fail
    go_meet
    exact⟨congrArg _ (by omega),rfl,rfl⟩
  rename World=>we'
  obtain⟨rfl,rfl,rfl⟩:=hcut
  go_wp2_with (at_builtin;refine ax rfl (.tmp 45) (.tmp 47) _ rfl GZ w.heap.size _ _ _ rfl f7.out _ _ _ _ rfl (Sl.new _ _ _ 2 1 rfl) (by simp[Value.oneCell']) (by unfold maxLen;omega) (by omega) (by simp;omega) ?_;intro A1 c1 w7 bt bq _)
  go_roundg (gk-1)
  case measure=>omega
  case rel=>exact⟨v',S0++[(i,q)],S2,am',A1,c1,rfl,rfl,by rw[List.length_append];rfl,j2,by omega,cI,cL,fu,i2,hG,zh (by rw[List.length_append,List.flatMap_append];exact bt),zh (aL dz.out f7.out (Nat.le_refl _) (by simp;omega) bq)⟩
end
end
section
section
open Go.RowKit
theorem zH(d:Int):∀ (A B:List (Nat×Bool)) (F:Nat->Int),fj d (A++B) F=fj d B (fj d A F)
 |[],_,_=>rfl
 |_ :: A,B,_=>zH d A B _
theorem Em(d:Int){S:List (Nat×Bool)}{k:Nat}{x:Nat×Bool}(F:Nat->Int)(h:S[k]?=some x):fj d (S.take (k+1)) F=aR (fj d (S.take k) F) x.1 (fj d (S.take k) F x.1+fG d x.2):=by
 rw[List.take_add_one,h,zH]
 rfl
theorem Iw{S:List (Nat×Bool)}(ho:tD S){k:Nat}{x:Nat×Bool}(h:S[k]?=some x):∀ y∈S.take k,y.1≠x.1:=by
 intro y hy
 obtain⟨hk,hx⟩:=List.getElem?_eq_some_iff.1 h
 obtain⟨j,hj,e⟩:=List.mem_take_iff_getElem.1 hy
 have:=List.pairwise_iff_getElem.1 ho j k (by omega) hk (by omega)
 rw[e,hx] at this
 exact this
theorem Df:∀ (n:Nat) (l:List Nat),l.Nodup->(∀ x∈l,x<n)->l.length<=n
 |0,[],_,_=>Nat.le_refl _
 |0,a :: l,_,h=>by have:=h a List.mem_cons_self;omega
 |n+1,l,hd,h=>by
  have h1:=Df n (l.erase n) (hd.erase n) λx hx=>by
   have h2:=h x (List.mem_of_mem_erase hx)
   have h3:x≠n:=λe=>by subst e;exact hd.not_mem_erase hx
   omega
  have:=List.length_erase_le (a:=n) (l:=l)
  by_cases hm:n∈l
  ·rw[List.length_erase_of_mem hm] at h1;omega
  rw[List.erase_of_not_mem hm] at h1;omega
theorem Fv{S:List (Nat×Bool)}(ho:tD S){n:Nat}(h:∀ x∈S,x.1<n):S.length<=n:=by
 have:=Df n (S.map (·.1)) (by rw[List.Nodup,List.pairwise_map];exact ho) λx hx=>by
  obtain⟨y,hy,rfl⟩:=List.mem_map.1 hx
  exact h y hy
 rwa [List.length_map] at this
theorem ja.set{W:World}{g:Nat}{E:List Ac}{F:Nat->Int}(h:ja W g E F){i:Nat}(hi:i<E.length)(x:Int):ja (W.setCell ⟨g,i*7+4,none⟩ (.int .i64 x)) g E (aR F i x):=by
 obtain⟨cur,h1,h2,h3⟩:=h
 refine⟨_,aA h1,by rw[Array.size_setIfInBounds];exact h2,λj b hj=>?_⟩
 obtain⟨e0,e1,e2,e3,e4,e5,e6⟩:=h3 j b hj
 have hn:∀ m,m<7->m≠4->(cur.setIfInBounds (i*7+4) (.int .i64 x))[j*7+m]?=cur[j*7+m]?:=λm _ _=>Array.getElem?_setIfInBounds_ne (by omega)
 refine⟨(hn 0 (by decide) (by decide)).trans e0,(hn 1 (by decide) (by decide)).trans e1,(hn 2 (by decide) (by decide)).trans e2,(hn 3 (by decide) (by decide)).trans e3,?_,(hn 5 (by decide) (by decide)).trans e5,(hn 6 (by decide) (by decide)).trans e6⟩
 by_cases e:j=i
 ·subst e;rw[bH,Array.getElem?_setIfInBounds_self_of_lt (by omega)]
 rw[bA _ _ e,Array.getElem?_setIfInBounds_ne (by omega)];exact e4
theorem Ij:(Tryz.prog.info? 248).map (λi=>(i.zero,i.size,i.bytes))=some (some (.agg #[.int .i64 0,.int .i64 0]),2,16):=by kernel_rfl
theorem GY:au Tryz.prog 234 248 2 16:=au.of (z:=.agg #[.int .i64 0,.int .i64 0]) Tryz.underlying234 Ij rfl (by omega)
theorem FQ{w wz w7:World}{nb g n c tl pn pc c7:Nat}{E:List Ac}{F:Nat->Int}{PA A7:Option Addr}{xs ys:List Value}(hN:ii wz nb g E F n c tl PA pn pc)(ho:wz.ownsRow w.heap.size 248 2 (.slice PA pn pc) pn xs)(bg:nb<w.heap.size)(a0:g<w.heap.size)(b9:nb≠g)(hk:Kx (λj=>j=nb\/j=g) w wz)
 (bt:w7.ownsRow w.heap.size 248 2 (.slice A7 (pn+1) c7) (pn+1) ys) (bq:wz.grownBy w7 (Value.slice PA pn pc).ownBlock) :
 (∃ v,w7.cell? ⟨nb,3,none⟩=some v/\w7.frozen? ⟨nb,3,none⟩=false)/\ii (w7.setCell ⟨nb,3,none⟩ (.slice A7 (pn+1) c7)) nb g E F n c tl A7 (pn+1) c7/\(w7.setCell ⟨nb,3,none⟩ (.slice A7 (pn+1) c7)).ownsRow w.heap.size 248 2 (.slice A7 (pn+1) c7) (pn+1) ys/\Kx (λj=>j=nb\/j=g) w (w7.setCell ⟨nb,3,none⟩ (.slice A7 (pn+1) c7)):=by
 have hb:∀ j,j<w.heap.size->w7.heap[j]?=wz.heap[j]?:=λj hj=>bq.block j (Nat.lt_of_lt_of_le hj hk.size) λe=>by
  have:=(ho.lt j e.symm).1
  omega
 have h7:=(hb nb bg).trans hN.box
 obtain⟨-,-,-,q3,q4⟩:=an h7
 refine⟨⟨_,q3,q4 3⟩,⟨(aA h7).trans (by simp),(hN.arcs.on (hb g a0)).on (al (Ne.symm b9))⟩,aH bt λj hj=>al λe=>by have:=(bt.lt j hj).1;omega,?_⟩
 exact (hk.grown bq λj e=>.inr (ho.lt j e).1).trans (aI w7 nb 3 _) λj _ e=>.inl e
theorem pM(w:World)(nb g:Nat)(T:List Tk)(dl:Int)(hD:Dl T dl)(c:Nat)(hN:ii w nb g (ah T 0 0) (λ_=>0) (nP T) c T.length none 0 0)(F':Nat->Int)(b':Bool)(hp:ib (ah T 0 0) dl (λ_=>0) false F' b')(hE:(ah T 0 0).length<=100000) :
 Calls Tryz.prog 58 #[.pointer (some ⟨nb,0,none⟩),.int .i64 dl] w λe w'=>e=.returned (.tuple #[])/\∃ PA pn pc,ii w' nb g (ah T 0 0) F' (nP T) c T.length PA pn pc/\b'=decide (0<pn)/\Kx (λj=>j=nb\/j=g) w w':=by
 refine ae ?_
 intro R hR
 have HR:=zh hR.out
 have HD:=zh hD
 obtain⟨f0,dq⟩:=mQ hD
 have iv:=zh dq
 have HP:=zh hp
 have HN:=zh hN
 have bg:=(Array.getElem?_eq_some_iff.1 hN.box).1
 have a0:=hN.arcs.lt
 have js:=nX hD
 have b9:nb≠g:=by
  rintro rfl
  obtain⟨cur,e1,-⟩:=hN.arcs
  have:=hN.box
  rw[e1] at this
  simp at this
 clear hR hD dq hp hN
 go_enter Tryz.func58,Tryz.ntmps58
 go_wp2_with fail
 go_loopg [4,5,6,7,9] 320000002 (λgk _ _ _ _ _ wr=>∃ (F:Nat->Int) (V Q:Int) (b:Bool) (f:Nat->Int) (PA:Option Addr) (pn pc:Nat) (xs:List Value),pn+gk<=320000002/\320000000-Q<gk/\Q<=320000000/\0<=Q/\Hid (rL T dl F V Q b f)/\Hid (ib (ah T 0 0) dl F b F' b')/\Hid (ii wr nb g (ah T 0 0) F (nP T) c T.length PA pn pc)/\Hid (wr.ownsRow w.heap.size 248 2 (.slice PA pn pc) pn xs)/\Hid (b=decide (0<pn))/\Hid (Kx (λj=>j=nb\/j=g) w wr))
 case atStart=>exact⟨λ_=>0,0,0,false,f0,none,0,0,[],by omega,by omega,by omega,by omega,iv,HP,HN,zh (World.ownsRow_nil _ _ _ _),zh rfl,zh (Kx.refl _ _)⟩
 rename World=>wb
 obtain⟨F,V,Q,b,f,PA,pn,pc,xs,kw,gN,j5,j4,HV,HPr,cp,HO,Hb,HK⟩:=hrel
 have hc:Cf (aq (ah T 0 0) F 0++aU []) (nP T) 0 1 32000 1000 f:=by rw[show aU []=[] from rfl,List.append_nil];exact HV.out.cf
 have HL:=zh (vy wb nb g (ah T 0 0) F (nP T) c T.length PA pn pc cp.out 0 none 0 0 [] (ag.nil _ _) hc (by omega) (by omega) hE)
 rw[show aU []=[] from rfl,List.append_nil] at HL
 clear hc
 have hA:=HK.out.size
 go_upto_region 1 with (go_at_call 148;refine HL.out.mono ?_;rintro e w1 ⟨lb,pb,l1,l2,rfl,hl,hq,hb⟩;have bu:=zh hl;have HQ:=zh hq;have aF:=zh hb;clear hl hq hb)
 have cV:=aF.out.size
 obtain⟨p1,-⟩:=bu.out.at_ (show 1<nP T by omega)
 have i1:(1:Int)<(nP T:Int):=by omega
 obtain⟨x,hx⟩:∃ x,(cK (aq (ah T 0 0) F 0) (bB 0)).L 1=x:=⟨_,rfl⟩
 have Hx:=zh hx
 rw[hx] at p1
 clear hx
 by_cases jj:x<=dl
 ·have eu:F=F'/\b=b':=(ib.done (by rw[Hx.out];exact jj)).uniq HPr.out
  have HF:=zh (HR.out (.returned (.tuple #[])) w1 ⟨rfl,PA,pn,pc,eu.1 ▸ cp.out.below aF.out,eu.2 ▸ Hb.out,HK.out.below aF.out⟩)
  clear eu
  go_wp2_with fail
  refine⟨rfl,.tuple #[],?_,HF.out⟩
  simp[results,Tryz.results58,go_sem]
 obtain⟨S,s1,s2,s3,s4,s5⟩:=td HD.out HV.out (by rw[Hx.out];omega)
 obtain⟨d,hd⟩:∃ d,g9 (ah T 0 0) F S aG=d:=⟨_,rfl⟩
 have g2:S.length<=100000:=Nat.le_trans (Fv s4 λy hy=>by obtain⟨a,ha⟩:=s5 y hy;exact (List.getElem?_eq_some_iff.1 ha.arc).1) hE
 have HW:=zh (FR w1 nb g (ah T 0 0) F (nP T) c T.length PA pn pc (cp.out.below aF.out) pb _ HQ.out S s1 (λy hy=>by
  obtain⟨a,ha⟩:=s5 y hy
  obtain⟨k1,k2,-,-,k5,k6,k7⟩:=mU HD.out.ok (List.mem_of_getElem? ha.arc)
  obtain⟨n1,-,n3⟩:=HV.out.nn _ _ ha.arc
  refine⟨a,ha.arc,k1,k2,n1,by omega,k7,?_⟩
  by_cases h0:a.k=0
  ·have:=k5 h0;unfold aG;omega
  rw[k6 h0];exact Int.le_refl _) g2 (by omega))
 rw[hd] at HW s2 s3
 have go:=s3.cap HD.out
 have iF:=zh s3
 have H4:=zh s4
 have H5:=zh s5
 have H1:=zh s1
 have j3:=zh hd
 have im:Hid (ib (ah T 0 0) dl (fj d S F) true F' b'):=zh (by
  cases HPr.out with
  |done h9=>rw[Hx.out] at h9;omega
  |more _ h8 h9 =>
   obtain rfl:=h8.uniq s1
   rw[hd] at h9
   exact h9)
 clear s1 s3 s4 s5 hd
 have p1':=p1
 go_wp2_with (go_at_call 149;refine HW.out.mono ?_;rintro e w2 ⟨A,cS,rfl,dk,cL⟩;have f6:=zh dk;have bf:=zh cL;clear dk cL)
 have e7:=bf.out.size
 have d7:=zh ((cp.out.below aF.out).below bf.out)
 clear p1 p1'
 go_loopw [9,28] (λ_ s28 wr=>∃ k:Nat,s28=.int .i64 (k:Nat)/\k<=S.length/\Hid (ja wr g (ah T 0 0) (fj d (S.take k) F))/\Hid (Kx (λj=>j=g) w2 wr)) (λ_ s28 _=>S.length-(intOf s28).toNat)
 case atStart=>exact⟨0,rfl,Nat.zero_le _,zh d7.out.arcs,zh (Kx.refl _ _)⟩
 rename World=>wk
 obtain⟨k,rfl,hk,HE,bi⟩:=hrel
 by_cases aa:k<S.length
 ·obtain⟨mb,mo,y,rfl,g3,hy,et⟩:=(ag.of_own f6.out rfl).at_ (sz:=2) (λ_=>rfl) aa
  have kk:=(f6.out.lt mb rfl).1
  have g5:mb≠g:=by omega
  have gO:(k:Int)<(S.length:Int):=by omega
  have jf:(0:Int)<=(k:Int):=by omega
  obtain⟨a,ha⟩:=H5.out y (List.mem_of_getElem? hy)
  have cC:fj d (S.take k) F y.1=F y.1:=mT d _ F (Iw H4.out hy)
  have ci:=Em d F hy
  rw[cC] at ci
  obtain⟨n1,-,n3⟩:=HV.out.nn _ _ ha.arc
  have gT:=(List.getElem?_eq_some_iff.1 ha.arc).1
  obtain⟨i,q⟩:=y
  obtain⟨z,hz⟩:∃ z,F i=z:=⟨_,rfl⟩
  dsimp only at *
  rw[hz] at cC ci n1 n3
  have i1:(i:Int)<((ah T 0 0).length:Int):=by omega
  have i0:(0:Int)<=(i:Int):=by omega
  have c0:wk.cell? ⟨mb,mo+k*2,none⟩=some (.int .i64 (i:Nat)):=(World.cell?_of_block (w:=w2) (a:=⟨mb,mo+k*2,none⟩) (bi.out.block mb g3 g5)).trans (et 0 _ rfl)
  have c1:wk.cell? ⟨mb,mo+k*2+1,none⟩=some (.bool q):=(World.cell?_of_block (w:=w2) (a:=⟨mb,mo+k*2+1,none⟩) (bi.out.block mb g3 g5)).trans (et 1 _ rfl)
  obtain⟨wd,a9⟩:∃ wd,wk.alloc (.cells #[.int .i64 (i:Nat),.bool q] 246)=wd:=⟨_,rfl⟩
  have ad:Below wk.heap.size wk wd:=a9 ▸ ab wk _
  have bc:wd.heap[wk.heap.size]?=some (.cells #[.int .i64 (i:Nat),.bool q] 246 (0,0)):=a9 ▸ heap_alloc_new wk _
  obtain⟨q0,q1,-⟩:=ap bc
  have bv:=HE.out.on (ad.block _ HE.out.lt)
  obtain⟨-,-,-,-,-,c4,-,-,fz⟩:=bv.at_ ha.arc
  dsimp only at c4
  rw[cC] at c4
  have gg:wd.heap[nb]?=_:=(ad.block nb (Nat.lt_of_lt_of_le (Nat.lt_of_lt_of_le (Nat.lt_of_lt_of_le (Nat.lt_of_lt_of_le bg hA) cV) e7) bi.out.size)).trans ((bi.out.block nb (Nat.lt_of_lt_of_le (Nat.lt_of_lt_of_le (Nat.lt_of_lt_of_le bg hA) cV) e7) b9).trans d7.out.box)
  obtain⟨-,k1,-⟩:=an gg
  have f4:=fz (i*7+4)
  have b7:=zh a9
  have f1:=zh bv
  have f2:=zh (bi.out.below ad)
  have ga:=zh ci
  clear ad bc bv gg fz ci a9 et hz cC hy ha
  go_upto_region 6 with fail
  rw[b7.out]
  cases q with
  |true =>
   have e9:fj d (S.take (k+1)) F=aR (fj d (S.take k) F) i (z-d):=ga.out.trans (congrArg _ (by unfold fG;rw[if_pos rfl];omega))
   have HF:=zh (And.intro ((f1.out.set gT (z-d)).on (g:=g) rfl) ((f2.out.trans (aI wd g (i*7+4) (.int .i64 (z-d))) λ_ _ e=>e).drewV))
   rw[← e9] at HF
   clear e9
   go_upto_region 7 with fail
   go_region
   all_goals
    go_wp2_with fail
    exact⟨⟨k+1,by go_num,aa,zh HF.out.1,zh HF.out.2⟩,by simp[intOf];omega⟩
  |false =>
   have e9:fj d (S.take (k+1)) F=aR (fj d (S.take k) F) i (z+d):=ga.out.trans (congrArg _ (by unfold fG;rw[if_neg Bool.false_ne_true]))
   have HF:=zh (And.intro ((f1.out.set gT (z+d)).on (g:=g) rfl) ((f2.out.trans (aI wd g (i*7+4) (.int .i64 (z+d))) λ_ _ e=>e).drewV))
   rw[← e9] at HF
   clear e9
   go_upto_region 8 with fail
   go_region
   all_goals
    go_wp2_with fail
    exact⟨⟨k+1,by go_num,aa,zh HF.out.1,zh HF.out.2⟩,by simp[intOf];omega⟩
 obtain rfl:k=S.length:=by omega
 have gO:¬ (S.length:Int)<(S.length:Int):=by omega
 rw[List.take_length] at HE
 have ca:∀ j,j<w2.heap.size->j≠g->wk.heap[j]?=w2.heap[j]?:=λj hj hn=>bi.out.block j hj hn
 have eF:Kx (λj=>j=nb\/j=g) w wk:=((HK.out.below aF.out).below bf.out).trans bi.out λj _ e=>.inr e
 have dd:ii wk nb g (ah T 0 0) (fj d S F) (nP T) c T.length PA pn pc:=⟨(ca nb (by omega) b9).trans d7.out.box,HE.out⟩
 have fa:=aH (aH (aH HO.out λj hj=>aF.out.block j (kF HO.out hj)) λj hj=>bf.out.block j (Nat.lt_of_lt_of_le (kF HO.out hj) cV)) (w:=wk) λj hj=>ca j (Nat.lt_of_lt_of_le (Nat.lt_of_lt_of_le (kF HO.out hj) cV) e7) λe=>by
  have:=(HO.out.lt j hj).1
  omega
 obtain⟨wz,hB⟩:∃ wz,wk.alloc (.cells #[.int .i64 x,.int .i64 d] 248)=wz:=⟨_,rfl⟩
 have bj:Below wk.heap.size wk wz.drew:=(show Below wk.heap.size wk wz from hB ▸ ab wk _).drew
 have HM:=zh (λ(A7:Option Addr) (c7:Nat) (w7:World) (ys:List Value) h1 h2=>FQ (A7:=A7) (c7:=c7) (w7:=w7) (ys:=ys) ((dd.below bj)) (ai fa bj) bg a0 b9 (eF.below bj) h1 h2)
 have f8:=zh (ai fa bj)
 have iq:=zh (Sl.drew (Sl.new wk #[.int .i64 x,.int .i64 d] 248 2 1 rfl))
 have i5:=zh (show ∀ u∈[Value.int .i64 x,.int .i64 d],u.oneCell'=true from by intro u hu;simp at hu;rcases hu with rfl|rfl<;>rfl)
 obtain⟨-,-,-,k3,k4⟩:=an dd.box
 obtain⟨-,-,-,k3z,-⟩:=an (W:=wz) (dd.below bj).box
 have g1:lb<w1.heap.size:=bu.out.lt
 obtain⟨p1,-⟩:=(bu.out.on ((ca lb (by omega) (by omega)).trans (bf.out.block lb g1))).at_ (show 1<nP T by omega)
 obtain⟨p1z,-⟩:=(bu.out.on (w:=wz) ((bj.block lb (by have:=bi.out.size;omega)).trans ((ca lb (by omega) (by omega)).trans (bf.out.block lb g1)))).at_ (show 1<nP T by omega)
 rw[Hx.out] at p1 p1z
 have j1:w.heap.size<=wz.heap.size:=Nat.le_trans eF.size bj.size
 clear ca eF dd fa bj
 subst hB
 have h6:Hid ((wk.alloc (.cells #[.int .i64 x,.int .i64 d] 248)).drew.ownsRow w.heap.size 248 2 (.slice PA pn pc) pn xs):=f8
 clear f8
 go_upto_region 10 with fail
 go_region_law ((refine er rfl (.tmp 65) (.tmp 71) 234 rfl GY w.heap.size (.slice PA pn pc) pn _ ?_ h6.out (some ⟨wk.heap.size,0,none⟩) 1 1 [.int .i64 x,.int .i64 d] ?_ iq.out i5.out (by unfold maxLen;omega) (by omega) j1 ?_;(· (simp[Act.eval]));(· (simp[Act.eval]));intro A7 c7 w7 bt bq _;obtain⟨⟨v7,tc,tf⟩,g7,cc,g0⟩:=HM.out A7 c7 w7 _ bt bq;have hO:=zh g7;have hQ:=zh cc;have hL:=zh g0;clear bt bq g7 cc g0))
 all_goals
  go_wp2_with fail
  go_roundg (gk-1)
  case measure=>omega
  case rel=>exact⟨fj d S F,V+d,Q+d,true,_,A7,pn+1,c7,_,by omega,by omega,by omega,by omega,iF,im,hO,hQ,zh (by simp),hL⟩
end
end
section
section
open Go.RowKit
structure uy(T:List Tk)(dl:Int)(F:Nat->Int)(m:List (Nat×Nat×Int)):Prop where
 g:zu (aq (ah T 0 0) F 0++aU m) (nP T)
 i1:(1,0,-dl)∈m
 ex:∃ f,Ct (aq (ah T 0 0) F 0++aU m) (nP T) dl f
theorem uy.next{T:List Tk}{dl:Int}(hD:Dl T dl){F:Nat->Int}(hF:∀ (j:Nat) (a:Ac),(ah T 0 0)[j]?=some a->0<=F j/\F j<aG){m:List (Nat×Nat×Int)}(h:uy T dl F m){i:Nat}{t:Tk}(hi:T[i]?=some t) :
 uy T dl F (m++[(bI i,eI i,eR (aq (ah T 0 0) F 0++aU m) i t.N)])/\t.C<=eR (aq (ah T 0 0) F 0++aU m) i t.N/\eR (aq (ah T 0 0) F 0++aU m) i t.N<=t.N:=by
 obtain⟨f,hf⟩:=h.ex
 have aa:=(List.getElem?_eq_some_iff.1 hi).1
 obtain⟨d1,d2,-,f',i8⟩:=xc hD (λc hc=>List.mem_append_left _ hc) hF hf h.g (List.mem_append_right _ (List.mem_map.2 ⟨_,h.i1,rfl⟩)) hi
 have ci:=hD.ok.tk i t hi
 have hC:aq (ah T 0 0) F 0++aU (m++[(bI i,eI i,eR (aq (ah T 0 0) F 0++aU m) i t.N)])=(aq (ah T 0 0) F 0++aU m)++[⟨bI i,eI i,eR (aq (ah T 0 0) F 0++aU m) i t.N,(0,false)⟩]:=by
  unfold aU
  rw[List.map_append,List.append_assoc]
  rfl
 refine⟨⟨?_,List.mem_append_left _ h.i1,f',by rw[hC];exact i8⟩,d1,d2⟩
 rw[hC]
 intro c hc
 rcases List.mem_append.1 hc with hc|hc
 ·exact h.g c hc
 rw[List.mem_singleton] at hc
 subst hc
 exact⟨by unfold bI nP;dsimp only;omega,by unfold eI nP;dsimp only;omega,by dsimp only;omega,by dsimp only;omega⟩
theorem xW{W w':World}{b1 b2 e1 e2 s1 s2 n1 n2:Nat}{v1 v2:Value}{x1 x2:List Value}(h1:W.ownsRow b1 e1 s1 v1 n1 x1)(h2:W.ownsRow b2 e2 s2 v2 n2 x2)(c9:e1≠e2)(hg:W.grownBy w' v2.ownBlock):w'.ownsRow b1 e1 s1 v1 n1 x1:=by
 refine aH h1 λg gI=>hg.block g (kF h1 gI) λe=>?_
 obtain⟨C1,e3⟩:=a8 h1 gI
 obtain⟨C2,e4⟩:=a8 h2 e.symm
 rw[e3] at e4
 simp only[Option.some.injEq,Obj.cells.injEq] at e4
 exact c9 e4.2.1
theorem E1:(Tryz.prog.info? 238).map (λi=>(i.zero,i.size,i.bytes))=some (some (.agg #[.int .i64 0,.int .i64 0,.int .i64 0,.int .i64 0,.int .i64 0,.int .i64 0,.int .i64 0]),7,56):=by kernel_rfl
theorem EH:au Tryz.prog 27 3 1 8:=au.of (z:=.int .i64 0) Tryz.underlying27 (by kernel_rfl) rfl (by omega)
theorem xe:au Tryz.prog 233 238 7 56:=au.of (z:=.agg #[.int .i64 0,.int .i64 0,.int .i64 0,.int .i64 0,.int .i64 0,.int .i64 0,.int .i64 0]) Tryz.underlying233 E1 rfl (by omega)
theorem Dn(w:World)(nb g:Nat)(dl:Int)(c:Nat)(PA:Option Addr)(pn pc:Nat)(F:Nat->Int)(A:Option Addr)(n cA:Nat)(L:List (RT×Option Addr×Nat))(hT:fQ w A n L)(T:List Tk)(es:(L.map (·.1)).map RT.tk=T)(hD:Dl T dl)(hF:∀ (j:Nat) (a:Ac),(ah T 0 0)[j]?=some a->0<=F j/\F j<aG)
 (hN:ii w nb g (ah T 0 0) F (nP T) c T.length PA pn pc) (hE:(ah T 0 0).length<=100000) (hm:uy T dl F (dX dl (decide (0<pn)))) :
 Calls Tryz.prog 59 #[.pointer (some ⟨nb,0,none⟩),.slice A n cA,.int .i64 dl] w λe w'=>∃ Ad cd,e=.returned (.slice Ad n cd)/\w'.ownsRow w.heap.size 3 1 (.slice Ad n cd) n ((ez (aq (ah T 0 0) F 0) T 0 (dX dl (decide (0<pn)))).flatMap ak)/\Below w.heap.size w w':=by
 refine ae ?_
 intro R hR
 have HR:=zh hR.out
 have HT:=zh hT
 have HD:=zh hD
 have HN:=zh hN
 have d5:=zh hm
 have bg:=(Array.getElem?_eq_some_iff.1 hN.box).1
 have js:=nX hD
 have kl:=hD.r
 have hn:n=T.length:=by rw[← es,List.length_map,List.length_map];exact hT.len
 have Hn:=zh hn
 have i4:=zh (show ∀ (k:Nat) (x:RT×Option Addr×Nat),L[k]?=some x->T[k]?=some x.1.tk from λk x hx=>by rw[← es,List.getElem?_map,List.getElem?_map,hx];rfl)
 have ku:n<=32:=hn ▸ hD.ok.l2
 have hK:=zh hF
 obtain⟨-,-,-,k3,-⟩:=an hN.box
 clear hR hT hD hN hm hn hF es
 go_enter Tryz.func59,Tryz.ntmps59
 go_upto_region 1 with fail
 have cq:=zh (gW w #[.int .i64 1,.int .i64 0,.int .i64 (-dl),.int .i64 0,.int .i64 0,.int .i64 0,.int .i64 0] 238 7 1 w.heap.size rfl (Nat.le_refl _) (by unfold maxLen;omega))
 have k3z:=(World.cell?_alloc_lt w (.cells #[.int .i64 1,.int .i64 0,.int .i64 (-dl),.int .i64 0,.int .i64 0,.int .i64 0,.int .i64 0] 238) ⟨nb,3,none⟩ bg).trans k3
 go_upto_region 2 with fail
 obtain⟨w1,ds⟩:∃ w1,w.alloc (.cells #[.int .i64 1,.int .i64 0,.int .i64 (-dl),.int .i64 0,.int .i64 0,.int .i64 0,.int .i64 0] 238)=w1:=⟨_,rfl⟩
 have cI:Below w.heap.size w w1:=ds ▸ ab w _
 have aF:=zh cI
 have f9:=zh ds
 rw[ds] at cq k3z
 rw[f9.out]
 clear ds cI k3
 have jT:=aF.out.size
 go_upto_if 24 with fail
 obtain⟨q,hq⟩:∃ q,decide (0<pn)=q:=⟨_,rfl⟩
 rw[hq]
 have Hq:=zh hq
 clear hq
 go_cut [7] from 25 to 29 (λs7 wx=>∃ (m:List (Nat×Nat×Int)) (Am:Option Addr) (cm:Nat),s7=.slice Am m.length cm/\m.length<=2/\Hid (m=dX dl (decide (0<pn)))/\Hid (wx.ownsRow w.heap.size 238 7 (.slice Am m.length cm) m.length (m.flatMap C7))/\Hid (Below w.heap.size w wx))
 case first =>
  cases q with
  |true =>
   have h0:=of_decide_eq_true Hq.out
   have f5:=zh (ai cq.out (ab w1 (.cells #[.int .i64 0,.int .i64 1,.int .i64 dl,.int .i64 0,.int .i64 0,.int .i64 0,.int .i64 0] 238)))
   go_wp2_with (at_builtin;go_loud (refine ax rfl (.tmp 25) (.tmp 28) _ rfl xe w.heap.size _ _ _ rfl f5.out _ _ _ _ rfl (Sl.new _ _ _ 7 1 rfl) (by simp[Value.oneCell']) (by unfold maxLen;omega) (by omega) (by simp;omega) ?_;intro A2 c2 w2 dk i9 _))
   go_meet
   refine⟨[(1,0,-dl),(0,1,dl)],A2,c2,rfl,Nat.le_refl _,zh (by unfold dX;rw[if_pos (decide_eq_true h0)]),zh dk,zh (aL (aF.out.trans ((ab w1 _).mono aF.out.size)) f5.out (Nat.le_refl _) (by simp;omega) i9)⟩
  |false =>
   have h0:=of_decide_eq_false Hq.out
   go_wp2_with fail
   go_meet
   exact⟨[(1,0,-dl)],_,1,rfl,Nat.le_succ _,zh (by unfold dX;rw[if_neg (by simp;omega)]),cq,aF⟩
 rename World=>w2
 obtain⟨m0,Am0,cm0,rfl,jk,HM,b6,bf⟩:=hcut
 rw[← HM.out] at d5 HR
 clear cq aF f9 jT k3z
 have ij:=zh (λ(W:World) (hb:Below w.heap.size w W) (r:Nat) (Am:Option Addr) (cm:Nat) (m:List (Nat×Nat×Int)) (hr:r<nP T) (hM:uy T dl F m) (g6:m.length<=1000) (ho:W.ownsRow w.heap.size 238 7 (.slice Am m.length cm) m.length (m.flatMap C7))=>by
  obtain⟨f,hf⟩:=hM.ex
  exact vy W nb g (ah T 0 0) F (nP T) c T.length PA pn pc (HN.out.below hb) r Am m.length cm m (ag.of_own ho rfl) (hf.cf HD.out hM.g hr) (by omega) g6 hE)
 have bS:=zh (λ(m:List (Nat×Nat×Int)) (hM:uy T dl F m) (k:Nat) (hk:k<n)=>show (cK (aq (ah T 0 0) F 0++aU m) (bB (eI k))).L (bI k)≠aJ->-1000000000000<=(cK (aq (ah T 0 0) F 0++aU m) (bB (eI k))).L (bI k)/\(cK (aq (ah T 0 0) F 0++aU m) (bB (eI k))).L (bI k)<=1000000 from λc9=>by
  obtain⟨f,hf⟩:=hM.ex
  have cT:=hf.cf HD.out hM.g (r:=eI k) (by unfold eI nP;have:=Hn.out;omega)
  have h1:=cT.dn cT.fin.1 c9
  have h2:=cT.hi cT.fin.1 c9
  omega)
 go_wp2_with fail
 go_loopw [7,8,9,10,11,12,13,14,32] (λs7 s8 _ _ _ _ _ _ s32 wr=>∃ (k:Nat) (m:List (Nat×Nat×Int)) (D:List Int) (Am:Option Addr) (cm:Nat) (Ad:Option Addr) (cd:Nat),s32=.int .i64 (k:Nat)/\s7=.slice Am m.length cm/\s8=.slice Ad k cd/\k<=n/\m.length<=2+k/\Hid (uy T dl F m)/\Hid (D++ez (aq (ah T 0 0) F 0) (T.drop k) k m=ez (aq (ah T 0 0) F 0) T 0 m0)/\Hid (wr.ownsRow w.heap.size 238 7 (.slice Am m.length cm) m.length (m.flatMap C7))/\Hid (wr.ownsRow w.heap.size 3 1 (.slice Ad k cd) k (D.flatMap ak))/\Hid (Below w.heap.size w wr)) (λ_ _ _ _ _ _ _ _ s32 _=>n-(intOf s32).toNat)
 case atStart=>exact⟨0,m0,[],Am0,cm0,none,0,rfl,rfl,rfl,Nat.zero_le _,jk,d5,zh rfl,b6,zh (World.ownsRow_nil _ _ _ _),bf⟩
 rename World=>wb
 clear HM b6 bf d5
 obtain⟨k,m,D,Am,cm,Ad,cd,rfl,rfl,rfl,hk,g6,d6,fo,b6,cr,cl⟩:=hrel
 by_cases aa:k<n
 ·obtain⟨b,o,x,rfl,hb,hx,⟨c0,c1,c2,c3⟩,wd,a9,ad,bc⟩:=(HT.out.below cl.out).nx aa
  have bE:=i4.out k x hx
  obtain⟨e8,i7,go⟩:=d6.out.next HD.out hK.out bE
  have ej:=bS.out m d6.out k aa
  obtain⟨-,l9,ma,-⟩:=HD.out.ok.tk k _ bE
  have lf:=(HD.out.ok.tk k _ bE).1
  have gw:ez (aq (ah T 0 0) F 0) (T.drop k) k m=eR (aq (ah T 0 0) F 0++aU m) k x.1.N :: ez (aq (ah T 0 0) F 0) (T.drop (k+1)) (k+1) (m++[(bI k,eI k,eR (aq (ah T 0 0) F 0++aU m) k x.1.N)]):=by
   rw[List.drop_eq_getElem_cons (List.getElem?_eq_some_iff.1 bE).1,(List.getElem?_eq_some_iff.1 bE).2]
   rfl
  have bp:=fo.out
  rw[gw] at bp
  have cn:=zh (cl.out.trans (ad.mono cl.out.size))
  have ih:=zh (ij.out wd cn.out (eI k) Am cm m (by unfold eI nP;have:=Hn.out;omega) d6.out (by omega) (ai b6.out ad))
  have hY:=zh (ai b6.out ad)
  have hU:=zh (ai cr.out ad)
  have b7:=zh a9
  have ei:=zh bc
  have fc:=zh bp
  obtain⟨y,hy⟩:∃ y,(cK (aq (ah T 0 0) F 0++aU m) (bB (eI k))).L (bI k)=y:=⟨_,rfl⟩
  have HY:=zh hy
  obtain⟨d,hd⟩:∃ d,eR (aq (ah T 0 0) F 0++aU m) k x.1.N=d:=⟨_,rfl⟩
  have bw:(if y=aJ then x.1.N else min x.1.N (-y))=d:=by rw[← hd,← hy];rfl
  have hJ:=zh bw
  have e1:eR (aq (ah T 0 0) F 0++aU m) k x.1.tk.N=d:=hd
  rw[e1] at e8 i7 go
  rw[hd] at fc
  rw[hy] at ej
  have hP:=zh e8
  have i1:(k:Int)<(n:Int):=by omega
  have i0:(0:Int)<=(k:Int):=by omega
  have j0:=cn.out.size
  obtain⟨d0,-⟩:=an bc
  have dt:=(Array.getElem?_eq_some_iff.1 bc).1
  have b1:(bI k:Int)<(nP T:Int):=by unfold bI nP;have:=Hn.out;omega
  have b0:(0:Int)<=(bI k:Int):=by omega
  obtain⟨⟨N,C,Rt,As⟩,Ax,cx⟩:=x
  dsimp only[RT.tk] at *
  clear hx a9 ad bc bE e8 gw bp hy hd bw e1
  go_upto_region 8 with fail
  rw[b7.out]
  go_upto_region 9 with (first
   |(go_at_call 147;refine (iQ _ k (by omega)).mono ?_;rintro e _ ⟨rfl,rfl⟩)
   |(go_at_call 148;refine ih.out.mono ?_;rintro e w4 ⟨lb,pb,l1,l2,rfl,hl,-,gb⟩;have bu:=zh hl;have cj:=zh gb;clear hl gb))
  obtain⟨d0,-⟩:=an ((cj.out.block _ dt).trans ei.out)
  obtain⟨p1,-⟩:=bu.out.at_ (show bI k<nP T by omega)
  rw[HY.out] at p1
  go_upto_if 53 with (go_at_call 146;refine (gR _ k (by omega)).mono ?_;rintro e _ ⟨rfl,rfl⟩)
  rename World=>w4
  obtain⟨q2,bk⟩:∃ q2,(y != -1125899906842624)=q2:=⟨_,rfl⟩
  rw[bk]
  have i6:=zh bk
  clear bk
  go_cut [13] from 54 to 57 (λs13 wx=>s13=.int .i64 d/\wx=w4)
  case first =>
   have bw:=hJ.out
   have bk:=i6.out
   cases q2 with
   |false =>
    have e:y=aJ:=by simpa[aJ] using bk
    rw[if_pos e] at bw
    subst bw
    clear bk e
    go_wp2_with fail
    go_meet
    exact⟨rfl,rfl⟩
   |true =>
    have e:y≠aJ:=by simpa[aJ] using bk
    rw[if_neg e] at bw
    obtain⟨h1,h2⟩:=ej e
    clear bk e
    go_wp2_with fail
    all_goals
     go_meet
     exact⟨congrArg _ (by omega),rfl⟩
  rename World=>w5
  obtain⟨rfl,rfl⟩:=hcut
  clear c0 c1 c2 c3 d0 p1 ej
  have ct:=cn.out.trans (cj.out.mono cn.out.size)
  have cN:=ab w5 (.cells #[.int .i64 d] 3)
  have hH:=zh (ct.trans (cN.mono ct.size))
  have ec:=zh (ai (ai hU.out cj.out) cN)
  have hZ:=zh (ai (ai hY.out cj.out) cN)
  have k0:=ct.size
  clear ct cN
  go_upto_region 14 with (at_builtin;refine ax rfl (.tmp 58) (.tmp 60) _ rfl EH w.heap.size _ _ _ rfl ec.out _ _ _ _ rfl (Sl.new _ _ _ 1 1 rfl) (by simp[Value.oneCell']) (by unfold maxLen;omega) (by omega) (by simp;omega) ?_;intro A6 c6 w6 he ev _;have hV:=zh he;have h4:=zh (xW hZ.out ec.out (by decide) ev);have dx:=zh (aL hH.out ec.out (Nat.le_refl _) (by simp;omega) ev);clear he ev)
  have cO:=ab w6 (.cells #[.int .i64 (bI k:Nat),.int .i64 (eI k:Nat),.int .i64 d,.int .i64 0,.int .i64 0,.int .i64 0,.int .i64 0] 238)
  have hI:=zh (dx.out.trans (cO.mono dx.out.size))
  have hW:=zh (ai hV.out cO)
  have eg:=zh (ai h4.out cO)
  have k8:=dx.out.size
  clear cO
  go_upto_region 15 with (first
   |(go_at_call 146;refine (gR _ k (by omega)).mono ?_;rintro e _ ⟨rfl,rfl⟩)
   |(go_at_call 147;refine (iQ _ k (by omega)).mono ?_;rintro e _ ⟨rfl,rfl⟩)
   |(at_builtin;refine ax rfl (.tmp 62) (.tmp 69) _ rfl xe w.heap.size _ _ _ rfl eg.out _ _ _ _ rfl (Sl.new _ _ _ 7 1 rfl) (by simp[Value.oneCell']) (by unfold maxLen;omega) (by omega) (by simp;omega) ?_;intro A8 c8 w8 cc eB _;have h5:=zh cc;have hX:=zh (xW hW.out eg.out (by decide) eB);have dz:=zh (aL hI.out eg.out (Nat.le_refl _) (by simp;omega) eB);clear cc eB))
  have HF:=zh (show (D++[d])++ez (aq (ah T 0 0) F 0) (T.drop (k+1)) (k+1) (m++[(bI k,eI k,d)])=ez (aq (ah T 0 0) F 0) T 0 m0 from by rw[List.append_assoc];exact fc.out)
  go_wp2_with fail
  exact⟨⟨k+1,m++[(bI k,eI k,d)],D++[d],A8,c8,A6,c6,by go_num,by rw[List.length_append];rfl,rfl,aa,by rw[List.length_append,List.length_singleton];omega,hP,HF,zh (by rw[List.flatMap_append,List.length_append];exact h5.out),zh (by rw[List.flatMap_append];exact hX.out),dz⟩,by simp[intOf];omega⟩
 obtain rfl:k=n:=by omega
 have i1:¬ (k:Int)<(k:Int):=by omega
 have bp:=fo.out
 rw[List.drop_eq_nil_of_le (by have:=Hn.out;omega)] at bp
 have gs:D=ez (aq (ah T 0 0) F 0) T 0 m0:=by rw[← bp];exact (List.append_nil _).symm
 have HF:=zh (HR.out (.returned (.slice Ad k cd)) wb ⟨Ad,cd,rfl,by rw[← gs];exact cr.out,cl.out⟩)
 clear bp gs
 go_wp2_with fail
 exact HF.out
end
end
end Go.Proofs.YtgbnicokglpdbaaGreatDoor
