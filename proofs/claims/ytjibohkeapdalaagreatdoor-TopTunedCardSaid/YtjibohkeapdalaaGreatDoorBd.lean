/-
  Contracts of temper's circle.next and circle.bounds; each states its condition. The contract of temper's circle.best: the least cost of all that is behind, and the least step that leads to it; condition: the table's next row holds the least costs of the next place.
-/
import Derived.Test.YtjibohkeapdalaaGreatDoorBc
namespace Go.Proofs.YtjibohkeapdalaaGreatDoor
set_option maxHeartbeats 8000000
set_option maxRecDepth 8000
section
open Go.RowKit
theorem circ13{r:Rg}{A B D:Option Addr}{n c m d q e:Nat}{rv:Value}{W:World}{b:Nat}(h:W.heap[b]?=some (.cells #[.int .i64 r.N,.int .i64 r.S,.int .i64 r.low,.int .i64 r.high,.int .i64 r.total,.int .i64 r.pure,.int .i64 r.worst,.slice A n c,.slice B m d,.slice D q e,.int .i64 (r.codes:Nat),.int .i64 (r.sums:Nat),rv] 108)) :
 W.cell? ⟨b,0,none⟩=some (.int .i64 r.N)/\W.cell? ⟨b,1,none⟩=some (.int .i64 r.S)/\W.cell? ⟨b,2,none⟩=some (.int .i64 r.low)/\W.cell? ⟨b,3,none⟩=some (.int .i64 r.high)/\W.cell? ⟨b,4,none⟩=some (.int .i64 r.total)/\W.cell? ⟨b,5,none⟩=some (.int .i64 r.pure)/\W.cell? ⟨b,6,none⟩=some (.int .i64 r.worst)/\W.cell? ⟨b,7,none⟩=some (.slice A n c)/\W.cell? ⟨b,8,none⟩=some (.slice B m d)/\
 W.cell? ⟨b,9,none⟩=some (.slice D q e)/\W.cell? ⟨b,10,none⟩=some (.int .i64 (r.codes:Nat))/\W.cell? ⟨b,11,none⟩=some (.int .i64 (r.sums:Nat))/\W.cell? ⟨b,12,none⟩=some rv/\(∀ j,W.frozen? ⟨b,j,none⟩=false):=by
 have key:∀ (j:Nat) (v:Value),(#[.int .i64 r.N,.int .i64 r.S,.int .i64 r.low,.int .i64 r.high,.int .i64 r.total,.int .i64 r.pure,.int .i64 r.worst,.slice A n c,.slice B m d,.slice D q e,.int .i64 (r.codes:Nat),.int .i64 (r.sums:Nat),rv]:Array Value)[j]?=some v->W.cell? ⟨b,j,none⟩=some v:=λj v hv=>by rw[cell_of_row _ _ j _ _ (0,0) h];exact hv
 exact⟨key 0 _ rfl,key 1 _ rfl,key 2 _ rfl,key 3 _ rfl,key 4 _ rfl,key 5 _ rfl,key 6 _ rfl,key 7 _ rfl,key 8 _ rfl,key 9 _ rfl,key 10 _ rfl,key 11 _ rfl,key 12 _ rfl,λj=>by simp[World.frozen?,h]⟩
theorem codes_64{r:Rg}(hr:r.Ok):1<=r.codes/\r.codes<=64:=by
 unfold Rg.codes
 have h1:=hr.s1
 have h2:=hr.s2
 obtain e|e|e:r.S=2\/r.S=3\/r.S=4:=by omega
 all_goals rw[e];decide
theorem offC_bd{r:Rg}(hr:r.Ok)(code:Nat){a:Int}(ha:r.low<=a/\a<=r.low+3):∀ k,k<=3->-160<=r.offC code a k/\r.offC code a k<=160:=by
 have key:∀ k:Nat,-(115+15*(k:Int))<=r.offC code a k/\r.offC code a k<=115+15*(k:Int):=by
  have h1:=hr.p1
  have h2:=hr.p2
  have h3:=hr.l1
  have h4:=hr.l2
  intro k
  induction k with
  |zero=>simp only[Rg.offC];omega
  |succ k ih =>
   have h:=Nat.mod_lt (code/4 ^ k) (show 4 > 0 by omega)
   rw[Rg.offC]
   omega
 intro k hk
 have:=key k
 omega
def Rg.priceC(r:Rg)(code t:Nat)(a:Int):Int:=
 r.th.getD ((t-(r.S-1))%r.N) 0*r.offC code a (r.S-1)*r.offC code a (r.S-1)+if t<r.N then r.fi.getD t 0*a*a else 0
theorem priceC_bd{r:Rg}(hr:r.Ok)(code t:Nat){a:Int}(ha:r.low<=a/\a<=r.low+3):0<=r.priceC code t a/\r.priceC code t a<=30000000:=by
 have h1:=hr.l1
 have h2:=hr.l2
 have h3:=hr.s2
 have ho:=offC_bd hr code ha (r.S-1) (by omega)
 have k1:=(wss_bd (wt_1000 hr ((t-(r.S-1))%r.N)).2 ho (by omega)).2
 have k2:=(wss_bd (S:=15) (wt_1000 hr t).1 (show -15<=a/\a<=15 by omega) (by omega)).2
 unfold Rg.priceC
 split<;>omega
theorem next_any(r:Rg)(hr:r.Ok)(A B D:Option Addr)(n c m d q e:Nat)(rv:Value)(b code t:Nat)(a:Int)(w:World)(hC:w.heap[b]?=some (.cells #[.int .i64 r.N,.int .i64 r.S,.int .i64 r.low,.int .i64 r.high,.int .i64 r.total,.int .i64 r.pure,.int .i64 r.worst,.slice A n c,.slice B m d,.slice D q e,.int .i64 (r.codes:Nat),.int .i64 (r.sums:Nat),rv] 108))(hF:SlE intE 1 w A n r.fi)(hT:SlE intE 1 w B m r.th)
 (hcode:code<r.codes) (ht1:r.S<=t+1) (ht2:t+1<r.N+r.S) (ha:r.low<=a/\a<=r.low+3) :
 Calls Tryz.prog 76 #[.pointer (some ⟨b,0,none⟩),.int .i64 (code:Nat),.int .i64 (t:Nat),.int .i64 a] w λen w' =>
  en=.returned (.tuple #[.int .i64 (((code*4+(a-r.low).toNat)%r.codes:Nat):Int),.int .i64 (r.priceC code t a),.bool (inBT (r.offC code a (r.S-1)) (-r.worst) r.worst)])/\Below w.heap.size w w':=by
 refine calls_cps ?_
 intro R hR
 have Hfin:=zh (show ∀ W' P E,Below (w.heap.size+1) (w.alloc (.cells #[.int .i64 r.N,.int .i64 r.S,.int .i64 r.low,.int .i64 r.high,.int .i64 r.total,.int .i64 r.pure,.int .i64 r.worst,.slice A n c,.slice B m d] 24)) W'->P=r.priceC code t a->E=r.offC code a (r.S-1)->R (.returned (.tuple #[.int .i64 (((code*4+(a-r.low).toNat)%r.codes:Nat):Int),.int .i64 P,.bool (inBT E (-r.worst) r.worst)])) W' from λW' P E hb hp he=>by
  rw[he,hp]
  exact hR.out _ _ ⟨rfl,(below_new w _).trans (hb.mono (by omega))⟩)
 clear hR
 have Hok:=zh hr
 have Hn:=zh (hF.1.trans hr.fl)
 have Hm:=zh (hT.1.trans hr.tl)
 obtain⟨hc1,hc2⟩:=codes_64 hr
 have Ha:=zh ha
 obtain⟨a1,a2⟩:=ha
 have hbl:b<w.heap.size:=(Array.getElem?_eq_some_iff.1 hC).1
 have Hoff:=zh (λk hk=>offC_bd hr code Ha.out k hk)
 have Hwt:=zh (λi=>wt_1000 hr i)
 obtain⟨c0,c1,c2,c3,c4,c5,c6,c7,c8,c9,c10,c11,c12,cf⟩:=circ13 hC
 obtain⟨n1,n2,s1,s2,s3,l1,l2,h1,h2,t1,t2,p1,p2,w1,w2,fl,tl,fw,tw⟩:=hr
 clear fl tl fw tw
 go_enter Tryz.func76,Tryz.ntmps76
 go_wp2_with fail
 go_loop [12,13,14] (λs12 s13 s14=>∃ (k X:Nat) (E:Int),k+1<=r.S/\s13=.int .i64 (k:Nat)/\s14=.int .i64 (X:Nat)/\X<=64/\s12=.int .i64 E/\-160<=E/\E<=160/\Hid (X=code/4 ^ k/\E=r.offC code a k)) (λ_ i _=>r.S-(intOf i).toNat)
 case atStart=>exact⟨0,code,r.pure-a,by omega,rfl,rfl,by omega,rfl,by omega,by omega,zh ⟨by simp,rfl⟩⟩
 case round =>
  obtain⟨k,X,E,hk,rfl,rfl,hX,rfl,E1,E2,HX⟩:=hrel
  by_cases hlt:k+1<r.S
  ·have hb:=Hoff.out (k+1) (by omega)
   have he:r.offC code a (k+1)=E-((X:Int)%4+r.low):=by rw[Rg.offC,← HX.out.2,← HX.out.1];simp
   rw[he] at hb
   have HX2:=zh (And.intro (show X/4=code/4 ^ (k+1) by rw[HX.out.1,Nat.div_div_eq_div_mul,Nat.pow_succ]) he.symm)
   clear he
   go_wp2_with fail
   exact⟨⟨k+1,X/4,E-((X:Int)%4+r.low),by omega,by go_num,by simp,by omega,rfl,by omega,by omega,HX2⟩,by simp[intOf];omega⟩
  ·obtain⟨k',hk'⟩:∃ k',r.S=k'+1:=⟨r.S-1,by omega⟩
   have hkk:k=r.S-1:=by omega
   have HE:=zh (show E=r.offC code a (r.S-1) by rw[HX.out.2,hkk])
   obtain⟨J,hJ⟩:∃ J,(t-(r.S-1))%r.N=J:=⟨_,rfl⟩
   have hJN:J<r.N:=by rw[← hJ];exact Nat.mod_lt _ (by omega)
   have hJi:((t:Int)-(r.S:Int)+1)%(r.N:Int)=(J:Int):=by
    rw[← hJ,show (t:Int)-(r.S:Int)+1=((t-(r.S-1):Nat):Int) by omega];simp
   have hJt:((t:Int)-(r.S:Int)+1).tmod (r.N:Int)=(J:Int):=by
    rw[Int.tmod_eq_emod_of_nonneg (by omega),hJi]
   obtain⟨b2,o2,y,rfl,hbl2,hy,g0⟩:=hT.at1 (k:=J) (by rw[Hm.out];exact hJN)
   have hyb:=(Hwt.out J).2
   rw[getD_some hy] at hyb
   obtain⟨⟨m5,m6⟩,m7,m8⟩:=wss_bd hyb ⟨E1,E2⟩ (by omega)
   have hJm : (J : Int) < (m : Int) := by have : J < m := (by rw [Hm.out]; exact hJN)
                                          omega
   have hJ0:(0:Int)<=(J:Int):=by omega
   have HP:=zh (show r.priceC code t a=y*E*E+if t<r.N then r.fi.getD t 0*a*a else 0 by unfold Rg.priceC;rw[← HE.out,hJ,getD_some hy])
   have Hfin:=zh (λW' P hb hp=>Hfin.out W' P E hb hp HE.out)
   obtain⟨Z,hZ⟩:∃ Z,(code*4+(a-r.low).toNat)%r.codes=Z:=⟨_,rfl⟩
   rw[hZ] at Hfin
   have hZi:((code:Int)*4+a-r.low)%(r.codes:Int)=(Z:Int):=by
    rw[← hZ,show (code:Int)*4+a-r.low=((code*4+(a-r.low).toNat:Nat):Int) by omega];simp
   have hZt:((code:Int)*4+a-r.low).tmod (r.codes:Int)=(Z:Int):=by
    rw[Int.tmod_eq_emod_of_nonneg (by omega),hZi]
   have hu1:IntKind.i64.wrap ((t:Int)-(r.S:Int))=(t:Int)-(r.S:Int):=IntWalk.i64_in _ (by omega)
   have hu2:IntKind.i64.wrap ((t:Int)-(r.S:Int)+1)=(t:Int)-(r.S:Int)+1:=IntWalk.i64_in _ (by omega)
   have hu3:IntKind.i64.wrap (y*E)=y*E:=IntWalk.i64_in _ (by omega)
   have hu4:IntKind.i64.wrap (y*E*E)=y*E*E:=IntWalk.i64_in _ (by omega)
   have hv1:IntKind.i64.wrap ((code:Int)*4)=(code:Int)*4:=IntWalk.i64_in _ (by omega)
   have hv2:IntKind.i64.wrap ((code:Int)*4+a)=(code:Int)*4+a:=IntWalk.i64_in _ (by omega)
   have hv3:IntKind.i64.wrap ((code:Int)*4+a-r.low)=(code:Int)*4+a-r.low:=IntWalk.i64_in _ (by omega)
   have hv4:IntKind.i64.wrap (-r.worst) = -r.worst:=IntWalk.i64_in _ (by omega)
   have hv5:IntKind.i64.wrap (J:Int)=J:=IntWalk.i64_in _ (by omega)
   have hv6:IntKind.i64.wrap (Z:Int)=Z:=IntWalk.i64_in _ (by have:=Nat.mod_lt (code*4+(a-r.low).toNat) (show 0<r.codes by omega);omega)
   have Hu:=zh (And.intro hu1 (And.intro hu2 (And.intro hu3 (And.intro hu4 (And.intro hJt (And.intro hJi hv5))))))
   have Hv:=zh (And.intro hv1 (And.intro hv2 (And.intro hv3 (And.intro hv4 (And.intro hZt (And.intro hZi hv6))))))
   clear hu1 hu2 hu3 hu4 hv1 hv2 hv3 hv4 hv5 hv6 hJt hJi hZt hZi hZ hJ hy hkk hk'
   by_cases hN:t<r.N
   ·obtain⟨b1,o1,x,rfl,hbl1,hx,f0⟩:=hF.at1 (k:=t) (by rw[Hn.out];exact hN)
    have hxb:=(Hwt.out t).1
    rw[getD_some hx] at hxb
    obtain⟨⟨m1,m2⟩,m3,m4⟩:=wss_bd (s:=a) (S:=15) hxb (by omega) (by omega)
    have htn : (t : Int) < (n : Int) := by have : t < n := (by rw [Hn.out]; exact hN)
                                           omega
    have HP2:=zh (show y*E*E+x*a*a=r.priceC code t a by rw[HP.out,if_pos hN,getD_some hx])
    clear hx HP
    have hu5:IntKind.i64.wrap (x*a)=x*a:=IntWalk.i64_in _ (by omega)
    have hu6:IntKind.i64.wrap (x*a*a)=x*a*a:=IntWalk.i64_in _ (by omega)
    have hu7:IntKind.i64.wrap (y*E*E+x*a*a)=y*E*E+x*a*a:=IntWalk.i64_in _ (by omega)
    have Hu2:=zh (And.intro hu5 (And.intro hu6 hu7))
    clear hu5 hu6 hu7
    go_wp2_with fail
    obtain⟨hu1,hu2,hu3,hu4,hJt,hJi,hv5⟩:=Hu.out
    go_quiet (fail)
    clear hu1 hu2 hu3 hu4 hJt hJi hv5
    go_wp2_with fail
    have Hf:=zh (λq q'=>Hfin.out _ _ (below_drewN (below_drewN (Below.refl _ _) q) q') HP2.out)
    clear Hfin
    obtain⟨hv1,hv2,hv3,hv4,hZt,hZi,hv6⟩:=Hv.out
    go_quiet ((go_at_call 70;exact (withinT_any _ _ _ _).mono λ_ _ ⟨h1,h2⟩=>⟨h1,_,h2.symm⟩))
    clear hv1 hv2 hv3 hv4 hZt hZi hv6
    go_wp2_with fail
    go_ret3
    exact Hf.out _ _
   ·have HP2:=zh (show y*E*E=r.priceC code t a by rw[HP.out,if_neg hN,Int.add_zero])
    clear HP
    go_wp2_with fail
    obtain⟨hu1,hu2,hu3,hu4,hJt,hJi,hv5⟩:=Hu.out
    go_quiet (fail)
    clear hu1 hu2 hu3 hu4 hJt hJi hv5
    go_wp2_with fail
    have Hf:=zh (λq q'=>Hfin.out _ _ (below_drewN (below_drewN (Below.refl _ _) q) q') HP2.out)
    clear Hfin
    obtain⟨hv1,hv2,hv3,hv4,hZt,hZi,hv6⟩:=Hv.out
    go_quiet ((go_at_call 70;exact (withinT_any _ _ _ _).mono λ_ _ ⟨h1,h2⟩=>⟨h1,_,h2.symm⟩))
    clear hv1 hv2 hv3 hv4 hZt hZi hv6
    go_wp2_with fail
    go_ret3
    exact Hf.out _ _
theorem bounds_any(r:Rg)(hr:r.Ok)(A B D:Option Addr)(n c m d q e:Nat)(rv:Value)(first:List Int)(b t:Nat)(w:World)(hC:w.heap[b]?=some (.cells #[.int .i64 r.N,.int .i64 r.S,.int .i64 r.low,.int .i64 r.high,.int .i64 r.total,.int .i64 r.pure,.int .i64 r.worst,.slice A n c,.slice B m d,.slice D q e,.int .i64 (r.codes:Nat),.int .i64 (r.sums:Nat),rv] 108))(hS:SlE intE 1 w D q first)(hq:q+1=r.S)
 (ht2:t+1<r.N+r.S) :
 Calls Tryz.prog 182 #[.pointer (some ⟨b,0,none⟩),.int .i64 (t:Nat)] w λen w' =>
  en=.returned (.tuple #[.int .i64 ((r.lay first).lo t),.int .i64 ((r.lay first).hi t)])/\Qt w w':=by
 refine calls_cps ?_
 intro R hR
 have Hq:=zh hq
 have hN:=hr.n2
 have hS4:=hr.s2
 obtain⟨c0,c1,c2,c3,c4,c5,c6,c7,c8,c9,c10,c11,c12,cf⟩:=circ13 hC
 by_cases hlt:t<r.N
 ·have Hf:=zh (show ∀ x,R (.returned (.tuple #[.int .i64 r.low,.int .i64 r.high])) (w.drewN x) from λx=>hR.out _ _ ⟨by simp[Rg.lay,hlt],⟨x,rfl⟩⟩)
  clear hR hq
  go_enter Tryz.func182,Tryz.ntmps182
  go_wp2_with fail
  go_quiet (fail)
  go_wp2_with fail
  exact Hf.out _
 ·obtain⟨j,rfl⟩:∃ j,t=r.N+j:=⟨t-r.N,by omega⟩
  have hj:j<q:=by omega
  obtain⟨bs,os,x,rfl,hbl,hx,s0⟩:=hS.at1 hj
  have Hf:=zh (show ∀ y,R (.returned (.tuple #[.int .i64 x,.int .i64 x])) (w.drewN y) from λy=>hR.out _ _ ⟨by simp only[Rg.lay];rw[if_neg hlt,if_neg hlt,Nat.add_sub_cancel_left,getD_some hx],⟨y,rfl⟩⟩)
  have hu1:IntKind.i64.wrap (((r.N+j:Nat):Int)-(r.N:Int))=(j:Int):=by rw[show ((r.N+j:Nat):Int)-(r.N:Int)=(j:Int) by omega];exact IntWalk.i64_in _ (by omega)
  have hu2:((r.N+j:Nat):Int)-(r.N:Int)=(j:Int):=by omega
  have hu4:(r.N:Int)+(j:Int)-(r.N:Int)=(j:Int):=by omega
  have hu3:IntKind.i64.wrap ((r.N:Int)+(j:Int)-(r.N:Int))=(j:Int):=by rw[hu4];exact IntWalk.i64_in _ (by omega)
  have hj1:(j:Int)<(q:Int):=by omega
  have hj0:(0:Int)<=(j:Int):=by omega
  have Hu:=zh (And.intro hu1 (And.intro hu2 (And.intro hu3 hu4)))
  clear hR hq hx hu1 hu2 hu3 hu4
  go_enter Tryz.func182,Tryz.ntmps182
  go_wp2_with fail
  obtain⟨hu1,hu2,hu3,hu4⟩:=Hu.out
  go_quiet (fail)
  clear hu1 hu2 hu3 hu4
  go_wp2_with fail
  exact Hf.out _
end
section
open Go.RowKit
def Rg.rowV(r:Rg)(first:List Int)(n t:Nat):List Int:=(List.range (r.codes*r.sums)).map λi=>(r.lay first).val n t (i/r.sums,i%r.sums)
theorem idx_lt{y up C S:Nat}(hy:y<C)(hu:up<S):y*S+up<C*S:=by
 have h:(y+1)*S<=C*S:=Nat.mul_le_mul_right S hy
 rw[Nat.add_mul,Nat.one_mul] at h
 omega
theorem rowV_get{r:Rg}{first:List Int}{n t y up:Nat}(hy:y<r.codes)(hu:up<r.sums):(r.rowV first n t)[y*r.sums+up]?=some ((r.lay first).val n t (y,up)):=by
 have h:=idx_lt hy hu
 unfold Rg.rowV
 rw[List.getElem?_map,List.getElem?_range h,Option.map_some,Nat.add_comm (y*r.sums),Nat.add_mul_div_right _ _ (by omega),Nat.add_mul_mod_self_right,Nat.div_eq_of_lt hu,Nat.mod_eq_of_lt hu,Nat.zero_add]
theorem lay_tr{r:Rg}{first:List Int}{t code sum:Nat}{a:Int}:(r.lay first).tr t (code,sum) a =
 if -r.worst<=r.offC code a (r.S-1)/\r.offC code a (r.S-1)<=r.worst/\(if t<r.N then sum+(a-r.low).toNat else sum)<r.sums then
  some (((code*4+(a-r.low).toNat)%r.codes,if t<r.N then sum+(a-r.low).toNat else sum),r.priceC code t a) else none:=rfl
theorem lay_rng{r:Rg}(hr:r.Ok){first:List Int}(hf:first.length+1=r.S)(hg:∀ x∈first,r.low<=x/\x<=r.high){t:Nat}(ht:t+1<r.N+r.S) :
 (r.low<=(r.lay first).lo t/\(r.lay first).hi t<=r.low+3)/\(r.lay first).lo t<=(r.lay first).hi t:=by
 have h1:=hr.h1
 have h2:=hr.h2
 simp only[Rg.lay]
 by_cases c:t<r.N
 ·rw[if_pos c,if_pos c];omega
 ·rw[if_neg c,if_neg c]
  have hi:t-r.N<first.length:=by omega
  have:=hg _ (List.getElem_mem hi)
  rw[List.getD_eq_getElem?_getD,List.getElem?_eq_getElem hi]
  simp only[Option.getD_some]
  omega
theorem pick_bd{σ:Type}{Y:Lay σ}{val:σ->Int}{t:Nat}{s:σ}{B:Int}{lo hi:Int}(hB : -1<=B)
 (h:∀ a s' p,lo<=a->a<=hi->Y.tr t s a=some (s',p)->0<=val s'->0<=p+val s'/\p+val s'<=B) :
 ∀ (n:Nat) (a:Int) (b:Int×Int),lo<=a->a+n<=hi+1->-1<=b.1/\b.1<=B->-1<=(Y.pick val t s n a b).1/\(Y.pick val t s n a b).1<=B
 |0,_,_,_,_,hb=>hb
 |n+1,a,b,h1,h2,hb=>by
  rw[Lay.pick]
  refine pick_bd hB h n (a+1) _ (by omega) (by omega) ?_
  cases htr:Y.tr t s a with
  |none=>exact hb
  |some z =>
   obtain⟨s1,p1⟩:=z
   dsimp only
   split
   ·rename_i hc
    have:=h a s1 p1 h1 (by omega) htr hc.1
    dsimp only
    omega
   ·exact hb
theorem val_bd{r:Rg}(hr:r.Ok){first:List Int}(hf:first.length+1=r.S)(hg:∀ x∈first,r.low<=x/\x<=r.high) :
 ∀ (n t:Nat) (s:Nat×Nat),n+t+1<=r.N+r.S->-1<=(r.lay first).val n t s/\(r.lay first).val n t s<=30000000*(n:Int)
 |0,t,s,_=>by rw[Lay.val];split<;>omega
 |n+1,t,s,h=>by
  rw[Lay.val]
  obtain⟨⟨l1,l2⟩,l3⟩:=lay_rng hr hf hg (t:=t) (by omega)
  refine pick_bd (lo:=(r.lay first).lo t) (hi:=(r.lay first).hi t) (by omega) (λa s' p ha1 ha2 htr h0=>?_) _ _ _ (Int.le_refl _) (by unfold Lay.cnt;omega) (by dsimp only;omega)
  have hv:=val_bd hr hf hg n (t+1) s' (by omega)
  obtain⟨c,sm⟩:=s
  rw[lay_tr] at htr
  by_cases hc : -r.worst<=r.offC c a (r.S-1)/\r.offC c a (r.S-1)<=r.worst/\(if t<r.N then sm+(a-r.low).toNat else sm)<r.sums
  ·rw[if_pos hc] at htr
   simp only[Option.some.injEq,Prod.mk.injEq] at htr
   have hp:=priceC_bd hr c t (a:=a) (by omega)
   rw[htr.2] at hp
   omega
  ·rw[if_neg hc] at htr;cases htr
def BstI(r:Rg)(first:List Int)(n t code sum:Nat)(a l wh:Int):Prop:=
 (r.lay first).pick ((r.lay first).val n (t+1)) t (code,sum) ((r.lay first).hi t-a+1).toNat a (l,wh)=(r.lay first).best n t (code,sum)
theorem BstI.skip{r:Rg}{first:List Int}{n t code sum:Nat}{a l wh:Int}(h:BstI r first n t code sum a l wh)(ha:a<=(r.lay first).hi t)(htr:(r.lay first).tr t (code,sum) a=none) :
 BstI r first n t code sum (a+1) l wh:=by
 unfold BstI at *
 rw[show ((r.lay first).hi t-a+1).toNat=((r.lay first).hi t-(a+1)+1).toNat+1 by omega,Lay.pick,htr] at h
 exact h
theorem BstI.step{r:Rg}{first:List Int}{n t code sum:Nat}{a l wh:Int}(h:BstI r first n t code sum a l wh)(ha:a<=(r.lay first).hi t){s':Nat×Nat}{p v:Int}(htr:(r.lay first).tr t (code,sum) a=some (s',p))
 (hv:(r.lay first).val n (t+1) s'=v) (l' wh':Int) (he:(if 0<=v/\(l<0\/p+v<l) then (p+v,a) else (l,wh))=(l',wh')) :
 BstI r first n t code sum (a+1) l' wh':=by
 subst hv
 unfold BstI at *
 rw[show ((r.lay first).hi t-a+1).toNat=((r.lay first).hi t-(a+1)+1).toNat+1 by omega,Lay.pick,htr] at h
 rw[← he]
 exact h
theorem BstI.fin{r:Rg}{first:List Int}{n t code sum:Nat}{a l wh:Int}(h:BstI r first n t code sum a l wh)(ha:(r.lay first).hi t<a):(r.lay first).best n t (code,sum)=(l,wh):=by
 unfold BstI at h
 rw[show ((r.lay first).hi t-a+1).toNat=0 by omega,Lay.pick] at h
 exact h.symm
theorem best_any(r:Rg)(hr:r.Ok)(A B D:Option Addr)(n c m d q e:Nat)(first:List Int)(hg:∀ x∈first,r.low<=x/\x<=r.high)(b rb g L K z code sum t:Nat)(w:World)
 (hC:w.heap[b]?=some (.cells #[.int .i64 r.N,.int .i64 r.S,.int .i64 r.low,.int .i64 r.high,.int .i64 r.total,.int .i64 r.pure,.int .i64 r.worst,.slice A n c,.slice B m d,.slice D q e,.int .i64 (r.codes:Nat),.int .i64 (r.sums:Nat),.slice (some ⟨rb,0,none⟩) L L] 108))
 (hF:SlE intE 1 w A n r.fi) (hT:SlE intE 1 w B m r.th) (hS:SlE intE 1 w D q first) (hq:q+1=r.S)
 (hrow:w.cell? ⟨rb,t+1,none⟩=some (.slice (some ⟨g,0,none⟩) K K)) (hK:K=r.codes*r.sums) (hL:L=r.N+r.S) (hV:SlE intE 1 w (some ⟨g,0,none⟩) K (r.rowV first z (t+1))) (hz:z+t+2=r.N+r.S)
 (hcode:code<r.codes) (hsum:sum<r.sums) (ht1:r.S<=t+1) :
 Calls Tryz.prog 75 #[.pointer (some ⟨b,0,none⟩),.int .i64 (code:Nat),.int .i64 (sum:Nat),.int .i64 (t:Nat)] w λen w' =>
  en=.returned (.tuple #[.int .i64 ((r.lay first).best z t (code,sum)).1,.int .i64 ((r.lay first).best z t (code,sum)).2])/\Below w.heap.size w w':=by
 refine calls_cps ?_
 intro R hR
 have Hok:=zh hr
 have ht2:t+1<r.N+r.S:=by omega
 have hfl:first.length+1=r.S:=by rw[← hS.1];exact hq
 obtain⟨⟨l1,l2⟩,l3⟩:=lay_rng hr hfl hg ht2
 have Hvb:=zh (λs=>val_bd hr hfl hg z (t+1) s (by omega))
 have Hpb:=zh (λa (ha:r.low<=a/\a<=r.low+3)=>priceC_bd hr code t ha)
 obtain⟨hc1,hc2⟩:=codes_64 hr
 have hsm:r.sums<=73:=by have:=hr.n2;unfold Rg.sums;omega
 have hN24:=hr.n2
 have hS4:=hr.s2
 have hS2:=hr.s1
 have w1:=hr.w1
 have w2:=hr.w2
 have r1:=hr.l1
 have r2:=hr.l2
 have hbl:b<w.heap.size:=(Array.getElem?_eq_some_iff.1 hC).1
 have hrbl:rb<w.heap.size:=World.block_lt_of_cell? w _ hrow
 have HC:=zh hC
 have HF:=zh hF
 have HT:=zh hT
 have HV:=zh hV
 have Hrow:=zh hrow
 have HK:=zh hK
 have HL:=zh hL
 have hzb:(z:Int)<=27:=by omega
 clear hfl hg hF hT hV hrow hK hz hr hL
 obtain⟨Lo,hLo⟩:∃ x,(r.lay first).lo t=x:=⟨_,rfl⟩
 obtain⟨Hi,hHi⟩:∃ x,(r.lay first).hi t=x:=⟨_,rfl⟩
 have Hbst:=zh (show BstI r first z t code sum Lo (-1) 0 by unfold BstI Lay.best Lay.cnt;rw[hLo])
 have HLo:=zh hLo
 have HHi:=zh hHi
 rw[hLo,hHi] at l3
 rw[hLo] at l1
 rw[hHi] at l2
 clear hLo hHi
 go_enter Tryz.func75,Tryz.ntmps75
 go_wp2_with fail
 (with_reducible refine (bounds_any r Hok.out A B D n c m d q e (.slice (some ⟨rb,0,none⟩) L L) first b t _ hC hS hq ht2).mono ?_)
 rintro en w3 ⟨rfl,hq3⟩
 rw[HLo.out,HHi.out]
 have Hb3:=zh hq3.below
 clear hq3 hC hS hq
 go_wp2_with fail
 go_loopw [10,11,14] (λs10 s11 s14 wr=>∃ a l wh:Int,s10=.int .i64 l/\s11=.int .i64 wh/\s14=.int .i64 a/\Lo<=a/\a<=Hi+1/\-1<=l/\l<=1000000000/\Hid (BstI r first z t code sum a l wh)/\Below w.heap.size w wr) (λ_ _ s14 _=>(Hi+1-intOf s14).toNat)
 case atStart=>exact⟨Lo,-1,0,rfl,rfl,rfl,Int.le_refl _,by omega,by omega,by omega,Hbst,Hb3.out⟩
 case round =>
  obtain⟨a,l,wh,rfl,rfl,rfl,a1,a2,k1,k2,HI,hb⟩:=hrel
  obtain⟨wo,rfl⟩:∃ wo:World,wo=wr:=⟨_,rfl⟩
  by_cases hlt:a<=Hi
  ·have har:r.low<=a/\a<=r.low+3:=by omega
   have Hskip:=zh (λh=>HI.out.skip (by rw[HHi.out];exact hlt) h)
   have Hstep:=zh (λ(s':Nat×Nat) (p v:Int) htr hv=>HI.out.step (by rw[HHi.out];exact hlt) (s':=s') (p:=p) (v:=v) htr hv)
   go_wp2_with fail
   (with_reducible refine (next_any r Hok.out A B D n c m d q e (.slice (some ⟨rb,0,none⟩) L L) b code t a _ (below_cells hb hbl HC.out) (HF.out.below hb) (HT.out.below hb) hcode ht1 ht2 har).mono ?_)
   rintro en w4 ⟨rfl,hb4⟩
   have HB4:=zh (hb.trans (hb4.mono hb.size))
   obtain⟨c0,c1,c2,c3,c4,c5,c6,c7,c8,c9,c10,c11,c12,cf⟩:=circ13 (below_cells HB4.out hbl HC.out)
   have q0:=(HB4.out.cell (p:=⟨rb,t+1,none⟩) hrbl).trans Hrow.out
   obtain⟨p1,p2⟩:=Hpb.out a har
   obtain⟨P,hP⟩:∃ P,r.priceC code t a=P:=⟨_,rfl⟩
   obtain⟨Z,hZ⟩:∃ Z,(code*4+(a-r.low).toNat)%r.codes=Z:=⟨_,rfl⟩
   have hZc:Z<r.codes:=by rw[← hZ];exact Nat.mod_lt _ (by omega)
   obtain⟨E,hE⟩:∃ E,r.offC code a (r.S-1)=E:=⟨_,rfl⟩
   have Htr:=zh (lay_tr (r:=r) (first:=first) (t:=t) (code:=code) (sum:=sum) (a:=a))
   rw[hP,hZ,hE] at Htr
   rw[hP,hZ,hE]
   rw[hP] at p1 p2
   clear hP hZ hE hb hb4
   cases hok:inBT E (-r.worst) r.worst
   ·have hno:¬ (-r.worst<=E/\E<=r.worst):=λh=>by rw[inB_iff.2 h] at hok;cases hok
    have Hn:=zh (Hskip.out (by rw[Htr.out,if_neg (λh=>hno ⟨h.1,h.2.1⟩)]))
    clear hok hno
    by_cases hN:t<r.N
    all_goals
     go_wp2_with fail
     exact⟨⟨a+1,l,wh,rfl,rfl,rfl,by omega,by omega,k1,k2,zh Hn.out,HB4.out⟩,by simp[intOf];omega⟩
   ·obtain⟨o1,o2⟩:=inB_iff.1 hok
    clear hok
    by_cases hN:t<r.N
    ·have hUi:(sum:Int)+(a-r.low)=((sum+(a-r.low).toNat:Nat):Int):=by omega
     have Htr:=zh (Htr.out.trans (by rw[if_pos hN]))
     obtain⟨U,hU⟩:∃ U,sum+(a-r.low).toNat=U:=⟨_,rfl⟩
     rw[hU] at Htr hUi
     have HUi:=zh hUi
     clear hU hUi
     go_upto_region 10 with fail
     rw[HUi.out]
     by_cases hup:U<r.sums
     ·have hIdx:=idx_lt hZc hup
      rw[← HK.out] at hIdx
      obtain⟨I,hI⟩:∃ I,Z*r.sums+U=I:=⟨_,rfl⟩
      obtain⟨bx,ox,v,hbx,-,hv,q1⟩:=(HV.out.below HB4.out).at1 hIdx
      have hv0:(r.lay first).val z (t+1) (Z,U)=v:=by rw[rowV_get hZc hup] at hv;injection hv
      have hbx':=hbx
      simp only[Option.some.injEq,Addr.mk.injEq,and_true] at hbx'
      obtain⟨rfl,rfl⟩:=hbx'
      obtain⟨v1,v2⟩:=Hvb.out (Z,U)
      rw[hv0] at v1 v2
      have Hstep2:=zh (Hstep.out _ _ _ (Htr.out.trans (if_pos ⟨o1,o2,hup⟩)) hv0)
      rw[hI] at hIdx q1
      have hIk:(I:Int)<(K:Int):=by omega
      have hI0:(0:Int)<=(I:Int):=by omega
      have hIz:(Z:Int)*(r.sums:Int)+(U:Int)=(I:Int):=by rw[← hI];simp
      have hZs:(0:Int)<=(Z:Int)*(r.sums:Int):=Int.mul_nonneg (by omega) (by omega)
      have hK2:K<=64*73:=by rw[HK.out];exact Nat.mul_le_mul hc2 hsm
      have hu1:IntKind.i64.wrap ((Z:Int)*(r.sums:Int))=(Z:Int)*(r.sums:Int):=IntWalk.i64_in _ (by omega)
      have hu2:IntKind.i64.wrap ((Z:Int)*(r.sums:Int)+(U:Int))=(I:Int):=by rw[hIz];exact IntWalk.i64_in _ (by omega)
      have hu3:IntKind.i64.wrap ((t:Int)+1)=(t:Int)+1:=IntWalk.i64_in _ (by omega)
      have hu4:IntKind.i64.wrap (I:Int)=(I:Int):=IntWalk.i64_in _ (by omega)
      have ht0:(0:Int)<=(t:Int)+1:=by omega
      have htL:(t:Int)+1<(L:Int):=by have:=HL.out;omega
      have Hu:=zh (And.intro hu1 (And.intro hu2 (And.intro hu3 (And.intro hu4 hIz))))
      clear hu1 hu2 hu3 hu4 hI hIz hv hbx hv0
      rw[Nat.zero_add] at q1
      go_wp2_with fail
      obtain⟨hu1,hu2,hu3,hu4,hIz⟩:=Hu.out
      go_quiet (fail)
      clear hu1 hu2 hu3 hu4 hIz
      by_cases hv0:0<=v
      ·by_cases hl0:l<0
       ·have Hn:=zh (Hstep2.out (P+v) a (if_pos ⟨hv0,.inl hl0⟩))
        go_wp2_with fail
        exact⟨⟨a+1,P+v,a,rfl,rfl,rfl,by omega,by omega,by omega,by omega,zh Hn.out,below_drewN HB4.out _⟩,by simp[intOf];omega⟩
       ·by_cases hl1:P+v<l
        ·have Hn:=zh (Hstep2.out (P+v) a (if_pos ⟨hv0,.inr hl1⟩))
         go_wp2_with fail
         exact⟨⟨a+1,P+v,a,rfl,rfl,rfl,by omega,by omega,by omega,by omega,zh Hn.out,below_drewN HB4.out _⟩,by simp[intOf];omega⟩
        ·have Hn:=zh (Hstep2.out l wh (if_neg (λh=>by rcases h.2 with h|h<;>omega)))
         go_wp2_with fail
         exact⟨⟨a+1,l,wh,rfl,rfl,rfl,by omega,by omega,by omega,by omega,zh Hn.out,below_drewN HB4.out _⟩,by simp[intOf];omega⟩
      ·have Hn:=zh (Hstep2.out l wh (if_neg (λh=>hv0 h.1)))
       go_wp2_with fail
       exact⟨⟨a+1,l,wh,rfl,rfl,rfl,by omega,by omega,by omega,by omega,zh Hn.out,below_drewN HB4.out _⟩,by simp[intOf];omega⟩
     ·have Hn:=zh (Hskip.out (by rw[Htr.out,if_neg (λh=>hup h.2.2)]))
      go_wp2_with fail
      exact⟨⟨a+1,l,wh,rfl,rfl,rfl,by omega,by omega,k1,k2,zh Hn.out,HB4.out⟩,by simp[intOf];omega⟩
    ·have Htr:=zh (show (r.lay first).tr t (code,sum) a=if -r.worst<=E/\E<=r.worst/\sum<r.sums then some ((Z,sum),P) else none by rw[Htr.out];simp only[if_neg hN])
     go_upto_region 10 with fail
     have hup:=hsum
     ·have hIdx:=idx_lt hZc hup
      rw[← HK.out] at hIdx
      obtain⟨I,hI⟩:∃ I,Z*r.sums+sum=I:=⟨_,rfl⟩
      obtain⟨bx,ox,v,hbx,-,hv,q1⟩:=(HV.out.below HB4.out).at1 hIdx
      have hv0:(r.lay first).val z (t+1) (Z,sum)=v:=by rw[rowV_get hZc hup] at hv;injection hv
      have hbx':=hbx
      simp only[Option.some.injEq,Addr.mk.injEq,and_true] at hbx'
      obtain⟨rfl,rfl⟩:=hbx'
      obtain⟨v1,v2⟩:=Hvb.out (Z,sum)
      rw[hv0] at v1 v2
      have Hstep2:=zh (Hstep.out _ _ _ (Htr.out.trans (if_pos ⟨o1,o2,hup⟩)) hv0)
      rw[hI] at hIdx q1
      have hIk:(I:Int)<(K:Int):=by omega
      have hI0:(0:Int)<=(I:Int):=by omega
      have hIz:(Z:Int)*(r.sums:Int)+(sum:Int)=(I:Int):=by rw[← hI];simp
      have hZs:(0:Int)<=(Z:Int)*(r.sums:Int):=Int.mul_nonneg (by omega) (by omega)
      have hK2:K<=64*73:=by rw[HK.out];exact Nat.mul_le_mul hc2 hsm
      have hu1:IntKind.i64.wrap ((Z:Int)*(r.sums:Int))=(Z:Int)*(r.sums:Int):=IntWalk.i64_in _ (by omega)
      have hu2:IntKind.i64.wrap ((Z:Int)*(r.sums:Int)+(sum:Int))=(I:Int):=by rw[hIz];exact IntWalk.i64_in _ (by omega)
      have hu3:IntKind.i64.wrap ((t:Int)+1)=(t:Int)+1:=IntWalk.i64_in _ (by omega)
      have hu4:IntKind.i64.wrap (I:Int)=(I:Int):=IntWalk.i64_in _ (by omega)
      have ht0:(0:Int)<=(t:Int)+1:=by omega
      have htL:(t:Int)+1<(L:Int):=by have:=HL.out;omega
      have Hu:=zh (And.intro hu1 (And.intro hu2 (And.intro hu3 (And.intro hu4 hIz))))
      clear hu1 hu2 hu3 hu4 hI hIz hv hbx hv0
      rw[Nat.zero_add] at q1
      go_wp2_with fail
      obtain⟨hu1,hu2,hu3,hu4,hIz⟩:=Hu.out
      go_quiet (fail)
      clear hu1 hu2 hu3 hu4 hIz
      by_cases hv0:0<=v
      ·by_cases hl0:l<0
       ·have Hn:=zh (Hstep2.out (P+v) a (if_pos ⟨hv0,.inl hl0⟩))
        go_wp2_with fail
        exact⟨⟨a+1,P+v,a,rfl,rfl,rfl,by omega,by omega,by omega,by omega,zh Hn.out,below_drewN HB4.out _⟩,by simp[intOf];omega⟩
       ·by_cases hl1:P+v<l
        ·have Hn:=zh (Hstep2.out (P+v) a (if_pos ⟨hv0,.inr hl1⟩))
         go_wp2_with fail
         exact⟨⟨a+1,P+v,a,rfl,rfl,rfl,by omega,by omega,by omega,by omega,zh Hn.out,below_drewN HB4.out _⟩,by simp[intOf];omega⟩
        ·have Hn:=zh (Hstep2.out l wh (if_neg (λh=>by rcases h.2 with h|h<;>omega)))
         go_wp2_with fail
         exact⟨⟨a+1,l,wh,rfl,rfl,rfl,by omega,by omega,by omega,by omega,zh Hn.out,below_drewN HB4.out _⟩,by simp[intOf];omega⟩
      ·have Hn:=zh (Hstep2.out l wh (if_neg (λh=>hv0 h.1)))
       go_wp2_with fail
       exact⟨⟨a+1,l,wh,rfl,rfl,rfl,by omega,by omega,by omega,by omega,zh Hn.out,below_drewN HB4.out _⟩,by simp[intOf];omega⟩
  ·have he:=HI.out.fin (by rw[HHi.out];omega)
   have Hf:=zh (show R (.returned (.tuple #[.int .i64 l,.int .i64 wh])) wo from by
    have:=hR.out _ wo ⟨rfl,hb⟩
    rw[he] at this
    exact this)
   clear he hR
   go_wp2_with fail
   exact Hf.out
end
end Go.Proofs.YtjibohkeapdalaaGreatDoor
