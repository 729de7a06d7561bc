/-
  (*House).scaling, (*House).choose at a scaling that may be; conditions: the cells hold a house whose rows are such a scaling, the tables lie below a block. (*House).choose at a scaling that may be; conditions: the cells hold a house whose rows are such a scaling, the tables lie below a block.
-/
import Derived.Test.YtjibohkeapdalaaGreatDoorEc
import Derived.Test.YtjibohkeapdalaaGreatDoorDc
import Derived.BigQuiet
namespace Go.Proofs.YtjibohkeapdalaaGreatDoor
set_option maxHeartbeats 8000000
set_option maxRecDepth 16000
section
section
open Go.RowKit Go.Shelf
theorem hscaling_any(w:World)(F:Nat->Prop)(h:Nat)(C:Array Value)(hh:HB w F h C)(A:Option Addr)(n c:Nat)(B:Option Addr)(m d:Nat)(G:Option Addr)(k e:Nat)(h3:C[3]?=some (.slice G k e))(h4:C[4]?=some (.slice B m d))(h5:C[5]?=some (.slice A n c))(sf ch:Int) :
 Calls Tryz.prog 265 #[.pointer (some ⟨h,0,none⟩),.int .i64 sf,.int .i64 ch] w λe' w'=>e'=.returned (.agg #[.slice A n c,.slice B m d,.slice G k e,.int .i64 sf,.int .i64 ch])/\Below w.heap.size w w':=by
 refine calls_cps ?_
 intro R hR
 obtain⟨w1,hw1⟩:∃ w1,w.alloc (.cells #[.slice none 0 0,.slice none 0 0,.slice none 0 0,.int .i64 0,.int .i64 0] 45)=w1:=⟨_,rfl⟩
 have hbl:=below_new w (.cells #[.slice none 0 0,.slice none 0 0,.slice none 0 0,.int .i64 0,.int .i64 0] 45)
 have hbx:=heap_alloc_new w (.cells #[.slice none 0 0,.slice none 0 0,.slice none 0 0,.int .i64 0,.int .i64 0] 45)
 rw[hw1] at hbl hbx
 have HW1:=zh hw1
 have HBL:=zh hbl
 have HBX:=zh hbx
 have hh1:=hh.below hbl
 obtain⟨k3,-⟩:=hh1.at h3
 obtain⟨k4,-⟩:=hh1.at h4
 obtain⟨k5,-⟩:=hh1.at h5
 have Hr:=zh hR.out
 clear hR hbl hbx hw1 hh hh1
 go_enter Tryz.func265,Tryz.ntmps265
 go_upto_region 1 with fail
 rw[HW1.out]
 go_upto_region 2 with fail
 obtain⟨w2,hw2⟩:∃ w2,w1.alloc (.cells #[.slice G k e,.slice B m d,.slice A n c] 82)=w2:=⟨_,rfl⟩
 have hb2:=below_new w1 (.cells #[.slice G k e,.slice B m d,.slice A n c] 82)
 have hx2:=heap_alloc_new w1 (.cells #[.slice G k e,.slice B m d,.slice A n c] 82)
 rw[hw2] at hb2 hx2 ⊢
 obtain⟨t0,t1,t2,-⟩:=cells3 hx2
 have hxs:=(hb2.block _ (Array.getElem?_eq_some_iff.1 HBX.out).1).trans HBX.out
 obtain⟨u0,u1,u2,u3,u4,uf⟩:=cells5 hxs
 have uf0:=uf 0
 have uf1:=uf 1
 have uf2:=uf 2
 have uf3:=uf 3
 have uf4:=uf 4
 have HB2:=zh hb2
 have hs5:=hset (i:=4) (v:=.int .i64 ch) (hset (i:=3) (v:=.int .i64 sf) (hset (i:=2) (v:=.slice G k e) (hset (i:=1) (v:=.slice B m d) (hset (i:=0) (v:=.slice A n c) hxs))))
 have hk5:Kx (λj=>j=w.heap.size) w2 _:=((((kx_put w2 w.heap.size 0 (.slice A n c)).trans (kx_put _ w.heap.size 1 (.slice B m d)) (λ_ _ e=>e)).trans (kx_put _ w.heap.size 2 (.slice G k e)) (λ_ _ e=>e)).trans (kx_put _ w.heap.size 3 (.int .i64 sf)) (λ_ _ e=>e)).trans (kx_put _ w.heap.size 4 (.int .i64 ch)) (λ_ _ e=>e)
 obtain⟨v0,v1,v2,v3,v4,-⟩:=cells5 (u0:=.slice A n c) (u1:=.slice B m d) (u2:=.slice G k e) (u3:=.int .i64 sf) (u4:=.int .i64 ch) hs5
 have HF:=zh (Hr.out (.returned (.agg #[.slice A n c,.slice B m d,.slice G k e,.int .i64 sf,.int .i64 ch])) _ ⟨rfl,Kx.low (HBL.out.trans (HB2.out.mono HBL.out.size)) hk5 (λj e=>e ▸ Nat.le_refl _) (Nat.le_trans HBL.out.size HB2.out.size)⟩)
 clear hw2 hb2 hx2 hxs uf k3 k4 k5 hs5 hk5
 go_wp2_with fail
 refine bodyPost_ret (v:=.agg #[.slice A n c,.slice B m d,.slice G k e,.int .i64 sf,.int .i64 ch]) ?_ rfl HF.out
 simp[results,Tryz.results265,go_sem,v0,v1,v2,v3,v4]
end
end
section
section
open Go.RowKit Go.Shelf
def picksW:List UInt8:=[112,105,99,107,115]
def pullW:List UInt8:=[112,117,108,108]
def pickL(g:Nat->Nat)(k i:Nat):List UInt8:=32 :: (Lib.itoa ((g i/k:Nat):Int)++58 :: Lib.itoa ((g i%k:Nat):Int))
def picksL(g:Nat->Nat)(k n:Nat):List UInt8:=picksW++(List.range n).flatMap (pickL g k)
theorem picksL_succ(g:Nat->Nat)(k n:Nat):picksL g k (n+1)=picksL g k n++pickL g k n:=by
 unfold picksL
 rw[List.range_succ,List.flatMap_append,← List.append_assoc]
 simp
def bestC(x:Sc)(m k:Nat):Int:=sumI ((List.range x.co.length).map λi=>prN x k i (bestG x m k i))
def bestU(x:Sc)(m k:Nat):Int:=sumI ((List.range x.co.length).map λi=>tgP x i (bestG x m k i/k,bestG x m k i%k))
def chooseL(x:Sc)(m k:Nat):List UInt8:=
 if (beF (bestV x m k 0) x.ch.toNat (m*k)).1 = -1 then bangL 6 else linesL [picksL (bestG x m k) k x.co.length,rowL costW [bestC x m k],rowL pullW [bestU x m k]]
theorem sumI_rng:∀ (l:List Int),(∀ y∈l,-4000000000000000<=y/\y<=4000000000000000)->-4000000000000000*(l.length:Int)<=sumI l/\sumI l<=4000000000000000*(l.length:Int)
 |[],_=>by simp[sumI]
 |a :: l,h=>by
  have h1:=h a List.mem_cons_self
  have h2:=sumI_rng l λy hy=>h y (List.mem_cons_of_mem _ hy)
  rw[sumI_cons,List.length_cons]
  omega
theorem bestC_rng{x:Sc}{m k:Nat}(hx:ScOk x)(hm:m=x.me.length)(hk:k=x.ga.length)(hG:∀ i,i<x.co.length->bestG x m k i<m*k):i64B (bestC x m k):=by
 have h:=sumI_rng ((List.range x.co.length).map λi=>prN x k i (bestG x m k i)) λy hy=>by
  obtain⟨i,hi,rfl⟩:=List.mem_map.1 hy
  have hi:=List.mem_range.1 hi
  have h2:=hG i hi
  subst hm hk
  have h1:=prN_rng hx hi h2
  exact⟨by omega,h1.2⟩
 have hn:=hx.n
 rw[List.length_map,List.length_range] at h
 unfold bestC i64B
 omega
theorem tgP_rng{x:Sc}(hx:ScOk x){i:Nat}{p:Nat×Nat}(hi:i<x.co.length)(h1:p.1<x.me.length)(h2:p.2<x.ga.length):0<=tgP x i p/\tgP x i p<=4000000000000:=by
 obtain⟨mt,ss,g,hpk⟩:=hx.pk p.1 p.2 h1 h2
 have hy:x.co[i]?=some (x.co[i]'hi):=List.getElem?_eq_getElem hi
 have hyo:=hx.co _ (List.mem_of_getElem? hy)
 have h:=pullN_lt (d:=mt.D) (a:=g) hpk.D.2 hpk.gr.2 hyo.L.2 hyo.F.2
 rw[tgP_eq hpk hy]
 omega
theorem div_mod_lt{g m k:Nat}(h:g<m*k):g/k<m/\g%k<k:=by
 have hk:0<k:=Nat.pos_of_ne_zero λe=>by rw[e,Nat.mul_zero] at h;omega
 exact⟨(Nat.div_lt_iff_lt_mul hk).2 h,Nat.mod_lt _ hk⟩
theorem bestU_rng{x:Sc}{m k:Nat}(hx:ScOk x)(hm:m=x.me.length)(hk:k=x.ga.length)(hG:∀ i,i<x.co.length->bestG x m k i<m*k):i64B (bestU x m k):=by
 have h:=sumI_rng ((List.range x.co.length).map λi=>tgP x i (bestG x m k i/k,bestG x m k i%k)) λy hy=>by
  obtain⟨i,hi,rfl⟩:=List.mem_map.1 hy
  have hi:=List.mem_range.1 hi
  obtain⟨h2,h3⟩:=div_mod_lt (hG i hi)
  have h1:=tgP_rng hx (p:=(bestG x m k i/k,bestG x m k i%k)) hi (hm ▸ h2) (hk ▸ h3)
  exact⟨by omega,by omega⟩
 have hn:=hx.n
 rw[List.length_map,List.length_range] at h
 unfold bestU i64B
 omega
theorem picksL_len{g:Nat->Nat}{m k n:Nat}(hG:∀ i,i<n->g i<m*k)(hm:m<=1000)(hk:k<=1000):∀ t,t<=n->(picksL g k t).length<=5+44*t
 |0,_=>by unfold picksL picksW;simp
 |t+1,ht=>by
  have h1:=picksL_len hG hm hk t (by omega)
  obtain⟨h2,h3⟩:=div_mod_lt (hG t (by omega))
  obtain⟨a,ha⟩:∃ a,g t/k=a:=⟨_,rfl⟩
  obtain⟨b,hb⟩:∃ b,g t%k=b:=⟨_,rfl⟩
  rw[ha] at h2
  rw[hb] at h3
  have l1:=Lib.itoa_length_le (a:Int) (by omega) (by omega)
  have l2:=Lib.itoa_length_le (b:Int) (by omega) (by omega)
  rw[picksL_succ,List.length_append]
  unfold pickL
  rw[List.length_cons,List.length_append,List.length_cons,ha,hb]
  omega
theorem ans_three{W:World}{b:Nat}{l1 l2 l3:List UInt8}(h:SlE strE 1 W (some ⟨b,0,none⟩) 3 [⟨l1.toArray⟩,⟨l2.toArray⟩,⟨l3.toArray⟩])(h1:l1.length<=1000000)(h2:l2.length<=1000000)(h3:l3.length<=1000000):AnsT (linesL [l1,l2,l3]) (.iface 387 (.slice (some ⟨b,0,none⟩) 3 3)) W:=
 .inr ⟨_,3,3,_,rfl,h,by omega,by omega,by simp[linesL];omega,rfl⟩
def set5(W:World)(b:Nat)(v0 v1 v2 v3 v4:Value):World:=((((W.setCell ⟨b,0,none⟩ v0).setCell ⟨b,1,none⟩ v1).setCell ⟨b,2,none⟩ v2).setCell ⟨b,3,none⟩ v3).setCell ⟨b,4,none⟩ v4
theorem set5_heap{W:World}{b:Nat}{t:TypeId}{u0 u1 u2 u3 u4:Value}(h:W.heap[b]?=some (.cells #[u0,u1,u2,u3,u4] t (0,0)))(v0 v1 v2 v3 v4:Value):(set5 W b v0 v1 v2 v3 v4).heap[b]?=some (.cells #[v0,v1,v2,v3,v4] t (0,0)):=
 hset (i:=4) (v:=v4) (hset (i:=3) (v:=v3) (hset (i:=2) (v:=v2) (hset (i:=1) (v:=v1) (hset (i:=0) (v:=v0) h))))
theorem set5_below{w W:World}{n b:Nat}(h:Below n w W)(hb:n<=b)(hn:n<=W.heap.size)(v0 v1 v2 v3 v4:Value):Below n w (set5 W b v0 v1 v2 v3 v4):=
 Kx.low h (((((kx_put W b 0 v0).trans (kx_put _ b 1 v1) (λ_ _ e=>e)).trans (kx_put _ b 2 v2) (λ_ _ e=>e)).trans (kx_put _ b 3 v3) (λ_ _ e=>e)).trans (kx_put _ b 4 v4) (λ_ _ e=>e)) (λ_ e=>e ▸ hb) hn
theorem hchoose_any(w:World)(F:Nat->Prop)(h:Nat)(C:Array Value)(hh:HB w F h C)(A:Option Addr)(n c:Nat)(B:Option Addr)(m d:Nat)(G:Option Addr)(k e:Nat)(h3:C[3]?=some (.slice G k e))(h4:C[4]?=some (.slice B m d))(h5:C[5]?=some (.slice A n c))(x:Sc)(hx:ScM w A n c B m d G k e x)(hB:scB x=true)(hr:∀ y∈x.co,InR y.T/\InR y.W)
 (Bz:Nat) (A1:Option Addr) (n1 c1:Nat) (A2:Option Addr) (n2 c2:Nat) (ws:List (List UInt8)) (hA:ArgsW Bz w A1 n1 c1 A2 n2 c2 ws [x.sf,x.ch]) (bg:Nat) (hg:Gl bg w) (hb:bg<=w.heap.size) :
 Calls Tryz.prog 150 #[.pointer (some ⟨h,0,none⟩),.agg #[.slice A1 n1 c1,.slice A2 n2 c2]] w λe w'=>∃ v,e=.returned v/\AnsT (chooseL x m k) v w'/\Below w.heap.size w w':=by
 refine calls_cps ?_
 intro R hR
 have l2:=hA.l2
 simp only[List.length_cons,List.length_nil,Nat.zero_add,Nat.reduceAdd] at l2
 subst l2
 obtain⟨w1,hw1⟩:∃ w1,w.alloc (.cells #[.slice A1 n1 c1,.slice A2 2 c2] 182)=w1:=⟨_,rfl⟩
 have hbx:=heap_alloc_new w (.cells #[.slice A1 n1 c1,.slice A2 2 c2] 182)
 have hbl:=below_new w (.cells #[.slice A1 n1 c1,.slice A2 2 c2] 182)
 rw[hw1] at hbx hbl
 have HW1:=zh hw1
 have HBL:=zh hbl
 have hA1:=hA.below hbl
 obtain⟨bi,oi,x0,rfl,hbi,hx0,p0⟩:=hA1.s2.at1 (k:=0) (by omega)
 obtain⟨bi',oi',x1,e1,-,hx1,p1⟩:=hA1.s2.at1 (k:=1) (by omega)
 cases e1
 simp only[List.getElem?_cons_zero,List.getElem?_cons_succ,Option.some.injEq] at hx0 hx1
 subst hx0 hx1
 rw[Nat.add_zero] at p0
 obtain⟨d0,d1,-⟩:=cells2 hbx
 have hq1:w.heap.size<w1.heap.size:=(Array.getElem?_eq_some_iff.1 hbx).1
 have hok:=scB_ok hB hr
 have hnl:=hx.co.1
 have hml:=hx.me.1
 have hkl:=hx.ga.1
 have HN:=zh hnl
 have HML:=zh hml
 have HKL:=zh hkl
 have Hok:=zh hok
 have hn1:=hok.n
 have hm1:=hok.m
 have hk1:=hok.k
 rw[← hnl] at hn1
 rw[← hml] at hm1
 rw[← hkl] at hk1
 have HSc:=zh (λW (hW:Below w1.heap.size w1 W)=>(hscaling_any W F h C ((hh.below hbl).below hW) A n c B m d G k e h3 h4 h5 x.sf x.ch).mono λe w' hp=>show e=_/\Below W.heap.size W w'/\Below w1.heap.size w1 w' from ⟨hp.1,hp.2,hW.trans (hp.2.mono hW.size)⟩)
 have HBe:=zh (λW (hW:Below w.heap.size w W)=>wbest_any A n c B m d G k e x W (hx.below hW) hr)
 have HPu:=zh (λP np pc L W (hW:Below w.heap.size w W) hp hrr hnn=>wpull_any A n c B m d G k e x P np pc L W (hx.below hW) hp hrr hnn hr)
 have HB:=zh hB
 have HG:=zh hg
 have Hr:=zh hR.out
 clear hR hA hA1 hbx hbl hh hw1 hg hr hB hok hx h3 h4 h5 hnl hml hkl
 obtain⟨co,me,ga,sf,cg⟩:=x
 unfold scA at HBe HPu
 dsimp only at HSc HBe HPu p0 p1
 go_enter Tryz.func150,Tryz.ntmps150
 go_upto_region 1 with fail
 rw[HW1.out]
 have hbz:Below w1.heap.size w1 w1.drew:=(Below.refl _ w1).drew
 have Hbx:=zh (show ∀ W',Below w1.heap.size w1 W'->Below w1.heap.size w1 W'/\W'.cell? ⟨w.heap.size,1,none⟩=some (.slice (some ⟨bi,oi,none⟩) 2 c2)/\W'.cell? ⟨bi,oi,none⟩=some (.int .i64 sf)/\W'.cell? ⟨bi,oi+1,none⟩=some (.int .i64 cg) from λW' hb =>
  ⟨hb,(hb.cell (p:=⟨w.heap.size,1,none⟩) hq1).trans d1,(hb.cell (p:=⟨bi,oi,none⟩) hbi).trans p0,(hb.cell (p:=⟨bi,oi+1,none⟩) hbi).trans p1⟩)
 go_cut [5] (λs5 wx=>∃ bx,s5=.pointer (some ⟨bx,0,none⟩)/\Hid (wx.heap[bx]?=some (.cells #[.slice A n c,.slice B m d,.slice G k e,.int .i64 sf,.int .i64 cg] 45 (0,0)))/\Hid (Below w1.heap.size w1 wx))
 case first =>
  go_region_held3 (λw'=>Below w1.heap.size w1 w'/\w'.cell? ⟨w.heap.size,1,none⟩=some (.slice (some ⟨bi,oi,none⟩) 2 c2)/\w'.cell? ⟨bi,oi,none⟩=some (.int .i64 sf)/\w'.cell? ⟨bi,oi+1,none⟩=some (.int .i64 cg))
   (first
    |(refine Hbx.out _ ?_;repeat (first|with_reducible exact hbz|with_reducible exact Below.refl _ _|with_reducible refine Below.drew ?_|with_reducible exact hka|with_reducible refine below_al1 ?_ _|exact set5_below hka (Nat.le_refl _) hka.size _ _ _ _ _|assumption|exact Nat.le_refl _))
    |go_keep)
   (first
   |(go_at_call 265;have hcur:=(‹Below w1.heap.size w1 _/\_›).1;(with_reducible refine (HSc.out _ hcur).mono ?_);rintro e w2 ⟨rfl,hb2,hka⟩;first|(have hz:=(hb2.block w1.heap.size (by simp[World.drew])).trans (heap_alloc_new w1 (.cells #[.slice none 0 0,.slice none 0 0,.slice none 0 0,.int .i64 0,.int .i64 0] 45));obtain⟨z0,z1,z2,z3,z4,zf⟩:=cells5 hz;have zf0:=zf 0;have zf1:=zf 1;have zf2:=zf 2;have zf3:=zf 3;have zf4:=zf 4;clear zf)|skip;clear hb2 hcur))
  all_goals
   go_wp2_with fail
   go_meet
   first
   |exact⟨w1.heap.size,rfl,zh (set5_heap hz _ _ _ _ _),zh (set5_below hka (Nat.le_refl _) hka.size _ _ _ _ _)⟩
   |exact⟨w2.heap.size,rfl,zh (heap_alloc_new w2 _),zh (below_al1 hka _)⟩
 case rest =>
  obtain⟨bx,rfl,HX,HBc⟩:=hcut
  clear hbz Hbx p0 p1 d0 d1 HSc
  have HB0:=zh (HBL.out.trans (HBc.out.mono HBL.out.size))
  obtain⟨u0,u1,u2,u3,u4,-⟩:=cells5 HX.out
  have hxl:=(Array.getElem?_eq_some_iff.1 HX.out).1
  go_wp2_with fail
  refine (HBe.out _ HB0.out).mono ?_
  rintro e1 w3 ⟨hB1|⟨-,hB1,rfl⟩|⟨-,hB1,⟨PA,pc,rfl,hP⟩,hG,-⟩,hb3⟩
  ·exact absurd (HB.out.symm.trans hB1.1) (by decide)
  ·have HF:=zh (Hr.out (.returned (.iface 88 (.int .i64 6))) w3 ⟨_,rfl,.inl ⟨6,rfl,⟨by omega,by omega⟩,by unfold chooseL;rw[if_pos hB1]⟩,HB0.out.trans (hb3.mono HB0.out.size)⟩)
   clear Hr hB1 hb3 u0 u1 u2 u3 u4
   go_wp2_with fail
   exact HF.out
  ·have HB3:=zh (HB0.out.trans (hb3.mono HB0.out.size))
   obtain⟨n',hn'⟩:∃ n',co.length=n':=⟨_,rfl⟩
   have hnn:n=n':=HN.out.trans hn'
   subst hnn
   have Hn':=zh hn'
   dsimp only at hP hG
   rw[hn'] at hP hG
   have hU:bestU ⟨co,me,ga,sf,cg⟩ m k=sumI ((List.range n).map λi=>tgP ⟨co,me,ga,sf,cg⟩ i (((List.range n).map λi=>(bestG ⟨co,me,ga,sf,cg⟩ m k i/k,bestG ⟨co,me,ga,sf,cg⟩ m k i%k)).getD i (0,0))):=by
    unfold bestU
    dsimp only
    rw[hn']
    congr 1
    refine List.map_congr_left λi hi=>?_
    rw[List.getD_eq_getElem?_getD,List.getElem?_map,List.getElem?_range (List.mem_range.1 hi)]
    rfl
   have hcr:=bestC_rng Hok.out HML.out HKL.out (λi hi=>(hG i (by dsimp only at hi;omega)).1)
   have hur:=bestU_rng Hok.out HML.out HKL.out (λi hi=>(hG i (by dsimp only at hi;omega)).1)
   have hpl:=picksL_len (λi hi=>(hG i hi).1) (show m<=1000 by omega) (show k<=1000 by omega)
   have hPu:=HPu.out PA n pc _ w3 HB3.out hP (λp hp=>by
    obtain⟨i,hi,rfl⟩:=List.mem_map.1 hp
    exact div_mod_lt (hG i (List.mem_range.1 hi)).1) (by omega)
   rw[← hU,HB.out,show fitC true n n=0 by simp[fitC],if_pos rfl] at hPu
   have HPu2:=zh hPu
   obtain⟨g,hg⟩:∃ g,bestG ⟨co,me,ga,sf,cg⟩ m k=g:=⟨_,rfl⟩
   have hC:sumI ((List.range co.length).map λi=>prN ⟨co,me,ga,sf,cg⟩ k i (bestG ⟨co,me,ga,sf,cg⟩ m k i))=bestC ⟨co,me,ga,sf,cg⟩ m k:=rfl
   rw[hn'] at hC
   have hCh:chooseL ⟨co,me,ga,sf,cg⟩ m k=linesL [picksL g k n,rowL costW [bestC ⟨co,me,ga,sf,cg⟩ m k],rowL pullW [bestU ⟨co,me,ga,sf,cg⟩ m k]]:=by
    unfold chooseL
    rw[if_neg hB1,hg]
    dsimp only
    rw[hn']
   dsimp only
   rw[hn',hC]
   rw[hCh] at Hr
   rw[hg] at hP hG hpl
   obtain⟨cs,hcs⟩:∃ cs,bestC ⟨co,me,ga,sf,cg⟩ m k=cs:=⟨_,rfl⟩
   obtain⟨us,hus⟩:∃ us,bestU ⟨co,me,ga,sf,cg⟩ m k=us:=⟨_,rfl⟩
   rw[hcs] at hcr Hr ⊢
   rw[hus] at hur Hr HPu2
   clear hCh hC hcs hus hU hPu hg hB1 hn' HPu HBe
   clear u0 u1 u2 u3 u4
   obtain⟨u0,u1,u2,u3,u4,-⟩:=cells5 ((hb3.block _ hxl).trans HX.out)
   have HP:=zh hP
   have HGi:=zh hG
   have HPl:=zh hpl
   clear hP hG hpl hb3 hxl HX HBc
   go_wp2_with fail
   refine HPu2.out.mono ?_
   rintro e2 w4 ⟨rfl,hb4⟩
   have HB4:=zh (HB3.out.trans (hb4.mono HB3.out.size))
   have HP4:=zh (HP.out.below hb4)
   clear hb4 u0 u1 u2 u3 u4 HPu2 HP
   go_wp2_with fail
   go_loopw [11,13,42] (λs11 _ s42 wr=>∃ (t:Nat) (s:ByteArray),s42=.int .i64 (t:Nat)/\t<=n/\s11=.string s/\s.size<=5+44*t/\Hid (s.data.toList=picksL g k t)/\Hid (Below w4.heap.size w4 wr)) (λ_ _ s42 _=>n-(intOf s42).toNat)
   case atStart=>exact⟨0,⟨#[112,105,99,107,115]⟩,rfl,Nat.zero_le _,rfl,by decide,zh (by simp[picksL,picksW]),zh (Below.refl _ _)⟩
   case round =>
    obtain⟨t,s,rfl,ht,rfl,hsz,Hs,HW⟩:=hrel
    have Hb5:=zh (HB4.out.trans (HW.out.mono HB4.out.size))
    by_cases hlt:t<n
    ·have i1:(t:Int)<(n:Int):=by omega
     obtain⟨pb,po,l,rfl,hpl,hl,c0,c1⟩:=(HP4.out.below HW.out).at2k hlt
     have hl2:l=(g t/k,g t%k):=by
      rw[List.getElem?_map,List.getElem?_range hlt] at hl
      exact (Option.some.inj hl).symm
     obtain⟨r1,r2⟩:=div_mod_lt (HGi.out t hlt).1
     obtain⟨p1,p2⟩:=l
     simp only[Prod.mk.injEq] at hl2
     obtain⟨hp1,hp2⟩:=hl2
     rw[← hp1] at r1
     rw[← hp2] at r2
     dsimp only at c0 c1
     have Hp1:=zh hp1
     have Hp2:=zh hp2
     have l1:=Lib.itoa_length_le (p1:Int) (by omega) (by omega)
     have l2:=Lib.itoa_length_le (p2:Int) (by omega) (by omega)
     have z1:¬ 9223372036854775807<1+(Lib.itoa (p1:Int)).length:=by omega
     have z2:¬ 9223372036854775807<1+(Lib.itoa (p1:Int)).length+1:=by omega
     have z3:¬ 9223372036854775807<1+(Lib.itoa (p1:Int)).length+1+(Lib.itoa (p2:Int)).length:=by omega
     have z4:¬ 9223372036854775807<s.size+(1+(Lib.itoa (p1:Int)).length+1+(Lib.itoa (p2:Int)).length):=by omega
     clear hl hp1 hp2
     go_upto_region 10 with fail
     obtain⟨wa,hwa⟩:∃ wa,wr.alloc (.cells #[.int .i64 (p1:Nat),.int .i64 (p2:Nat)] 55)=wa:=⟨_,rfl⟩
     have hba:Below wr.heap.size wr wa:=by rw[← hwa];exact below_new wr _
     have hxa:wa.heap[wr.heap.size]?=some (.cells #[.int .i64 (p1:Nat),.int .i64 (p2:Nat)] 55 (0,0)):=by rw[← hwa];exact heap_alloc_new wr _
     rw[hwa]
     obtain⟨t0,t1,-⟩:=cells2 hxa
     have hll:=(Array.getElem?_eq_some_iff.1 hxa).1
     have HW4:=zh (HW.out.trans (hba.mono HW.out.size))
     have Hb6:=zh (Hb5.out.trans (hba.mono Hb5.out.size))
     obtain⟨lb,hlb⟩:∃ lb,wr.heap.size=lb:=⟨_,rfl⟩
     rw[hlb] at t0 t1 hll ⊢
     clear hwa hba hxa hlb c0 c1 hpl
     obtain⟨ι,mk,hmk⟩:=cls_exW wa.heap.size wa
     have hd:=hmk.drew
     have hnei:=hmk.ne
     have t0:=λx=>((hmk.below x).cell hll).trans t0
     have t1:=λx=>((hmk.below x).cell hll).trans t1
     have HCa:=zh (λx=>hmk.call (itoa_any (p1:Int) (mk x) (by omega) (by omega) bg (HG.out.on ((Hb6.out.trans ((hmk.below x).mono Hb6.out.size)).mono hb))))
     have HCb:=zh (λx=>hmk.call (itoa_any (p2:Int) (mk x) (by omega) (by omega) bg (HG.out.on ((Hb6.out.trans ((hmk.below x).mono Hb6.out.size)).mono hb))))
     have Hbl:=zh (λx=>hmk.below x)
     clear hmk
     refine wp_region_clsW (C:=λw'=>∃ x,w'=mk x) (by kernel_rfl) (by kernel_rfl) hd ?_
     repeat (go_big_quiet_step (first|(with_reducible exact HCa.out _)|(with_reducible exact HCb.out _)))
     refine wpQuiet_nil ?_
     intro _ hw'
     obtain⟨x,rfl⟩:=hw'
     have HW5:=zh (HW4.out.trans ((Hbl.out x).mono HW4.out.size))
     have hss:(s++(⟨#[32]⟩++⟨(Lib.itoa (p1:Int)).toArray⟩++⟨#[58]⟩++⟨(Lib.itoa (p2:Int)).toArray⟩):ByteArray).data.toList=picksL g k (t+1):=by
      rw[ba_app,ba_app,ba_app,ba_app,Hs.out,picksL_succ]
      unfold pickL
      rw[← Hp1.out,← Hp2.out]
      simp
     have hsz2:=ba_size (s++(⟨#[32]⟩++⟨(Lib.itoa (p1:Int)).toArray⟩++⟨#[58]⟩++⟨(Lib.itoa (p2:Int)).toArray⟩):ByteArray)
     rw[hss] at hsz2
     have hlen:=HPl.out (t+1) hlt
     have HSS:=zh hss
     obtain⟨s',hs'⟩:∃ s':ByteArray,(s++(⟨#[32]⟩++⟨(Lib.itoa (p1:Int)).toArray⟩++⟨#[58]⟩++⟨(Lib.itoa (p2:Int)).toArray⟩):ByteArray)=s':=⟨_,rfl⟩
     rw[hs'] at HSS hsz2 ⊢
     have hsz3:s'.size<=5+44*(t+1):=by omega
     clear t0 t1 z1 z2 z3 z4 hss hs' l1 l2
     go_wp2_with fail
     exact⟨⟨t+1,s',by go_num,by omega,rfl,hsz3,HSS,HW5⟩,by simp[intOf];omega⟩
    ·obtain rfl:n=t:=by omega
     have i1:¬ (n:Int)<(n:Int):=by omega
     have HSz:=zh hsz
     have hbw:=Nat.le_trans hb Hb5.out.size
     have HB6:=zh (Hb5.out.trans ((below_new wr (.cells #[.int .i64 cs] 3)).mono Hb5.out.size))
     have HRow:=zh (row_any ⟨costW.toArray⟩ (some ⟨wr.heap.size,0,none⟩) 1 1 [cs] (wr.alloc (.cells #[.int .i64 cs] 3)) ⟨rfl,by have h:=Sl.newAt wr #[.int .i64 cs] 3 1 1 rfl rfl;exact h⟩ (by omega) (by decide) (λx hx=>by rw[List.mem_singleton] at hx;subst hx;exact hcr) bg (HG.out.on (HB6.out.mono hb)) (Nat.le_trans hb HB6.out.size))
     have hl2:(rowL costW [cs]).length<=4+22*1:=row_len (wd:=costW) (l:=[cs]) (λx hx=>by rw[List.mem_singleton] at hx;subst hx;exact hcr)
     have hl3:(rowL pullW [us]).length<=4+22*1:=row_len (wd:=pullW) (l:=[us]) (λx hx=>by rw[List.mem_singleton] at hx;subst hx;exact hur)
     have hl1:=HPl.out n (Nat.le_refl _)
     have hse:s=⟨(picksL g k n).toArray⟩:=ba_of Hs.out
     subst hse
     clear hsz
     go_wp2_with fail
     refine HRow.out.mono ?_
     rintro e3 w5 ⟨rfl,hb5⟩
     have HB7:=zh (HB6.out.trans (hb5.mono HB6.out.size))
     have HB8:=zh (HB7.out.trans ((below_new w5 (.cells #[.int .i64 us] 3)).mono HB7.out.size))
     have HRow2:=zh (row_any ⟨pullW.toArray⟩ (some ⟨w5.heap.size,0,none⟩) 1 1 [us] (w5.alloc (.cells #[.int .i64 us] 3)) ⟨rfl,by have h:=Sl.newAt w5 #[.int .i64 us] 3 1 1 rfl rfl;exact h⟩ (by omega) (by decide) (λx hx=>by rw[List.mem_singleton] at hx;subst hx;exact hur) bg (HG.out.on (HB8.out.mono hb)) (Nat.le_trans hb HB8.out.size))
     clear hb5 HRow
     go_wp2_with fail
     refine HRow2.out.mono ?_
     rintro e4 w6 ⟨rfl,hb6⟩
     have HB9:=zh (HB8.out.trans (hb6.mono HB8.out.size))
     have hx6:=str_new w6 [⟨(picksL g k n).toArray⟩,⟨(rowL costW [cs]).toArray⟩,⟨(rowL pullW [us]).toArray⟩]
     have HB10:=zh (HB9.out.trans ((below_new w6 (.cells #[.string ⟨(picksL g k n).toArray⟩,.string ⟨(rowL costW [cs]).toArray⟩,.string ⟨(rowL pullW [us]).toArray⟩] 9)).mono HB9.out.size))
     have HFin:=zh (Hr.out (.returned (.iface 387 (.slice (some ⟨w6.heap.size,0,none⟩) 3 3))) (w6.alloc (.cells #[.string ⟨(picksL g k n).toArray⟩,.string ⟨(rowL costW [cs]).toArray⟩,.string ⟨(rowL pullW [us]).toArray⟩] 9)) ⟨_,rfl,ans_three hx6 (by omega) (by omega) (by omega),HB10.out⟩)
     clear hb6 hx6 Hr HRow2
     go_wp2_with fail
     exact HFin.out
end
end
end Go.Proofs.YtjibohkeapdalaaGreatDoor
