/-
  A house's block and the rows that hang on it; house.ones, (*House).makeRing; conditions: those that each theorem states. (*House).makeRing at a ring that may be; conditions: the cells hold a house, the numbers are such a ring.
-/
import Derived.Test.YtjibohkeapdalaaGreatDoorAj
import Derived.Test.YtjibohkeapdalaaGreatDoorAk
import Derived.Test.YtjibohkeapdalaaGreatDoorBf
import Derived.BigRegion
import Derived.Deep.RegionHeld3
namespace Go.Proofs.YtjibohkeapdalaaGreatDoor
set_option maxHeartbeats 8000000
set_option maxRecDepth 8000
section
section
open Go.RowKit Go.Shelf
structure HB(W:World)(F:Nat->Prop)(h:Nat)(C:Array Value):Prop where
 own:F h
 box:W.heap[h]?=some (.cells C 87 (0,0))
 made:C[0]?=some (.bool true)
 sz:C.size=15
theorem HB.lt{W:World}{F:Nat->Prop}{h:Nat}{C:Array Value}(hh:HB W F h C):h<W.heap.size:=(Array.getElem?_eq_some_iff.1 hh.box).1
theorem HB.below{W w:World}{F:Nat->Prop}{h:Nat}{C:Array Value}(hh:HB W F h C)(k:Below W.heap.size W w):HB w F h C:=⟨hh.own,(k.block _ hh.lt).trans hh.box,hh.made,hh.sz⟩
theorem HB.at{W:World}{F:Nat->Prop}{h:Nat}{C:Array Value}(hh:HB W F h C){i:Nat}{v:Value}(hi:C[i]?=some v):W.cell? ⟨h,i,none⟩=some v/\W.frozen? ⟨h,i,none⟩=false:=
 ⟨by rw[cell_of_row _ _ i _ _ (0,0) hh.box];exact hi,by simp[World.frozen?,hh.box]⟩
theorem HB.set{W:World}{F:Nat->Prop}{h:Nat}{C:Array Value}(hh:HB W F h C){i:Nat}(hi:i≠0)(v:Value):HB (W.setCell ⟨h,i,none⟩ v) F h (C.setIfInBounds i v):=
 ⟨hh.own,hset hh.box,by rw[Array.getElem?_setIfInBounds_ne hi];exact hh.made,by simp[hh.sz]⟩
structure ISl(W:World)(F:Nat->Prop)(A:Option Addr)(n c:Nat)(l:List Int):Prop where
 sl:SlE intE 1 W A n l
 cap:n<=c/\c<=9223372036854775807
 ty:∀ a,0<n->A=some a->F a.block/\∃ C,W.heap[a.block]?=some (.cells C 3 (0,0))
theorem ISl.keep{W w:World}{F:Nat->Prop}{A:Option Addr}{n c:Nat}{l:List Int}(h:ISl W F A n c l)(hs:W.heap.size<=w.heap.size)(hk:∀ (j:Nat) (C:Array Value),W.heap[j]?=some (.cells C 3 (0,0))->w.heap[j]?=W.heap[j]?):ISl w F A n c l:=by
 refine⟨⟨h.sl.1,h.sl.2.1,λhn=>?_⟩,h.cap,λa hn ha=>?_⟩
 ·obtain⟨b,o,hA,hb,hc⟩:=h.sl.2.2 hn
  obtain⟨-,C,hC⟩:=h.ty _ hn hA
  exact⟨b,o,hA,Nat.lt_of_lt_of_le hb hs,λj u hu=>(World.cell?_of_block (w:=W) (a:=⟨b,o+j,none⟩) (hk b C hC)).trans (hc j u hu)⟩
 ·obtain⟨h1,C,hC⟩:=h.ty a hn ha
  exact⟨h1,C,(hk _ C hC).trans hC⟩
theorem ISl.below{W w:World}{F:Nat->Prop}{A:Option Addr}{n c:Nat}{l:List Int}(h:ISl W F A n c l)(k:Below W.heap.size W w):ISl w F A n c l:=
 h.keep k.size λj _ hC=>k.block j (Array.getElem?_eq_some_iff.1 hC).1
theorem ISl.of_own{W:World}{F:Nat->Prop}{A:Option Addr}{n c B:Nat}{l:List Int}(h:W.ownsRow B 3 1 (.slice A n c) n (l.flatMap intE))(hn:n=l.length)(hF:∀ g,(Value.slice A n c).ownBlock=some g->F g):ISl W F A n c l:=by
 refine⟨SlE.of_own h hn,?_,λa _ ha=>?_⟩
 ·obtain⟨A0,c0,e,h1,h2,-⟩:=own_slice h
  simp only[Value.slice.injEq,true_and] at e
  rw[e.2]
  exact⟨h1,h2⟩
 ·subst ha
  have hg:(Value.slice (some a) n c).ownBlock=some a.block:=rfl
  exact⟨hF _ hg,own_blk h hg⟩
def RgP(W:World)(F:Nat->Prop)(rb:Nat)(x:Rn)(fi th:List Int):Prop:=
 F rb/\∃ A n c B m d,W.heap[rb]?=some (.cells (ringA x.N x.S x.low x.high x.total x.pure x.worst (.slice A n c) (.slice B m d)) 24 (0,0))/\ISl W F A n c fi/\ISl W F B m d th
theorem RgP.keep{W w:World}{F:Nat->Prop}{rb:Nat}{x:Rn}{fi th:List Int}(h:RgP W F rb x fi th)(hs:W.heap.size<=w.heap.size)(hk:∀ (j:Nat) (C:Array Value),W.heap[j]?=some (.cells C 3 (0,0))->w.heap[j]?=W.heap[j]?)(hr:∀ C:Array Value,W.heap[rb]?=some (.cells C 24 (0,0))->w.heap[rb]?=W.heap[rb]?):RgP w F rb x fi th:=by
 obtain⟨h1,A,n,c,B,m,d,h2,h3,h4⟩:=h
 exact⟨h1,A,n,c,B,m,d,(hr _ h2).trans h2,h3.keep hs hk,h4.keep hs hk⟩
theorem elemIntK:ElemOk Tryz.prog 22 3 1 8:=ElemOk.of (z:=.int .i64 0) Tryz.underlying22 (by kernel_rfl) rfl (by omega)
theorem ones_any(w:World)(n:Nat)(hn:n<=1000):Calls Tryz.prog 258 #[.int .i64 (n:Int)] w λe w'=>∃ A c,e=.returned (.slice A n c)/\w'.ownsRow w.heap.size 3 1 (.slice A n c) n ((List.replicate n (1:Int)).flatMap intE)/\Below w.heap.size w w':=by
 refine calls_cps ?_
 intro R hR
 have Hr:=zh hR.out
 clear hR
 go_enter Tryz.func258,Tryz.ntmps258
 rcases Nat.eq_zero_or_pos n with rfl|hpos
 ·go_wp2_with fail
  refine wp_loop_rounds 1 ?_
  rw[rounds_succ]
  go_wp2_with fail
  exact Hr.out _ _ ⟨none,0,rfl,World.ownsRow_nil _ _ _ _,Below.refl _ _⟩
 ·have hp:(0:Int)<(n:Int):=by omega
  go_wp2_with fail
  go_loopw [3,6] (λs3 s6 wr=>∃ (k c':Nat) (A':Option Addr),k<=n/\s6=.int .i64 (k:Int)/\s3=.slice A' k c'/\Hid (wr.ownsRow w.heap.size 3 1 (.slice A' k c') k ((List.replicate k (1:Int)).flatMap intE))/\Hid (Below w.heap.size w wr)) (λ_ s6 _=>n-(intOf s6).toNat)
  case atStart=>exact⟨0,0,none,Nat.zero_le _,rfl,rfl,zh (World.ownsRow_nil _ _ _ _),zh (Below.refl _ _)⟩
  case round =>
   obtain⟨k,c',A',hk,rfl,rfl,Ho,Hb⟩:=hrel
   by_cases hlt:k<n
   ·have i1:(k:Int)<(n:Int):=by omega
    have HO1:=zh (Ho.out.alloc (.cells #[.int .i64 1] 3))
    go_wp2_with (at_builtin;refine wpList_app rfl (.tmp 8) (.tmp 9) _ rfl elemIntK w.heap.size _ _ _ rfl HO1.out _ _ _ _ rfl (Sl.newAt wr #[.int .i64 1] _ 1 1 rfl rfl) (by simp[Value.oneCell']) (by unfold maxLen;omega) (by omega) (by have:=Hb.out.size;simp;omega) ?_;intro A2 c2 w2 ho2 hg2 hl2;have HO2:=zh ho2;have HG2:=zh hg2;clear ho2 hg2 hl2)
    refine⟨⟨k+1,c2,A2,hlt,by go_num,rfl,zh ?_,zh (below_own (Hb.out.alloc Hb.out.size _) HO1.out (Nat.le_refl _) (by have:=Hb.out.size;simp;omega) HG2.out)⟩,by simp[intOf]<;>omega⟩
    have h:=HO2.out
    rw[List.replicate_succ',List.flatMap_append]
    exact h
   ·have hkn:k=n:=by omega
    subst hkn
    have i1:¬ (k:Int)<(k:Int):=by omega
    go_wp2_with fail
    exact Hr.out _ _ ⟨A',c',rfl,Ho.out,Hb.out⟩
end
end
section
section
open Go.RowKit Go.Shelf
def rg0(x:Rn):Array Value:=ringA x.N x.S x.low x.high x.total x.pure x.worst (.slice none 0 0) (.slice none 0 0)
theorem rg_cells{W:World}{rb:Nat}{N S lo hi tl pu wo:Int}{f t:Value}(h:W.heap[rb]?=some (.cells (ringA N S lo hi tl pu wo f t) 24 (0,0))) :
 W.cell? ⟨rb,0,none⟩=some (.int .i64 N)/\W.cell? ⟨rb,1,none⟩=some (.int .i64 S)/\W.cell? ⟨rb,2,none⟩=some (.int .i64 lo)/\W.cell? ⟨rb,3,none⟩=some (.int .i64 hi)/\W.cell? ⟨rb,4,none⟩=some (.int .i64 tl)/\W.cell? ⟨rb,5,none⟩=some (.int .i64 pu)/\W.cell? ⟨rb,6,none⟩=some (.int .i64 wo)/\
 W.cell? ⟨rb,7,none⟩=some f/\W.cell? ⟨rb,8,none⟩=some t/\∀ j,W.frozen? ⟨rb,j,none⟩=false:=by
 refine⟨?_,?_,?_,?_,?_,?_,?_,?_,?_,λj=>by simp[World.frozen?,h]⟩<;>(rw[cell_of_row _ _ _ _ _ (0,0) h];rfl)
theorem set_other{W:World}{a b i j:Nat}{v:Value}(h:a≠b):(W.setCell ⟨b,i,none⟩ v).cell? ⟨a,j,none⟩=W.cell? ⟨a,j,none⟩:=
 World.cell?_of_block (w:=W) (a:=⟨a,j,none⟩) (hset_ne h)
theorem hring_any(w:World)(F:Nat->Prop)(h:Nat)(C:Array Value)(hh:HB w F h C)(hu:Up w F)(B:Nat)(A1:Option Addr)(n1 c1:Nat)(A2:Option Addr)(n2 c2:Nat)(ws:List (List UInt8))(N:Nat)(S lo hi tl pu wo:Int)(hA:ArgsW B w A1 n1 c1 A2 n2 c2 ws [(N:Int),S,lo,hi,tl,pu,wo])(hN:N<=24)(hok:rgOk ⟨N,S,lo,hi,tl,pu,wo⟩ (List.replicate N 1) (List.replicate N 1)=true) :
 Calls Tryz.prog 140 #[.pointer (some ⟨h,0,none⟩),.agg #[.slice A1 n1 c1,.slice A2 n2 c2]] w λe w'=>∃ rb,e=.returned (.iface 387 (.slice none 0 0))/\HB w' F h (C.setIfInBounds 1 (.pointer (some ⟨rb,0,none⟩)))/\RgP w' F rb ⟨N,S,lo,hi,tl,pu,wo⟩ (List.replicate N 1) (List.replicate N 1)/\w.heap.size<=rb/\Kx (λj=>j=h) w w':=by
 refine calls_cps ?_
 intro R hR
 have l2:=hA.l2
 simp only[List.length_cons,List.length_nil,Nat.zero_add,Nat.reduceAdd] at l2
 subst l2
 obtain⟨w1,hw1⟩:∃ w1,w.alloc (.cells #[.slice A1 n1 c1,.slice A2 7 c2] 182)=w1:=⟨_,rfl⟩
 have hbx:=heap_alloc_new w (.cells #[.slice A1 n1 c1,.slice A2 7 c2] 182)
 have hbl:=below_new w (.cells #[.slice A1 n1 c1,.slice A2 7 c2] 182)
 rw[hw1] at hbx hbl
 have HW1:=zh hw1
 have hA1:=hA.below hbl
 obtain⟨bi,oi,x0,rfl,hbi,hx0,p0⟩:=hA1.s2.at1 (k:=0) (by omega)
 obtain⟨bi',oi',x1,e1,-,hx1,p1⟩:=hA1.s2.at1 (k:=1) (by omega)
 cases e1
 obtain⟨bi',oi',x2,e1,-,hx2,p2⟩:=hA1.s2.at1 (k:=2) (by omega)
 cases e1
 obtain⟨bi',oi',x3,e1,-,hx3,p3⟩:=hA1.s2.at1 (k:=3) (by omega)
 cases e1
 obtain⟨bi',oi',x4,e1,-,hx4,p4⟩:=hA1.s2.at1 (k:=4) (by omega)
 cases e1
 obtain⟨bi',oi',x5,e1,-,hx5,p5⟩:=hA1.s2.at1 (k:=5) (by omega)
 cases e1
 obtain⟨bi',oi',x6,e1,-,hx6,p6⟩:=hA1.s2.at1 (k:=6) (by omega)
 cases e1
 simp only[List.getElem?_cons_zero,List.getElem?_cons_succ,Option.some.injEq] at hx0 hx1 hx2 hx3 hx4 hx5 hx6
 subst hx0 hx1 hx2 hx3 hx4 hx5 hx6
 rw[Nat.add_zero] at p0
 obtain⟨d0,d1,-⟩:=cells2 hbx
 obtain⟨w2,hw2⟩:∃ w2,(w1.alloc (.cells (rg0 ⟨N,S,lo,hi,tl,pu,wo⟩) 24)).drew=w2:=⟨_,rfl⟩
 have hbr:=heap_alloc_new w1 (.cells (rg0 ⟨N,S,lo,hi,tl,pu,wo⟩) 24)
 have hb2:Below w1.heap.size w1 w2:=hw2 ▸ (below_new w1 _).drew
 have HW2:=zh hw2
 unfold rg0 ringA at HW2
 dsimp only at HW2
 obtain⟨rb,hrb⟩:∃ rb,w1.heap.size=rb:=⟨_,rfl⟩
 have HRb:=zh hrb
 have hR2:w2.heap[rb]?=some (.cells (rg0 ⟨N,S,lo,hi,tl,pu,wo⟩) 24 (0,0)):=by rw[← hw2,← hrb];exact hbr
 have q0:=(hb2.cell (p:=⟨bi,oi,none⟩) hbi).trans p0
 have hne:bi≠rb:=by omega
 have Hr:=zh hR.out
 have HH:=zh hh
 have HU:=zh hu
 have HBL:=zh hbl
 have HB2:=zh hb2
 have HR2:=zh hR2
 have Hok:=zh hok
 have i1:(N:Int)<=24:=by omega
 clear hR hA hA1 hbx hbl hh hu hw1 hw2 hbr hb2 hR2 hok
 go_enter Tryz.func140,Tryz.ntmps140
 go_upto_region 2 with fail
 rw[HW1.out]
 go_region_held3 (λw'=>w'.cell? ⟨bi,oi,none⟩=some (.int .i64 (N:Int))/\w'.cell? ⟨bi,oi+1,none⟩=some (.int .i64 S)/\w'.cell? ⟨bi,oi+2,none⟩=some (.int .i64 lo)/\w'.cell? ⟨bi,oi+3,none⟩=some (.int .i64 hi)/\w'.cell? ⟨bi,oi+4,none⟩=some (.int .i64 tl)/\w'.cell? ⟨bi,oi+5,none⟩=some (.int .i64 pu)/\w'.cell? ⟨bi,oi+6,none⟩=some (.int .i64 wo)) (first|go_keep|exact⟨p0,p1,p2,p3,p4,p5,p6⟩) (fail)
 go_upto_region 4 with fail
 rw[HW2.out]
 have hrlt:rb<w2.heap.size:=(Array.getElem?_eq_some_iff.1 HR2.out).1
 have hbi2:bi<w2.heap.size:=Nat.lt_of_lt_of_le hbi HB2.out.size
 have hne:bi≠rb:=by have:=HRb.out;omega
 have hN1:N<=1000:=by omega
 have HBc:=zh (show Below w2.heap.size w2 w2.drew from below_drewn 1)
 have HOn:=zh (show ∀ W,Below w2.heap.size w2 W->Calls Tryz.prog 258 #[.int .i64 (N:Int)] W λe w'=>∃ A c,e=.returned (.slice A N c)/\Hid (w'.ownsRow w2.heap.size 3 1 (.slice A N c) N ((List.replicate N (1:Int)).flatMap intE))/\Hid (Below w2.heap.size w2 w')/\
  w'.cell? ⟨bi,oi,none⟩=some (.int .i64 (N:Int))/\w'.cell? ⟨rb,7,none⟩=some (.slice none 0 0)/\w'.cell? ⟨rb,8,none⟩=some (.slice none 0 0)/\w'.frozen? ⟨rb,7,none⟩=false/\w'.frozen? ⟨rb,8,none⟩=false/\Hid (∀ v,W.ownsRow w2.heap.size 3 1 v N ((List.replicate N (1:Int)).flatMap intE)->w'.ownsRow w2.heap.size 3 1 v N ((List.replicate N (1:Int)).flatMap intE)) from λW hW=>by
  refine (ones_any W N hN1).mono ?_
  rintro e w3 ⟨A3,c3,rfl,ho3,hb3⟩
  have hb:=hW.trans (hb3.mono hW.size)
  obtain⟨-,-,-,-,-,-,-,r7,r8,rf⟩:=rg_cells ((hb.block rb hrlt).trans HR2.out)
  exact⟨A3,c3,rfl,zh (own_mono ho3 hW.size),zh hb,(hb.cell (p:=⟨bi,oi,none⟩) hbi2).trans q0,r7,r8,rf 7,rf 8,zh λv h=>ownsRow_below h hb3⟩)
 clear p0 p1 p2 p3 p4 p5 p6 d0 d1
 go_region_held3 (λw'=>w'.cell? ⟨bi,oi,none⟩=some (.int .i64 (N:Int)))
  (first|exact q0|exact qn|exact (set_other hne).trans qn|exact (set_other hne).trans ((set_other hne).trans qn)|go_keep)
  (first
  |(go_at_call 258;have HOq:=HOx;refine (HOn.out _ HBc.out).mono ?_;rintro e w4 ⟨A4,c4,rfl,HOz,HBd,qn,r7,r8,rf7,rf8,HKp⟩;have HOy:=zh (HKp.out _ HOq.out);clear HKp)
  |(go_at_call 258;refine (HOn.out _ HBc.out).mono ?_;rintro e w3 ⟨A3,c3,rfl,HOx,HBc,qn,r7,r8,rf7,rf8,HKq⟩))
 have hbr:=(HBd.out.block rb hrlt).trans HR2.out
 unfold rg0 at hbr
 dsimp only at hbr
 have hb7:=hset (i:=7) (v:=.slice A3 N c3) hbr
 have hb8:=hset (i:=8) (v:=.slice A4 N c4) hb7
 have HK4:=zh (show Kx (λj=>j=rb) w2 ((w4.setCell ⟨rb,7,none⟩ (.slice A3 N c3)).setCell ⟨rb,8,none⟩ (.slice A4 N c4)) from ((kx_of_below HBd.out).trans (kx_put w4 rb 7 _) (λ_ _ h=>h)).trans (kx_put _ rb 8 _) (λ_ _ h=>h))
 obtain⟨W,hW⟩:∃ W,(w4.setCell ⟨rb,7,none⟩ (.slice A3 N c3)).setCell ⟨rb,8,none⟩ (.slice A4 N c4)=W:=⟨_,rfl⟩
 have hoF:∀ {v:Value},w4.ownsRow w2.heap.size 3 1 v N ((List.replicate N (1:Int)).flatMap intE)->W.ownsRow w2.heap.size 3 1 v N ((List.replicate N (1:Int)).flatMap intE):=λh=>by
  rw[← hW]
  refine own_setH (C:=_) (own_setH (C:=_) h hbr (by decide)) hb7 (by decide)
 have HO1:=zh (hoF HOy.out)
 have HO2:=zh (hoF HOz.out)
 have HRW:=zh (show W.heap[rb]?=some (.cells (ringA N S lo hi tl pu wo (.slice A3 N c3) (.slice A4 N c4)) 24 (0,0)) by rw[← hW];exact hb8)
 rw[hW] at HK4 ⊢
 have hrbw:w.heap.size<=rb:=by have:=HRb.out;have:=HBL.out.size;omega
 have hhr:h≠rb:=by have:=HH.out.lt;omega
 have HHW:=zh (show HB W F h C from ⟨HH.out.own,(HK4.out.block h (by have:=HH.out.lt;have:=HBL.out.size;have:=HB2.out.size;omega) hhr).trans ((HB2.out.block h (by have:=HH.out.lt;have:=HBL.out.size;omega)).trans ((HBL.out.block h HH.out.lt).trans HH.out.box)),HH.out.made,HH.out.sz⟩)
 have HKW:=zh (show Below w.heap.size w W from Kx.low (HBL.out.trans (HB2.out.mono HBL.out.size)) HK4.out (λj e=>e ▸ hrbw) (Nat.le_trans HBL.out.size HB2.out.size))
 obtain⟨t0,t1,t2,t3,t4,t5,t6,t7,t8,-⟩:=rg_cells HRW.out
 have hrl:(List.replicate N (1:Int)).length=N:=List.length_replicate
 have HCk:=zh (check_any ⟨N,S,lo,hi,tl,pu,wo⟩ A3 A4 N c3 N c4 (List.replicate N 1) (List.replicate N 1) W (SlE.of_own HO1.out hrl.symm) (SlE.of_own HO2.out hrl.symm) (by omega) (by omega))
 rw[Hok.out] at HCk
 unfold Rn.val ringA at HCk
 dsimp only at HCk
 clear hbr hb7 hb8 hW hoF HOx HOy HOz HBc HBd HK4 HOn HR2 HB2 qn q0 r7 r8 rf7 rf8 HKq
 go_wp2_with fail
 refine HCk.out.mono ?_
 rintro e w5 ⟨rfl,hb5⟩
 have hh5:=HHW.out.below hb5
 have HK5:=zh (HKW.out.trans (hb5.mono HKW.out.size))
 obtain⟨-,hfr⟩:=hh5.at (i:=0) hh5.made
 obtain⟨v1,hv1⟩:∃ v1,C[1]?=some v1:=⟨C[1]'(by rw[HH.out.sz];decide),by rw[Array.getElem?_eq_getElem]⟩
 obtain⟨hc1,hf1⟩:=hh5.at hv1
 have hsz2:w.heap.size<=w2.heap.size:=Nat.le_trans HBL.out.size (Nat.le_trans (Nat.le_of_lt (Nat.lt_of_le_of_lt (Nat.le_of_eq HRb.out) hrlt)) (Nat.le_refl _))
 have hin:∀ {v:Value},W.ownsRow w2.heap.size 3 1 v N ((List.replicate N (1:Int)).flatMap intE)->∀ g,v.ownBlock=some g->F g:=λhx g hg=>HU.out g (Nat.le_trans hsz2 (own_ge hx hg))
 have hI1:=(ISl.of_own (F:=F) HO1.out hrl.symm (hin HO1.out)).below hb5
 have hI2:=(ISl.of_own (F:=F) HO2.out hrl.symm (hin HO2.out)).below hb5
 have hR5:=(hb5.block rb (Array.getElem?_eq_some_iff.1 HRW.out).1).trans HRW.out
 have hkp:∀ (j:Nat) (D:Array Value),w5.heap[j]?=some (.cells D 3 (0,0))->(w5.setCell ⟨h,1,none⟩ (.pointer (some ⟨rb,0,none⟩))).heap[j]?=w5.heap[j]?:=λj D hD=>hset_ne (λe=>by
  rw[e,hh5.box] at hD
  simp only[Option.some.injEq,Obj.cells.injEq] at hD
  exact absurd hD.2.1 (by decide))
 have hsz:w5.heap.size<=(w5.setCell ⟨h,1,none⟩ (.pointer (some ⟨rb,0,none⟩))).heap.size:=by rw[hsize_set];exact Nat.le_refl _
 have hfin:=Hr.out (.returned (.iface 387 (.slice none 0 0))) (w5.setCell ⟨h,1,none⟩ (.pointer (some ⟨rb,0,none⟩))) ⟨rb,rfl,hh5.set (by decide) _,⟨HU.out _ hrbw,A3,N,c3,A4,N,c4,(hset_ne (Ne.symm hhr)).trans hR5,hI1.keep hsz hkp,hI2.keep hsz hkp⟩,hrbw,(kx_of_below HK5.out).trans (kx_put w5 h 1 _) (λ_ _ e=>e)⟩
 have HF:=zh hfin
 clear hin hI1 hI2 hR5 hkp hsz hfin hb5 hh5 hv1 hsz2 Hr t0 t1 t2 t3 t4 t5 t6 t7 t8
 go_wp2_with fail
 exact HF.out
end
end
end Go.Proofs.YtjibohkeapdalaaGreatDoor
