/-
  The law TopTuned: true at every input; conditions: the tables lie below a block.
-/
import Derived.Test.YtjibohkeapdalaaGreatDoorEf
import Derived.Deep.RegionLaw
import Derived.Deep.CutBlock
namespace Go.Proofs.YtjibohkeapdalaaGreatDoor
set_option maxHeartbeats 8000000
set_option maxRecDepth 16000
section
open Go.RowKit Go.Shelf
theorem mask_in(x:Int)(m:Nat)(hm:m<=262143):0<=bits .and .i64 x (m:Int)/\bits .and .i64 x (m:Int)<=(m:Int):=by
 have e:bits .and .i64 x (m:Int)=IntKind.i64.wrap ((BitVec.ofInt 64 x &&& BitVec.ofInt 64 (m:Int)).toNat:Int):=rfl
 have h1:(BitVec.ofInt 64 x &&& BitVec.ofInt 64 (m:Int)).toNat<=m:=by
  rw[BitVec.toNat_and]
  refine Nat.le_trans Nat.and_le_right ?_
  rw[BitVec.toNat_ofInt]
  omega
 rw[e,IntWalk.i64_in _ (by omega)]
 omega
theorem app_one{wr W1 w5:World}{rb k c d c5:Nat}{A B A5:Option Addr}{xs:List Value}{R0:Array Value}(hbW:Below (rb+1) wr W1)(hsz:rb+1<=W1.heap.size)(hoa:W1.ownsRow (rb+1) 3 1 (.slice A k c) k xs)(hob:W1.ownsRow (rb+1) 3 1 (.slice B k d) k xs)
 (hne:∀ g,(Value.slice A k c).ownBlock=some g->(Value.slice B k d).ownBlock≠some g) (hX:wr.heap[rb]?=some (.cells R0 24 (0,0))) (hg5:W1.grownBy w5 (Value.slice A k c).ownBlock) (hl5:(Value.slice A5 (k+1) c5).ownBlock=(Value.slice A k c).ownBlock\/(Value.slice A5 (k+1) c5).ownBlock=some W1.heap.size) :
 Below (rb+1) wr w5/\w5.ownsRow (rb+1) 3 1 (.slice B k d) k xs/\w5.heap[rb]?=some (.cells R0 24 (0,0))/\rb+1<=w5.heap.size/\∀ g,(Value.slice A5 (k+1) c5).ownBlock=some g->(Value.slice B k d).ownBlock≠some g:=by
 have hb5:=below_own hbW hoa (Nat.le_refl _) hsz hg5
 refine⟨hb5,hob.kept hg5 ?_,(hb5.block rb (Nat.lt_succ_self rb)).trans hX,Nat.le_trans hsz hg5.size,λg hg hg2=>?_⟩
 ·cases hB:(Value.slice B k d).ownBlock with
  |none=>exact .inl rfl
  |some g=>exact .inr λe=>hne g e.symm hB
 ·have hlt:=(hob.lt g hg2).2
  rcases hl5 with e|e
  ·exact hne g (e.symm.trans hg) hg2
  ·rw[hg] at e
   have:=Option.some.inj e
   omega
theorem app_two{wr W2 w6:World}{rb k d c5 c6:Nat}{B A5 A6:Option Addr}{xs ys:List Value}{R0:Array Value}(hbW:Below (rb+1) wr W2)(hsz:rb+1<=W2.heap.size)(hob:W2.ownsRow (rb+1) 3 1 (.slice B k d) k xs)(hoa:W2.ownsRow (rb+1) 3 1 (.slice A5 (k+1) c5) (k+1) ys)
 (hne:∀ g,(Value.slice A5 (k+1) c5).ownBlock=some g->(Value.slice B k d).ownBlock≠some g) (hX:wr.heap[rb]?=some (.cells R0 24 (0,0))) (hg6:W2.grownBy w6 (Value.slice B k d).ownBlock) (hl6:(Value.slice A6 (k+1) c6).ownBlock=(Value.slice B k d).ownBlock\/(Value.slice A6 (k+1) c6).ownBlock=some W2.heap.size) :
 Below (rb+1) wr w6/\w6.ownsRow (rb+1) 3 1 (.slice A5 (k+1) c5) (k+1) ys/\w6.heap[rb]?=some (.cells R0 24 (0,0))/\∀ g,(Value.slice A5 (k+1) c5).ownBlock=some g->(Value.slice A6 (k+1) c6).ownBlock≠some g:=by
 have hb6:=below_own hbW hob (Nat.le_refl _) hsz hg6
 refine⟨hb6,hoa.kept hg6 ?_,(hb6.block rb (Nat.lt_succ_self rb)).trans hX,λg hg hg2=>?_⟩
 ·cases hB:(Value.slice A5 (k+1) c5).ownBlock with
  |none=>exact .inl rfl
  |some g=>exact .inr λe=>hne g hB e.symm
 ·have hlt:=(hoa.lt g hg).2
  rcases hl6 with e|e
  ·exact hne g hg (e.symm.trans hg2)
  ·rw[hg2] at e
   have:=Option.some.inj e
   omega
theorem ring_step{w4 wr w6:World}{rb n c5 c6:Nat}{A5 A6:Option Addr}{xs:List Value}{N S lo hi tl pu wo:Int}{f t:Value}(hW:Below rb w4 wr)(_hr:rb<wr.heap.size)(hr4:rb<w4.heap.size)(hb6:Below (rb+1) wr w6)(hX:w6.heap[rb]?=some (.cells (ringA N S lo hi tl pu wo f t) 24 (0,0)))(ho5:w6.ownsRow (rb+1) 3 1 (.slice A5 n c5) n xs)(ho6:w6.ownsRow (rb+1) 3 1 (.slice A6 n c6) n xs) :
 ((w6.setCell ⟨rb, 7, none⟩ (.slice A5 n c5)).setCell ⟨rb, 8, none⟩ (.slice A6 n c6)).heap[rb]? = some (.cells (ringA N S lo hi tl pu wo (.slice A5 n c5) (.slice A6 n c6)) 24 (0, 0)) ∧ ((w6.setCell ⟨rb, 7, none⟩ (.slice A5 n c5)).setCell ⟨rb, 8, none⟩ (.slice A6 n c6)).ownsRow (rb + 1) 3 1 (.slice A5 n c5) n xs ∧
   ((w6.setCell ⟨rb,7,none⟩ (.slice A5 n c5)).setCell ⟨rb,8,none⟩ (.slice A6 n c6)).ownsRow (rb+1) 3 1 (.slice A6 n c6) n xs/\Below rb w4 ((w6.setCell ⟨rb,7,none⟩ (.slice A5 n c5)).setCell ⟨rb,8,none⟩ (.slice A6 n c6)):=by
 have h7:=hset (i:=7) (v:=.slice A5 n c5) hX
 refine⟨hset (i:=8) (v:=.slice A6 n c6) h7,own_setH (own_setH ho5 hX (by decide)) h7 (by decide),own_setH (own_setH ho6 hX (by decide)) h7 (by decide),?_⟩
 have hbw:=hW.trans ((hb6.mono (Nat.le_succ rb)).mono (Nat.le_refl rb))
 exact Kx.low hbw ((kx_put w6 rb 7 _).trans (kx_put _ rb 8 _) (λ_ _ e=>e)) (λj e=>e ▸ Nat.le_refl _) (Nat.le_trans (Nat.le_of_lt hr4) hbw.size)
theorem tuned_any(w:World)(N0 S0 lo0 hi0 T0 P0 wo0:Int)(fv tv:Value)(base:Int)(b0 b1 b2 b3 b4 b5:Int)(bg:Nat)(hg:Gl bg w)(hb:bg<=w.heap.size) :
 Calls Tryz.prog 3 #[.agg (ringA N0 S0 lo0 hi0 T0 P0 wo0 fv tv),.int .i64 base,.agg #[.int .i64 b0,.int .i64 b1,.int .i64 b2,.int .i64 b3,.int .i64 b4,.int .i64 b5]] w λe w'=>e=.returned (.bool true)/\Below w.heap.size w w':=by
 refine calls_cps ?_
 intro R hR
 have HR:=zh hR.out
 have HG:=zh hg
 obtain⟨w1,hw1⟩:∃ w1,w.alloc (.cells (ringA N0 S0 lo0 hi0 T0 P0 wo0 fv tv) 24)=w1:=⟨_,rfl⟩
 obtain⟨w2,hw2⟩:∃ w2,w1.alloc (.cells #[.int .i64 b0,.int .i64 b1,.int .i64 b2,.int .i64 b3,.int .i64 b4,.int .i64 b5] 25)=w2:=⟨_,rfl⟩
 have hx1:=heap_alloc_new w (.cells (ringA N0 S0 lo0 hi0 T0 P0 wo0 fv tv) 24)
 have hb1:=below_new w (.cells (ringA N0 S0 lo0 hi0 T0 P0 wo0 fv tv) 24)
 have hx2:=heap_alloc_new w1 (.cells #[.int .i64 b0,.int .i64 b1,.int .i64 b2,.int .i64 b3,.int .i64 b4,.int .i64 b5] 25)
 have hb2:=below_new w1 (.cells #[.int .i64 b0,.int .i64 b1,.int .i64 b2,.int .i64 b3,.int .i64 b4,.int .i64 b5] 25)
 rw[hw1] at hx1 hb1
 rw[hw2] at hx2 hb2
 have hs1:w1.heap.size=w.heap.size+1:=by rw[← hw1];simp
 have HW1:=zh hw1
 unfold ringA at HW1 ⊢
 have HW2:=zh hw2
 obtain⟨t0,t1,t2,t3,t4,t5,t6,t7,t8,-⟩:=rg_cells ((hb2.block _ (Array.getElem?_eq_some_iff.1 hx1).1).trans hx1)
 obtain⟨mn,hmn⟩:∃ a,bits .and .i64 N0 3=a:=⟨_,rfl⟩
 obtain⟨mp,hmp⟩:∃ a,bits .and .i64 P0 7=a:=⟨_,rfl⟩
 obtain⟨mt,hmt⟩:∃ a,bits .and .i64 T0 15=a:=⟨_,rfl⟩
 have e1:=mask_in N0 3 (by decide)
 have e2:=mask_in P0 7 (by decide)
 have e3:=mask_in T0 15 (by decide)
 rw[show ((3:Nat):Int)=3 from rfl,hmn] at e1
 rw[show ((7:Nat):Int)=7 from rfl,hmp] at e2
 rw[show ((15:Nat):Int)=15 from rfl,hmt] at e3
 have Hmn:=zh hmn
 have Hmp:=zh hmp
 have Hmt:=zh hmt
 clear hR hg hw1 hw2 hmn hmp hmt
 go_enter Tryz.func3,Tryz.ntmps3
 go_upto_region 1 with fail
 rw[HW1.out,HW2.out]
 go_upto_region 2 with fail
 rw[Hmn.out,Hmp.out]
 obtain⟨N,hN⟩:∃ N:Nat,wrap64 (mn+4)=(N:Int):=⟨(mn+4).toNat,by unfold wrap64;omega⟩
 have hN4:4<=N/\N<=7:=by unfold wrap64 at hN;omega
 obtain⟨P,rfl⟩:∃ P:Nat,mp=(P:Int):=⟨mp.toNat,by omega⟩
 have hP7:P<=7:=by omega
 rw[hN]
 obtain⟨w3,hw3⟩:∃ w3,w2.alloc (.cells (ringA N 2 0 2 0 P 100 (.slice none 0 0) (.slice none 0 0)) 24)=w3:=⟨_,rfl⟩
 have hx3:=heap_alloc_new w2 (.cells (ringA N 2 0 2 0 P 100 (.slice none 0 0) (.slice none 0 0)) 24)
 have hb3:=below_new w2 (.cells (ringA N 2 0 2 0 P 100 (.slice none 0 0) (.slice none 0 0)) 24)
 rw[hw3] at hx3 hb3
 have hl3:w.heap.size<w2.heap.size:=Nat.lt_of_lt_of_le (Array.getElem?_eq_some_iff.1 hx1).1 hb2.size
 obtain⟨rb,hrb⟩:∃ rb,w2.heap.size=rb:=⟨_,rfl⟩
 have HRb:=zh hrb
 have HW3:=zh hw3
 unfold ringA at HW3
 rw[HW3.out,hrb]
 rw[hrb] at hx3
 have t4:=(hb3.cell (p:=⟨w.heap.size,4,none⟩) hl3).trans t4
 obtain⟨u0,u1,u2,u3,u4,u5,u6,u7,u8,uf⟩:=rg_cells hx3
 have uf4:=uf 4
 have e5:wrap64 (2*(N:Int))=2*(N:Int):=by unfold wrap64;omega
 have e6:wrap64 (2*(N:Int)+1)=2*(N:Int)+1:=by unfold wrap64;omega
 have e7:¬ 2*(N:Int)+1=0:=by omega
 clear t0 t1 t2 t3 t5 t6 t7 t8 hw3 hrb hN uf
 go_upto_region 3 with fail
 rw[Hmt.out]
 obtain⟨T,hT⟩:∃ T:Nat,mt.tmod (2*(N:Int)+1)=(T:Int):=⟨(mt.tmod (2*(N:Int)+1)).toNat,by have:=Int.tmod_nonneg (2*(N:Int)+1) e3.1;omega⟩
 have hT9:T<=2*N:=by have:=Int.tmod_lt_of_pos mt (show 0<2*(N:Int)+1 by omega);omega
 rw[hT]
 obtain⟨w4,hw4⟩:∃ w4,w3.setCell ⟨rb,4,none⟩ (.int .i64 (T:Int))=w4:=⟨_,rfl⟩
 have hx4:w4.heap[rb]?=some (.cells (ringA N 2 0 2 T P 100 (.slice none 0 0) (.slice none 0 0)) 24 (0,0)):=by rw[← hw4];exact hset (i:=4) (v:=.int .i64 (T:Int)) hx3
 have hB3:=hb1.trans ((hb2.trans (hb3.mono hb2.size)).mono hb1.size)
 have hrw:w.heap.size<=rb:=by have:=HRb.out;have:=hb2.size;omega
 have hB4:Below w.heap.size w w4:=by rw[← hw4];exact Kx.low hB3 (kx_put w3 rb 4 _) (λj e=>e ▸ hrw) hB3.size
 have hlb:w.heap.size+1<rb:=by have:=HRb.out;have:=(Array.getElem?_eq_some_iff.1 hx2).1;omega
 have hxl:w4.heap[w.heap.size+1]?=some (.cells #[.int .i64 b0,.int .i64 b1,.int .i64 b2,.int .i64 b3,.int .i64 b4,.int .i64 b5] 25 (0,0)):=by
  rw[hs1] at hx2
  rw[← hw4]
  refine (hset_ne (by omega)).trans ((hb3.block _ (by have:=HRb.out;omega)).trans hx2)
 have HX4:=zh hx4
 have HXL:=zh hxl
 have HB4:=zh hB4
 have hr4:rb<w4.heap.size:=(Array.getElem?_eq_some_iff.1 hx4).1
 rw[hw4]
 clear u0 u1 u2 u3 u4 u5 u6 u7 u8 uf4 e5 e6 e7 hw4 hx4 hB3 hB4 hxl hx3 hb3 hx2 hb2 hx1 hb1 hT HW1 HW2 HW3 Hmn Hmp Hmt e1 e2 e3 t4
 go_upto_block 0 with fail
 go_cut [8] (λ_ wx=>∃ A B c d,Hid (wx.heap[rb]?=some (.cells (ringA N 2 0 2 T P 100 (.slice A N c) (.slice B N d)) 24 (0,0)))/\Hid (wx.ownsRow (rb+1) 3 1 (.slice A N c) N ((List.replicate N (1:Int)).flatMap intE))/\Hid (wx.ownsRow (rb+1) 3 1 (.slice B N d) N ((List.replicate N (1:Int)).flatMap intE))/\Hid (Below rb w4 wx))
 case first =>
  go_wp2_with fail
  go_loopw [8] (λs8 wr=>∃ (k:Nat) (A B:Option Addr) (c d:Nat),s8=.int .i64 (k:Nat)/\k<=N/\Hid (wr.heap[rb]?=some (.cells (ringA N 2 0 2 T P 100 (.slice A k c) (.slice B k d)) 24 (0,0)))/\Hid (wr.ownsRow (rb+1) 3 1 (.slice A k c) k ((List.replicate k (1:Int)).flatMap intE))/\Hid (wr.ownsRow (rb+1) 3 1 (.slice B k d) k ((List.replicate k (1:Int)).flatMap intE))/\Hid (∀ g,(Value.slice A k c).ownBlock=some g->(Value.slice B k d).ownBlock≠some g)/\Hid (Below rb w4 wr)) (λs8 _=>N-(intOf s8).toNat)
  case atStart=>exact⟨0,none,none,0,0,rfl,Nat.zero_le _,HX4,zh (World.ownsRow_nil _ _ _ _),zh (World.ownsRow_nil _ _ _ _),zh (λg hg=>by simp[Value.ownBlock] at hg),zh (Below.refl _ _)⟩
  case round =>
   obtain⟨k,A,B,c,d,rfl,hk,HX,HOa,HOb,HNe,HW⟩:=hrel
   obtain⟨u0,-,-,-,-,-,-,u7,u8,uf⟩:=rg_cells HX.out
   have hrl:=(Array.getElem?_eq_some_iff.1 HX.out).1
   by_cases hlt:k<N
   ·have i1:(k:Int)<(N:Int):=by omega
    have uf7:=uf 7
    have uf8:=uf 8
    have Hone:=zh (show ∀ u∈[Value.int .i64 1],u.oneCell'=true from by intro u hu;simp at hu;subst hu;rfl)
    have hbz:Below (rb+1) wr wr:=Below.refl _ _
    have hzz:rb+1<=wr.heap.size:=hrl
    clear uf
    go_upto_block 1 with fail
    go_cut [] (λwx=>∃ A' B' c' d',Hid (wx.heap[rb]?=some (.cells (ringA N 2 0 2 T P 100 (.slice A' (k+1) c') (.slice B' (k+1) d')) 24 (0,0)))/\Hid (wx.ownsRow (rb+1) 3 1 (.slice A' (k+1) c') (k+1) ((List.replicate (k+1) (1:Int)).flatMap intE))/\Hid (wx.ownsRow (rb+1) 3 1 (.slice B' (k+1) d') (k+1) ((List.replicate (k+1) (1:Int)).flatMap intE))/\Hid (∀ g,(Value.slice A' (k+1) c').ownBlock=some g->(Value.slice B' (k+1) d').ownBlock≠some g)/\Hid (Below rb w4 wx))
    case first =>
     go_upto_region 6 with fail
     have HLt:=zh (show ∀ (a:Addr),wr.heap.size<=a.block->¬ some a.block=(Value.slice A k c).ownBlock from λa h1 h2=>by
      have:=(HOa.out.lt a.block h2.symm).2
      omega)
     go_region_law (first
     |(refine step_app rfl (.tmp 53) (.tmp 54) 22 rfl elemIntK (rb+1) (.slice A k c) k ((List.replicate k (1:Int)).flatMap intE) rfl (by repeat (first|with_reducible exact HOa.out|with_reducible refine own_drew ?_|with_reducible refine World.ownsRow.alloc ?_ _)) _ 1 1 [.int .i64 1] rfl (by first|((with_reducible refine Sl.newAt _ _ _ 1 1 ?_ ?_)<;>(simp;done))|((with_reducible refine Sl.drew (Sl.newAt _ _ _ 1 1 ?_ ?_))<;>(simp;done))|((with_reducible refine Sl.drew (Sl.alloc (Sl.newAt _ _ _ 1 1 ?_ ?_) _))<;>(simp;done))) Hone.out (by unfold maxLen;omega) (by omega) (by first|exact hzz|(simp;omega)|(simp;omega)) ?_;intro A5 c5 w5 ho5 hg5 hl5;obtain⟨hb5,hob5,hX5,hz5,hn5⟩:=app_one (xs:=((List.replicate k (1:Int)).flatMap intE)) (by repeat (first|with_reducible exact hbz|with_reducible refine Below.drew ?_|with_reducible refine Below.alloc ?_ (by first|exact hzz|(simp;omega)) _)) (by first|exact hzz|(simp;omega)|(simp;omega)) (by repeat (first|with_reducible exact HOa.out|with_reducible refine own_drew ?_|with_reducible refine World.ownsRow.alloc ?_ _)) (by repeat (first|with_reducible exact HOb.out|with_reducible refine own_drew ?_|with_reducible refine World.ownsRow.alloc ?_ _)) HNe.out HX.out hg5 hl5;obtain⟨y0,-,-,-,-,-,-,y7,y8,yf⟩:=rg_cells hX5;have yl:rb<w5.heap.size:=hz5)
     |(refine step_app rfl (.tmp 57) (.tmp 58) 22 rfl elemIntK (rb+1) (.slice B k d) k ((List.replicate k (1:Int)).flatMap intE) rfl (by repeat (first|with_reducible exact hob5|with_reducible refine own_drew ?_|with_reducible refine World.ownsRow.alloc ?_ _)) _ 1 1 [.int .i64 1] rfl (by first|((with_reducible refine Sl.newAt _ _ _ 1 1 ?_ ?_)<;>(simp;done))|(refine Sl.grown ?_ hg5 (λ_ a ha e=>HLt.out a (by cases ha;simp) e);first|((with_reducible refine Sl.drew (Sl.newAt _ _ _ 1 1 ?_ ?_))<;>(simp;done))|((with_reducible refine Sl.drew (Sl.alloc (Sl.newAt _ _ _ 1 1 ?_ ?_) _))<;>(simp;done)))) Hone.out (by unfold maxLen;omega) (by omega) (by first|exact hz5|(simp;omega)|(simp;omega)) ?_;intro A6 c6 w6 ho6 hg6 hl6;obtain⟨hb6,hoa6,hX6,hn6⟩:=app_two (xs:=((List.replicate k (1:Int)).flatMap intE)) (ys:=((List.replicate k (1:Int)).flatMap intE)++[.int .i64 1]) (by repeat (first|with_reducible exact hb5|with_reducible refine Below.drew ?_|with_reducible refine Below.alloc ?_ (by first|exact hz5|(simp;omega)) _)) (by first|exact hz5|(simp;omega)|(simp;omega)) (by repeat (first|with_reducible exact hob5|with_reducible refine own_drew ?_|with_reducible refine World.ownsRow.alloc ?_ _)) (by repeat (first|with_reducible exact ho5|with_reducible refine own_drew ?_|with_reducible refine World.ownsRow.alloc ?_ _)) hn5 HX.out hg6 hl6;obtain⟨z0,-,-,-,-,-,-,z7,z8,zf⟩:=rg_cells hX6;have zf7:=zf 7;have zf8:=zf 8;clear zf))
     all_goals
      have hfin:=ring_step HW.out hrl hr4 hb6 hX6 hoa6 ho6
      have hrep:(List.replicate (k+1) (1:Int)).flatMap intE=(List.replicate k (1:Int)).flatMap intE++[.int .i64 1]:=by
       rw[List.replicate_succ',List.flatMap_append];rfl
      rw[← hrep] at hfin
      have HFin:=zh hfin
      have HN6:=zh hn6
      clear hfin hn6 hrep hb6 hX6 hoa6 ho6 z0 z7 z8 zf7 zf8
      go_wp2_with fail
      go_meet
      exact⟨A5,A6,c5,c6,zh HFin.out.1,zh HFin.out.2.1,zh HFin.out.2.2.1,HN6,zh HFin.out.2.2.2⟩
    case rest =>
     obtain⟨A5,A6,c5,c6,HX6,HO5,HO6,HN6,HW6⟩:=hcut
     clear u0 u7 u8 uf7 uf8 hzz hbz
     go_wp2_with fail
     exact⟨⟨k+1,A5,A6,c5,c6,by go_num,hlt,HX6,HO5,HO6,HN6,HW6⟩,by simp[intOf];omega⟩
   ·obtain rfl:N=k:=by omega
    have i1:¬ (N:Int)<(N:Int):=by omega
    clear uf u7 u8
    go_wp2_with fail
    go_meet
    exact⟨A,B,c,d,HX,HOa,HOb,HW⟩
 case rest =>
  rename World=>wb
  obtain⟨A,B,c,d,HX,HOa,HOb,HW⟩:=hcut
  have hB5:Below w.heap.size w wb:=HB4.out.trans (HW.out.mono hrw)
  have HB5:=zh hB5
  have HL5:=zh ((HW.out.block _ hlb).trans HXL.out)
  have hlb5:w.heap.size+1<wb.heap.size:=(Array.getElem?_eq_some_iff.1 HL5.out).1
  have HOk:=zh (ringT_ok hN4.1 hN4.2 hT9 hP7)
  obtain⟨F,hF0⟩:∃ F:Nat->Prop,(λj=>wb.heap.size<=j)=F:=⟨_,rfl⟩
  have HU:=zh (show Up wb F by rw[← hF0];exact λb hb=>hb)
  have HFl:=zh (show ∀ j,F j->wb.heap.size<=j from λj hj=>by rw[← hF0] at hj;exact hj)
  have hbc:=Nat.le_trans hb hB5.size
  have HGc:=zh (HG.out.on (hB5.mono hb))
  have HNw:=zh (newT_any wb F HU.out)
  have hrc:rb<wb.heap.size:=(Array.getElem?_eq_some_iff.1 HX.out).1
  obtain⟨mbs,hmbs⟩:∃ a,bits .and .i64 base 262143=a:=⟨_,rfl⟩
  have e4:=(and_mask base).1
  rw[hmbs] at e4
  obtain⟨nb,hnb⟩:∃ nb:Nat,mbs+60000=(nb:Int):=⟨(mbs+60000).toNat,by omega⟩
  have hnb2:wrap64 (mbs+60000)=(nb:Int):=by unfold wrap64;omega
  have hnb6:60000<=nb/\nb<=322143:=by omega
  have Hmbs:=zh hmbs
  have Hnb:=zh hnb
  have Hnb2:=zh hnb2
  clear hF0 hB5 HB4 HXL HX4 hmbs hnb hnb2 e4
  go_wp2_with fail
  refine HNw.out.mono ?_
  rintro e w5 ⟨h,hge,rfl,hT5,hb5⟩
  have HT5:=zh hT5
  have HB6:=zh hb5
  have HHs:=zh (houses_any w5 bg (HGc.out.on (hb5.mono hbc)) (Nat.le_trans hbc hb5.size))
  clear HNw hT5 hb5
  go_wp2_with (go_at_call 6;(with_reducible refine HHs.out.mono ?_);rintro e w6 ⟨rfl,hb7⟩;have HB7:=zh hb7;clear hb7)
  rw[Hmbs.out]
  first|rw[Hnb2.out]|rw[Hnb.out]
  have HK6:=zh (show LH wb w6 F h none [] [] [] [] from ⟨HB6.out.trans (HB7.out.mono HB6.out.size),(HU.out.below HB6.out).below HB7.out,HFl.out,HT5.out.below HB7.out⟩)
  obtain⟨RG,hRG⟩:∃ RG,rgT N T P=RG:=⟨_,rfl⟩
  have HRG:=zh hRG
  clear HT5 HB6 HB7 HHs HU HFl Hmbs Hnb Hnb2 hRG hge
  go_cut [10] from 72 to 88 (λs10 wx=>s10=.string ⟨#[]⟩/\Hid (LH wb wx F h RG [] [] [] []))
  case first =>
   have hX6:=(HK6.out.low.block rb hrc).trans HX.out
   obtain⟨q0,-,-,-,q4,q5,-,-,-,-⟩:=rg_cells hX6
   have hr6:rb<w6.heap.size:=(Array.getElem?_eq_some_iff.1 hX6).1
   obtain⟨ι,mk,hmk⟩:=cls_exW w6.heap.size w6
   have hd:=hmk.drew
   have hnei:=hmk.ne
   have t0:=λx=>((hmk.below x).cell (p:=⟨rb,0,none⟩) hr6).trans q0
   have t4:=λx=>((hmk.below x).cell (p:=⟨rb,4,none⟩) hr6).trans q4
   have t5:=λx=>((hmk.below x).cell (p:=⟨rb,5,none⟩) hr6).trans q5
   have HCn:=zh (λx=>hmk.call (rtxt_any N (by omega) (mk x)))
   have HCt:=zh (λx=>hmk.call (rtxt_any T (by omega) (mk x)))
   have HCp:=zh (λx=>hmk.call (rtxt_any P (by omega) (mk x)))
   have HKx:=zh (λx=>HK6.out.below (hmk.below x))
   have l1:=Lib.itoa_length_le (N:Int) (by omega) (by omega)
   have l2:=Lib.itoa_length_le (T:Int) (by omega) (by omega)
   have l3:=Lib.itoa_length_le (P:Int) (by omega) (by omega)
   have z1:¬ 9223372036854775807<5+(Lib.itoa (N:Int)).length:=by omega
   have z2:¬ 9223372036854775807<5+(Lib.itoa (N:Int)).length+7:=by omega
   have z3:¬ 9223372036854775807<5+(Lib.itoa (N:Int)).length+7+(Lib.itoa (T:Int)).length:=by omega
   have z4:¬ 9223372036854775807<5+(Lib.itoa (N:Int)).length+7+(Lib.itoa (T:Int)).length+1:=by omega
   have z5:¬ 9223372036854775807<5+(Lib.itoa (N:Int)).length+7+(Lib.itoa (T:Int)).length+1+(Lib.itoa (P:Int)).length:=by omega
   have z6:¬ 9223372036854775807<5+(Lib.itoa (N:Int)).length+7+(Lib.itoa (T:Int)).length+1+(Lib.itoa (P:Int)).length+4:=by omega
   clear hmk l1 l2 l3 hX6 q0 q4 q5
   refine wp_region_headT (C:=λw'=>∃ x,w'=mk x) 16 (by kernel_rfl) (by kernel_rfl) hd ?_
   simp only[List.take_succ_cons,List.take_zero,List.drop_succ_cons,List.drop_zero]
   repeat (go_big_quiet_step (first|(with_reducible exact HCn.out _)|(with_reducible exact HCt.out _)|(with_reducible exact HCp.out _)))
   refine wpQuiet_nil ?_
   intro _ hw'
   obtain⟨x,rfl⟩:=hw'
   have HLi:=zh ((HKx.out x).ring HGc.out hbc (ring_str N T P) hN4.1 hN4.2 hT9 hP7)
   rw[HRG.out] at HLi
   clear t0 t4 t5 z1 z2 z3 z4 z5 z6 HCn HCt HCp
   go_wp2_with fail
   refine HLi.out.mono ?_
   rintro e w7 ⟨z,rfl,hz,hk7,-⟩
   obtain rfl:z=⟨#[]⟩:=ba_of hz
   have HK7:=zh hk7
   clear hz hk7 HLi
   go_wp2_with fail
   go_meet
   exact⟨rfl,HK7⟩
  case rest =>
   rename World=>w7
   obtain⟨rfl,HK7⟩:=hcut
   clear HK6
   go_upto_region 12 with fail
   go_cut [11,12,13] from 89 to 94 (λs11 s12 s13 wx=>∃ (st:List Int) (cs:Int) (Ab:Option Addr) (cb:Nat) (G:Nat->Prop),s11=.slice Ab N cb/\s12=.int .i64 cs/\s13=.int .i64 0/\Hid ((ringT N T P).Best st cs)/\Hid (LH wb wx G h RG [] [] [] [])/\Hid (RowF intE wx G Ab N cb st))
   case first =>
    have hX7:=(HK7.out.low.block rb hrc).trans HX.out
    obtain⟨q0,q1,q2,q3,q4,q5,q6,q7,q8,-⟩:=rg_cells hX7
    have HBs:=zh (show Calls Tryz.prog 9 #[.agg (ringA N 2 0 2 T P 100 (.slice A N c) (.slice B N d))] w7 _ from callsIn_wide.1 (best_ok 6 (Nat.le_refl _) (ringT N T P) HOk.out A B N c N d w7 ((SlE.of_own HOa.out (by simp)).below HK7.out.low) ((SlE.of_own HOb.out (by simp)).below HK7.out.low)))
    unfold ringA at HBs
    clear hX7
    go_wp2_with fail
    refine HBs.out.mono ?_
    rintro e w8 ⟨he|⟨st,cs,Ab,cb,rfl,hB',ho'⟩,hb8⟩
    ·exact absurd (ringT_good hN4.1 hN4.2 hT9 hP7) (he.2 _)
    obtain⟨G,g1,g2,g3⟩:=HK7.out.new hb8
    have HB':=zh hB'
    have HK8:=zh g1
    have HR8:=zh (show RowF intE w8 G Ab N cb st from ⟨SlE.of_own ho' (ringT_best hN4.2 hP7 hB').1.symm,own_caps ho',λa ha hG=>g3 a.block (own_ge ho' (by subst ha;rfl)) (ho'.lt a.block (by subst ha;rfl)).2 hG,λa ha=>(ho'.lt a.block (by subst ha;rfl)).2⟩)
    clear g1 g2 g3 hB' ho' hb8 HBs q0 q1 q2 q3 q4 q5 q6 q7 q8
    go_wp2_with fail
    go_meet
    exact⟨st,cs,Ab,cb,G,rfl,rfl,rfl,HB',HK8,HR8⟩
   case rest =>
    rename World=>w8
    obtain⟨st,cs,Ab,cb,G,rfl,rfl,rfl,HBe,HK8,HR8⟩:=hcut
    obtain⟨hst,hst2,hcs0,hcs4⟩:=ringT_best hN4.2 hP7 HBe.out
    have Hst2:=zh hst2
    clear HK7 hst2 HX HOa HOb HW
    go_upto_region 13 with fail
    go_cut [111] from 95 to 110 (λs111 wx=>s111=.bool false/\Hid (LH wb wx G h RG st [] [] [])/\Hid (RowF intE wx G Ab N cb st))
    case first =>
     have HLi:=zh (HK8.out.temper HGc.out hbc temper_str hN4.1 hN4.2 hT9 hP7 HRG.out.symm HBe.out)
     go_wp2_with fail
     refine HLi.out.mono ?_
     rintro e w9 ⟨z,rfl,hz,hk9,hx9⟩
     have Hz:=zh hz
     have HK9:=zh hk9
     have HR9:=zh (HR8.out.kx hx9)
     have HLa:=zh (list_op ⟨#[115,116,101,112,115]⟩ Ab N cb st w9 HR9.out.sl (by omega) (by decide) (λx hx=>by have:=Hst2.out x hx;omega))
     clear hz hk9 hx9 HLi
     go_wp2_with fail
     refine HLa.out.mono ?_
     rintro e w10 ⟨z1,rfl,hz1,hb10⟩
     have hb11:=hb10.trans ((below_new w10 (.cells #[.int .i64 cs] 3)).mono hb10.size)
     have HLb:=zh (list_op ⟨#[99,111,115,116]⟩ (some ⟨w10.heap.size,0,none⟩) 1 1 [cs] (w10.alloc (.cells #[.int .i64 cs] 3)) ⟨rfl,by have h:=Sl.newAt w10 #[.int .i64 cs] 3 1 1 rfl rfl;exact h⟩ (by omega) (by decide) (λx hx=>by rw[List.mem_singleton] at hx;subst hx;omega))
     have Hz1:=zh hz1
     have HB11:=zh hb11
     clear hz1 hb10 hb11 HLa
     go_wp2_with fail
     refine HLb.out.mono ?_
     rintro e w12 ⟨z2,rfl,hz2,hb12⟩
     have y1:z1.size<=1000:=by
      rw[ba_size,Hz1.out,List.length_append]
      have:=row_len (wd:=([115,116,101,112,115]:List UInt8)) (l:=st) (λx hx=>by have:=Hst2.out x hx;unfold i64B;omega)
      simp at this ⊢
      omega
     have y2:z2.size<=1000:=by
      rw[ba_size,hz2,List.length_append]
      have:=row_len (wd:=([99,111,115,116]:List UInt8)) (l:=[cs]) (λx hx=>by rw[List.mem_singleton] at hx;subst hx;unfold i64B;omega)
      simp at this ⊢
      omega
     have y3:¬ 9223372036854775807<z1.size+z2.size:=by omega
     have p1:(z.toList==(z1++z2).toList)=true:=by
      rw[beq_iff_eq,Lib.toList_data,Lib.toList_data,ba_app,Hz.out,Hz1.out,hz2]
      simp[linesL,stepsW,costW]
     have hbb:=HB11.out.trans (hb12.mono HB11.out.size)
     have HK13:=zh (HK9.out.below hbb)
     have HR13:=zh (HR9.out.below hbb)
     clear y1 y2 hz2 hb12 hbb Hz Hz1 HLb
     go_wp2_with fail
     go_meet
     exact⟨rfl,HK13,HR13⟩
    case rest =>
     rename World=>w10
     obtain⟨rfl,HK10,HR10⟩:=hcut
     clear HK8 HR8
     obtain⟨M,hMl,hM,hsc⟩:=scale12 (st:=st) (nb:=nb) (by omega) (by omega) (λx hx=>by have:=Hst2.out x hx;omega) (by omega) (by omega)
     have HM:=zh hM
     have Hsc:=zh hsc
     have HMl:=zh hMl
     have hst1:1<=st.length:=by omega
     have hst9:st.length<=9:=by omega
     have hM4:4<=M.length:=by omega
     have hM7:M.length<=7:=by omega
     have xi:IntKind.u64.wrap (nb:Int)=(nb:Int):=IntWalk.u64_in _ (by omega)
     have xi2:(nb:Int)%18446744073709551616=(nb:Int):=by omega
     clear hM hsc hMl hst
     go_upto_region 15 with fail
     go_cut [14,15] from 112 to 118 (λs14 s15 wx=>∃ (LA:Option Addr) (lc:Nat) (G:Nat->Prop),s14=.slice LA M.length lc/\s15=.int .i64 0/\Hid (LH wb wx G h RG st [] [] [])/\Hid (RowF u64E wx G LA M.length lc M))
     case first =>
      have HSc:=zh (Hsc.out w10 Ab N cb HR10.out.sl HR10.out.cap.1 HR10.out.cap.2)
      go_wp2_with fail
      refine HSc.out.mono ?_
      rintro e w11 ⟨LA,lc,rfl,hc1,hc2,hs,hnew,hb11⟩
      obtain⟨G',g1,g2,g3⟩:=HK10.out.new hb11
      have hlt:=sl_lt hs (by omega)
      have HK11:=zh g1
      have HR11:=zh (show RowF u64E w11 G' LA M.length lc M from ⟨hs,⟨hc1,hc2⟩,λa ha hG=>g3 a.block (hnew a ha) (hlt a ha) hG,hlt⟩)
      clear g1 g2 g3 hs hnew hb11 hlt HSc
      go_wp2_with fail
      go_meet
      exact⟨LA,lc,G',rfl,rfl,HK11,HR11⟩
     case rest =>
      rename World=>w11
      obtain⟨LA,lc,G',rfl,rfl,HK11,HR11⟩:=hcut
      clear HK10 HR10 xi xi2 HBe Hst2 hcs0 hcs4
      go_upto_region 16 with fail
      go_cut [131] from 119 to 130 (λs131 wx=>s131=.bool false/\Hid (LH wb wx G' h RG st [] [] [])/\Hid (RowF u64E wx G' LA M.length lc M))
      case first =>
       have HTx:=zh (rtxt_any nb (by omega) w11)
       have l1:=Lib.itoa_length_le (nb:Int) (by omega) (by omega)
       have z1:¬ 9223372036854775807<6+(Lib.itoa (nb:Int)).length:=by omega
       have z2:¬ 9223372036854775807<6+(Lib.itoa (nb:Int)).length+3:=by omega
       clear l1
       go_wp2_with fail
       refine HTx.out.mono ?_
       rintro e w12 ⟨rfl,hb12⟩
       have HR12:=zh (HR11.out.below hb12)
       have HLi:=zh ((HK11.out.below hb12).scale HGc.out hbc (scale_str nb) (by omega) (by omega) HM.out HMl.out (by omega) Hsc.out)
       clear hb12 HTx
       go_wp2_with fail
       refine HLi.out.mono ?_
       rintro e w13 ⟨z,rfl,hz,hk13,hx13⟩
       have Hz:=zh hz
       have HK13:=zh hk13
       have HR13:=zh (HR12.out.kx hx13)
       have HSz:=zh (sizes_op ⟨#[102,114,101,113]⟩ LA M.length lc M w13 HR13.out.sl (by omega) (by decide) (λx hx=>by have:=HM.out x hx;omega))
       clear hz hk13 hx13 HLi z1 z2
       go_wp2_with fail
       refine HSz.out.mono ?_
       rintro e w14 ⟨z1,rfl,hz1,hb14⟩
       have p1:(z.toList==z1.toList)=true:=by
        rw[beq_iff_eq,Lib.toList_data,Lib.toList_data,Hz.out,hz1]
        simp[linesL,freqW]
       have HK14:=zh (HK13.out.below hb14)
       have HR14:=zh (HR13.out.below hb14)
       clear hz1 hb14 Hz HSz
       go_wp2_with fail
       go_meet
       exact⟨rfl,HK14,HR14⟩
      case rest =>
       rename World=>w13
       obtain⟨rfl,HK13,HR13⟩:=hcut
       clear HK11 HR11
       clear hst1 hst9
       go_upto_region 18 with fail
       go_cut [16] from 132 to 136 (λs16 wx=>∃ (sb:Nat) (G:Nat->Prop),s16=.pointer (some ⟨sb+3,0,none⟩)/\wb.heap.size<=sb/\Hid (∀ a,LA=some a->a.block<sb)/\Hid (LH wb wx G h RG st [] [] [])/\Hid (LS wx G (sb+4) sb none 0 0 [])/\Hid (RowF u64E wx G LA M.length lc M))
       case first =>
        obtain⟨G2,g1,g2,g3,g4⟩:=LS.fresh HK13.out rfl rfl rfl rfl
        have HR14:=zh (HR13.out.to (kx_of_below (S:=λ_=>False) g4) (λ_ _=>id) g3)
        have HK14:=zh g1
        have HS14:=zh g2
        have HLt:=zh HR13.out.lt
        have hlow:=HK13.out.low.size
        clear g1 g2 g3 g4
        go_wp2_with fail
        go_meet
        exact⟨w13.heap.size,G2,rfl,hlow,HLt,HK14,HS14,HR14⟩
       case rest =>
        rename World=>w14
        obtain⟨sb,G2,rfl,hsb,HLt,HK14,HS14,HR14⟩:=hcut
        clear HK13 HR13
        have HLg:=zh (HK14.out.gauges HGc.out hbc gauges_str)
        go_wp2_with fail
        refine HLg.out.mono ?_
        rintro e w15 ⟨z,rfl,-,hk15,hx15⟩
        have HK15:=zh hk15
        have HS15:=zh (HS14.out.kx hx15)
        have HR15:=zh (HR14.out.kx hx15)
        have HLm:=zh (HK15.out.metal HGc.out hbc metal_str rfl)
        clear hk15 hx15 HLg HK14 HS14 HR14
        go_wp2_with fail
        refine HLm.out.mono ?_
        rintro e w16 ⟨z,rfl,-,hk16,hx16⟩
        have HK16:=zh hk16
        have HS16:=zh (HS15.out.kx hx16)
        have HR16:=zh (HR15.out.kx hx16)
        clear hk16 hx16 HLm HK15 HS15 HR15
        go_upto_block 2 with fail
        go_cut [17,18] from 141 to 179 (λ_ _ wx=>∃ (i:Nat) (Ac:Option Addr) (cc:Nat) (co:List Crs) (G:Nat->Prop),1<=i/\i<=6/\Hid (LH wb wx G h RG st [500,400] [⟨7800,[2000,2200]⟩] co)/\Hid (LS wx G (sb+4) sb Ac i cc co)/\Hid (∀ y∈co,CrT y))
        case first =>
         go_wp2_with fail
         go_loopw [17,18] (λs17 _ wr=>∃ (i:Nat) (Ac:Option Addr) (cc:Nat) (co:List Crs) (G:Nat->Prop),s17=.int .i64 (i:Nat)/\i<=M.length/\i<=6/\Hid (LH wb wr G h RG st [500,400] [⟨7800,[2000,2200]⟩] co)/\Hid (LS wr G (sb+4) sb Ac i cc co)/\Hid (∀ y∈co,CrT y)/\Hid (RowF u64E wr G LA M.length lc M)) (λs17 _ _=>6-(intOf s17).toNat)
         case atStart=>exact⟨0,none,0,[],G2,rfl,Nat.zero_le _,Nat.zero_le _,HK16,HS16,zh (λy hy=>by simp at hy),HR16⟩
         case round =>
          clear HK16 HS16 HR16
          obtain⟨i,Ac,cc,co,G3,rfl,hiM,hi6,HK,HS,HC,HR⟩:=hrel
          by_cases hlt:i<M.length
          ·have i1:(i:Int)<(M.length:Int):=by omega
           by_cases hlt6:i<6
           ·have i2:(i:Int)<6:=by omega
            have i0:(0:Int)<=(i:Int):=by omega
            obtain⟨lb,lo,x,hLA,hlbk,hx,c64⟩:=HR.out.sl.at64 hlt
            have hx3:=HM.out x (List.mem_of_getElem? hx)
            obtain⟨bi,hbi⟩:∃ bi:Int,(#[.int .i64 b0,.int .i64 b1,.int .i64 b2,.int .i64 b3,.int .i64 b4,.int .i64 b5]:Array Value)[i]?=some (.int .i64 bi):=by
             have:i=0\/i=1\/i=2\/i=3\/i=4\/i=5:=by omega
             rcases this with rfl|rfl|rfl|rfl|rfl|rfl<;>exact⟨_,rfl⟩
            have ca:wr.cell? ⟨w.heap.size+1,i,none⟩=some (.int .i64 bi):=by rw[cell_of_row _ _ i _ _ (0,0) ((HK.out.low.block _ hlb5).trans HL5.out)];exact hbi
            obtain⟨ml,hml⟩:∃ a,bits .and .i64 bi 8191=a:=⟨_,rfl⟩
            have e1:=mask_in bi 8191 (by decide)
            rw[show ((8191:Nat):Int)=8191 from rfl,hml] at e1
            obtain⟨cl,hcl,hcl6⟩:∃ cl:Nat,ml+500=(cl:Int)/\(500<=cl/\cl<=8691):=⟨(ml+500).toNat,by omega,by omega⟩
            have hx4:60000<=x/\x<=644286:=by omega
            have hw1:w.heap.size+1<wr.heap.size:=Nat.lt_of_lt_of_le hlb5 HK.out.low.size
            have xj2:IntKind.i64.wrap (x:Int)=(x:Int):=IntWalk.i64_in _ (by omega)
            have Hxj:=zh (show wrap64 (x:Int)=(x:Int) from wrap_small rfl (by omega) (by omega))
            have Hml:=zh hml
            have Hcl:=zh hcl
            have Hcl2:=zh (wrap_small hcl (by omega) (by omega))
            have HLt2:=zh HLt.out
            subst hLA
            clear hml e1 hcl hbi hx hx3
            have xj:=Hxj.out
            have cb:=(World.cell?_alloc_lt wr (.cells #[.int .i64 0,.int .i64 0,.int .i64 0,.int .i64 0] 47) ⟨w.heap.size+1,i,none⟩ hw1).trans ca
            have cb64:=(World.cell?_alloc_lt wr (.cells #[.int .i64 0,.int .i64 0,.int .i64 0,.int .i64 0] 47) ⟨lb,lo+i,none⟩ hlbk).trans c64
            go_upto_region 24 with fail
            go_cut [18] from 151 to 161 (λs18 wx=>s18=.pointer (some ⟨wr.heap.size,0,none⟩)/\Hid (wx.heap[wr.heap.size]?=some (.cells #[.int .i64 (cl:Nat),.int .i64 (x:Nat),.int .i64 60000,.int .i64 1] 47 (0,0)))/\Hid (Below wr.heap.size wr wx))
            case first =>
             go_region
             all_goals
              go_wp2_with fail
              go_meet
              rw[Hml.out,Hcl2.out]
              exact⟨rfl,zh (heap_alloc_new wr _),zh ((below_new wr _).drew)⟩
            case rest =>
             rename World=>wa
             obtain⟨rfl,HXc,HBa⟩:=hcut
             clear c64 ca cb cb64 xj xj2
             obtain⟨k0,-,-,-,-,-⟩:=cells5 ((HBa.out.block _ HS.out.lt).trans HS.out.box)
             obtain⟨d0,d1,d2,d3,-⟩:=cells4 HXc.out
             have hba2:=HBa.out.trans ((below_new wa (.cells #[.int .i64 (cl:Nat),.int .i64 (x:Nat),.int .i64 60000,.int .i64 1] 47)).mono HBa.out.size)
             have hdl:=(Array.getElem?_eq_some_iff.1 HXc.out).1
             have HXd:=zh (((below_new wa (.cells #[.int .i64 (cl:Nat),.int .i64 (x:Nat),.int .i64 60000,.int .i64 1] 47)).block _ hdl).trans HXc.out)
             have hz4:sb+4<=wa.heap.size:=Nat.le_trans HS.out.lt HBa.out.size
             have HOw:=zh (ownsRow_below HS.out.row hba2)
             have HBa2:=zh hba2
             clear hba2
             go_upto_region 25 with fail
             go_cut [] from 162 to 167 (λwx=>∃ (A':Option Addr) (c':Nat) (G':Nat->Prop),Hid (LH wb wx G' h RG st [500,400] [⟨7800,[2000,2200]⟩] co)/\Hid (LS wx G' (sb+4) sb A' (i+1) c' (co++[⟨(cl:Nat),(x:Nat),60000,1⟩]))/\Hid (RowF u64E wx G' (some ⟨lb,lo,none⟩) M.length lc M)/\Hid (wx.heap[wr.heap.size]?=some (.cells #[.int .i64 (cl:Nat),.int .i64 (x:Nat),.int .i64 60000,.int .i64 1] 47 (0,0))))
             case first =>
              go_wp2_with (at_builtin;refine wpList_app rfl (.tmp 163) (.tmp 165) _ rfl elemCrsK (sb+4) _ _ _ rfl HOw.out _ _ _ _ rfl (Sl.new wa _ _ 4 1 rfl) (by simp[Value.oneCell']) (by unfold maxLen;omega) (by omega) (by simp;omega) ?_;intro A' c' w2 ho2 hg2 hl2;obtain⟨kk0,-,-,-,-,kf⟩:=cells5 (HS.out.box2 HBa2.out hg2);have kf0:=kf 0;clear kf)
              obtain⟨G',g1,g2,g3,g4,g5⟩:=HS.out.push (x:=⟨(cl:Nat),(x:Nat),60000,1⟩) HK.out hsb HBa2.out hg2 ho2 hl2
              have hr:=HR.out.to g4 (λa ha e=>by have:=HLt2.out a ha;omega) g3
              have hd:=(g5 _ (Nat.le_refl _) (Array.getElem?_eq_some_iff.1 HXd.out).1).trans HXd.out
              go_meet
              exact⟨A',c',G',zh g1,zh g2,zh hr,zh hd⟩
             case rest =>
              rename World=>wd
              obtain⟨A',c',G',HK2,HS2,HR2,HXe⟩:=hcut
              clear k0 d0 d1 d2 d3 HOw HXd hdl hz4 HXc HBa2
              obtain⟨d0,d1,-,-,-⟩:=cells4 HXe.out
              have hdl:=(Array.getElem?_eq_some_iff.1 HXe.out).1
              obtain⟨ι,mk,hmk⟩:=cls_exW wd.heap.size wd
              have hd:=hmk.drew
              have hnei:=hmk.ne
              have t0:=λy=>((hmk.below y).cell hdl).trans d0
              have t1:=λy=>((hmk.below y).cell hdl).trans d1
              have HCa:=zh (λy=>hmk.call (rtxt_any cl (by omega) (mk y)))
              have HCb:=zh (λy=>hmk.call (rtxt_any x (by omega) (mk y)))
              have Hbl:=zh (λy=>hmk.below y)
              have l1:=Lib.itoa_length_le (cl:Int) (by omega) (by omega)
              have l2:=Lib.itoa_length_le (x:Int) (by omega) (by omega)
              have z1:¬ 9223372036854775807<7+(Lib.itoa (cl:Int)).length:=by omega
              have z2:¬ 9223372036854775807<7+(Lib.itoa (cl:Int)).length+1:=by omega
              have z3:¬ 9223372036854775807<7+(Lib.itoa (cl:Int)).length+1+(Lib.itoa (x:Int)).length:=by omega
              have z4:¬ 9223372036854775807<7+(Lib.itoa (cl:Int)).length+1+(Lib.itoa (x:Int)).length+8:=by omega
              clear hmk l1 l2 d0 d1
              go_upto_region 26 with fail
              refine wp_region_headT (C:=λw'=>∃ x,w'=mk x) 11 (by kernel_rfl) (by kernel_rfl) hd ?_
              simp only[List.take_succ_cons,List.take_zero,List.drop_succ_cons,List.drop_zero]
              repeat (go_big_quiet_step (first|(with_reducible exact HCa.out _)|(with_reducible exact HCb.out _)))
              refine wpQuiet_nil ?_
              intro _ hw'
              obtain⟨y,rfl⟩:=hw'
              have HLi:=zh ((HK2.out.below (Hbl.out y)).course HGc.out hbc (course_str cl x) (by omega) (by omega) (by have:=HS.out.len;omega))
              clear t0 t1 z1 z2 z3 z4 HCa HCb
              go_wp2_with fail
              refine HLi.out.mono ?_
              rintro e we ⟨z,rfl,-,hke,hxe⟩
              have HKe:=zh hke
              have HSe:=zh ((HS2.out.below (Hbl.out y)).kx hxe)
              have HRe:=zh ((HR2.out.below (Hbl.out y)).kx hxe)
              have HCe:=zh (show ∀ q∈co++[⟨(cl:Nat),(x:Nat),60000,1⟩],CrT q from λq hq=>by
               rcases List.mem_append.1 hq with hq|hq
               ·exact HC.out q hq
               ·rw[List.mem_singleton] at hq
                subst hq
                exact⟨by dsimp only;omega,by dsimp only;omega,rfl,rfl⟩)
              clear hke hxe HLi
              go_wp2_with fail
              exact⟨⟨i+1,A',c',_,G',by go_num,hlt,hlt6,HKe,HSe,HCe,HRe⟩,by simp[intOf];omega⟩
           ·have i2:¬ (i:Int)<6:=by omega
            have hi1:1<=i:=by omega
            go_wp2_with fail
            go_meet
            exact⟨i,Ac,cc,co,G3,hi1,hi6,HK,HS,HC⟩
          ·have i1:¬ (i:Int)<(M.length:Int):=by omega
           have hi1:1<=i:=by omega
           go_wp2_with fail
           go_meet
           exact⟨i,Ac,cc,co,G3,hi1,hi6,HK,HS,HC⟩
        case rest =>
         rename World=>w17
         obtain⟨i,Ac,cc,co,G4,hi1,hi6,HK17,HS17,HC17⟩:=hcut
         clear HK16 HS16 HR16
         obtain rfl:=HS17.out.len
         have HLs:=zh (HK17.out.string HGc.out hbc string_str HC17.out (by omega) (by omega))
         go_wp2_with fail
         refine HLs.out.mono ?_
         rintro e w18 ⟨z,rfl,hz,hk18,hx18⟩
         have Hz:=zh hz
         have HB18:=zh (HB5.out.trans (hk18.low.mono HB5.out.size))
         have HS18:=zh (HS17.out.kx hx18)
         have HBo:=zh (HS18.out.best HC17.out (by omega) (by omega))
         obtain⟨k0,k1,k2,k3,k4,-⟩:=cells5 HS18.out.box
         clear hz hk18 hx18 HLs HK17 HS17
         go_wp2_with fail
         refine HBo.out.mono ?_
         rintro e w19 ⟨⟨hch,rfl⟩|⟨Pa,Pc,rfl,hch,hP,hG,hcg⟩,hb19⟩
         ·have Hch:=zh hch
          have HB19:=zh (HB18.out.trans (hb19.mono HB18.out.size))
          have HBa:=zh (rbang6_any w19)
          clear hch hb19 k0 k1 k2 k3 k4 HBo
          go_wp2_with fail
          refine HBa.out.mono ?_
          rintro e w20 ⟨z2,rfl,hz2,hb20⟩
          have p1:(z.toList==z2.toList)=true:=by rw[beq_iff_eq,Lib.toList_data,Lib.toList_data,Hz.out,Hch.out,hz2]
          have HF:=zh (HR.out (.returned (.bool true)) w20 ⟨rfl,HB19.out.trans (hb20.mono HB19.out.size)⟩)
          clear hz2 hb20 HBa
          go_wp2_with fail
          exact HF.out
         ·have HP:=zh hP
          have HG':=zh hG
          have HS19:=zh (HS18.out.below hb19)
          have HB19:=zh (HB18.out.trans (hb19.mono HB18.out.size))
          have hcb:=costT_bd HC17.out (by omega) (by omega) (f:=bestG (scT co) 1 2) (λi hi=>⟨(hG i hi).1,(hG i hi).2.1⟩)
          have hpb:=pullT_bd HC17.out (by omega) (by omega) (f:=bestG (scT co) 1 2) (λi hi=>(hG i hi).1)
          rw[show sumI ((List.range co.length).map λi=>prN (scT co) 2 i (bestG (scT co) 1 2 i))=bestC (scT co) 1 2 from rfl] at hcb
          rw[show sumI ((List.range co.length).map λi=>tgP (scT co) i (bestG (scT co) 1 2 i/2,bestG (scT co) 1 2 i%2))=bestU (scT co) 1 2 from rfl] at hpb
          have hpl:=picksL_len (m:=1) (k:=2) (n:=co.length) (λi hi=>(hG i hi).1) (by decide) (by decide)
          have HPu:=zh (HS19.out.pull HC17.out (by omega) (by omega) (pc:=Pc) hP λi hi=>(hG i hi).1)
          have HCo:=zh (λW (hW:Below w19.heap.size w19 W)=>(HS19.out.below hW).cost HC17.out (by omega) (by omega) (pc:=Pc) (hP.below hW) hG hcg)
          have HXb:=zh (λW (hW:Below w19.heap.size w19 W)=>(HS19.out.below hW).box)
          obtain⟨g,hg⟩:∃ g,bestG (scT co) 1 2=g:=⟨_,rfl⟩
          obtain⟨cs2,hcs2⟩:∃ a,bestC (scT co) 1 2=a:=⟨_,rfl⟩
          obtain⟨us,hus⟩:∃ a,bestU (scT co) 1 2=a:=⟨_,rfl⟩
          rw[hg,hcs2,hus] at hch
          rw[hg] at HP HG' hpl
          rw[hcs2] at hcb HCo ⊢
          rw[hus] at hpb HPu
          have Hch:=zh hch
          have HPl:=zh hpl
          obtain⟨k0,k1,k2,k3,k4,-⟩:=cells5 HS19.out.box
          clear hP hG hcg hb19 hch hpl hg hcs2 hus HBo HS18
          go_wp2_with fail
          refine HPu.out.mono ?_
          rintro e w20 ⟨rfl,hb20⟩
          have Hb20:=zh hb20
          have HCo2:=zh (HCo.out w20 hb20)
          clear k0 k1 k2 k3 k4 HPu HCo hb20
          obtain⟨k0,k1,k2,k3,k4,-⟩:=cells5 (HXb.out w20 Hb20.out)
          go_wp2_with fail
          refine HCo2.out.mono ?_
          rintro e w21 ⟨rfl,hb21⟩
          have Hb21:=zh (Hb20.out.trans (hb21.mono Hb20.out.size))
          have HB21:=zh (HB19.out.trans (Hb21.out.mono HB19.out.size))
          have HP21:=zh (HP.out.below Hb21.out)
          clear k0 k1 k2 k3 k4 HCo2 hb21 Hb20 HXb HP
          go_upto_block 4 with fail
          go_cut [27,28] from 206 to 228 (λs27 _ wx=>∃ s:ByteArray,s27=.string s/\s.size<=5+44*co.length/\Hid (s.data.toList=picksL g 2 co.length)/\Hid (Below w21.heap.size w21 wx))
          case first =>
           go_wp2_with fail
           go_loopw [27,28] (λs27 s28 wr=>∃ (t:Nat) (s:ByteArray),s28=.int .i64 (t:Nat)/\t<=co.length/\s27=.string s/\s.size<=5+44*t/\Hid (s.data.toList=picksL g 2 t)/\Hid (Below w21.heap.size w21 wr)) (λ_ s28 _=>co.length-(intOf s28).toNat)
           case atStart=>exact⟨0,⟨#[112,105,99,107,115]⟩,rfl,Nat.zero_le _,rfl,by decide,zh (by simp[picksL,picksW]),zh (Below.refl _ _)⟩
           case round =>
            obtain⟨t,s,rfl,ht,rfl,hsz,Hs,HW⟩:=hrel
            by_cases hlt:t<co.length
            ·have i1:(t:Int)<(co.length:Int):=by omega
             have i0:(0:Int)<=(t:Int):=by omega
             obtain⟨pb,po,l,hPa,hpb',hl,c0,c1⟩:=(HP21.out.below HW.out).at2k hlt
             subst hPa
             have hl2:l=(g t/2,g t%2):=by
              rw[List.getElem?_map,List.getElem?_range hlt] at hl
              exact (Option.some.inj hl).symm
             obtain⟨r1,r2⟩:=div_mod_lt (m:=1) (k:=2) (HG'.out t hlt).1
             obtain⟨p1,p2⟩:=l
             simp only[Prod.mk.injEq] at hl2
             obtain⟨hp1,hp2⟩:=hl2
             rw[← hp1] at r1
             rw[← hp2] at r2
             dsimp only at c0 c1
             have Hp1:=zh hp1
             have Hp2:=zh hp2
             have l1:=Lib.itoa_length_le (p1:Int) (by omega) (by omega)
             have l2:=Lib.itoa_length_le (p2:Int) (by omega) (by omega)
             have z1:¬ 9223372036854775807<1+(Lib.itoa (p1:Int)).length:=by omega
             have z2:¬ 9223372036854775807<1+(Lib.itoa (p1:Int)).length+1:=by omega
             have z3:¬ 9223372036854775807<1+(Lib.itoa (p1:Int)).length+1+(Lib.itoa (p2:Int)).length:=by omega
             have z4:¬ 9223372036854775807<s.size+(1+(Lib.itoa (p1:Int)).length+1+(Lib.itoa (p2:Int)).length):=by omega
             obtain⟨ι,mk,hmk⟩:=cls_exW wr.heap.size wr
             have hd:=hmk.drew
             have hnei:=hmk.ne
             have t0:=λx=>((hmk.below x).cell hpb').trans c0
             have t1:=λx=>((hmk.below x).cell hpb').trans c1
             have HCa:=zh (λx=>hmk.call (rtxt_any p1 (by omega) (mk x)))
             have HCb:=zh (λx=>hmk.call (rtxt_any p2 (by omega) (mk x)))
             have Hbl:=zh (λx=>hmk.below x)
             clear hmk hl hp1 hp2 c0 c1
             go_upto_region 37 with fail
             refine wp_region_clsW (C:=λw'=>∃ x,w'=mk x) (by kernel_rfl) (by kernel_rfl) hd ?_
             repeat (go_big_quiet_step (first|(with_reducible exact HCa.out _)|(with_reducible exact HCb.out _)))
             refine wpQuiet_nil ?_
             intro _ hw'
             obtain⟨x,rfl⟩:=hw'
             have HW5:=zh (HW.out.trans ((Hbl.out x).mono HW.out.size))
             have hss:(s++(⟨#[32]⟩++⟨(Lib.itoa (p1:Int)).toArray⟩++⟨#[58]⟩++⟨(Lib.itoa (p2:Int)).toArray⟩):ByteArray).data.toList=picksL g 2 (t+1):=by
              rw[ba_app,ba_app,ba_app,ba_app,Hs.out,picksL_succ]
              unfold pickL
              rw[← Hp1.out,← Hp2.out]
              simp
             have hsz2:=ba_size (s++(⟨#[32]⟩++⟨(Lib.itoa (p1:Int)).toArray⟩++⟨#[58]⟩++⟨(Lib.itoa (p2:Int)).toArray⟩):ByteArray)
             rw[hss] at hsz2
             have hlen:=HPl.out (t+1) hlt
             have HSS:=zh hss
             obtain⟨s',hs'⟩:∃ s':ByteArray,(s++(⟨#[32]⟩++⟨(Lib.itoa (p1:Int)).toArray⟩++⟨#[58]⟩++⟨(Lib.itoa (p2:Int)).toArray⟩):ByteArray)=s':=⟨_,rfl⟩
             rw[hs'] at HSS hsz2 ⊢
             have hsz3:s'.size<=5+44*(t+1):=by omega
             clear t0 t1 z1 z2 z3 z4 hss hs' l1 l2
             go_wp2_with fail
             exact⟨⟨t+1,s',by go_num,by omega,rfl,hsz3,HSS,HW5⟩,by simp[intOf];omega⟩
            ·obtain rfl:t=co.length:=by omega
             have i1:¬ (co.length:Int)<(co.length:Int):=by omega
             go_wp2_with fail
             go_meet
             exact⟨s,rfl,hsz,Hs,HW⟩
          case rest =>
           rename World=>w22
           obtain⟨s,rfl,hsz,Hs,HW⟩:=hcut
           have HB22:=zh (HB21.out.trans (HW.out.mono HB21.out.size))
           have hb23:=below_new w22 (.cells #[.int .i64 cs2] 3)
           have HLa:=zh (list_op ⟨#[99,111,115,116]⟩ (some ⟨w22.heap.size,0,none⟩) 1 1 [cs2] (w22.alloc (.cells #[.int .i64 cs2] 3)) ⟨rfl,by have h:=Sl.newAt w22 #[.int .i64 cs2] 3 1 1 rfl rfl;exact h⟩ (by omega) (by decide) (λx hx=>by rw[List.mem_singleton] at hx;subst hx;exact hcb))
           have y0:¬ 9223372036854775807<s.size+1:=by omega
           have HB23:=zh (HB22.out.trans (hb23.mono HB22.out.size))
           clear hb23
           go_wp2_with fail
           refine HLa.out.mono ?_
           rintro e w24 ⟨z1,rfl,hz1,hb24⟩
           have y1:z1.size<=1000:=by
            rw[ba_size,hz1,List.length_append]
            have:=row_len (wd:=([99,111,115,116]:List UInt8)) (l:=[cs2]) (λx hx=>by rw[List.mem_singleton] at hx;subst hx;unfold i64B;omega)
            simp at this ⊢
            omega
           have y2:¬ 9223372036854775807<s.size+1+z1.size:=by omega
           have Hz1:=zh hz1
           have HB24:=zh (HB23.out.trans (hb24.mono HB23.out.size))
           have hb25:=below_new w24 (.cells #[.int .i64 us] 3)
           have HLb:=zh (list_op ⟨#[112,117,108,108]⟩ (some ⟨w24.heap.size,0,none⟩) 1 1 [us] (w24.alloc (.cells #[.int .i64 us] 3)) ⟨rfl,by have h:=Sl.newAt w24 #[.int .i64 us] 3 1 1 rfl rfl;exact h⟩ (by omega) (by decide) (λx hx=>by rw[List.mem_singleton] at hx;subst hx;exact hpb))
           have HB25:=zh (HB24.out.trans (hb25.mono HB24.out.size))
           clear hb25 hz1 hb24 HLa
           go_wp2_with fail
           refine HLb.out.mono ?_
           rintro e w26 ⟨z2,rfl,hz2,hb26⟩
           have y3:z2.size<=1000:=by
            rw[ba_size,hz2,List.length_append]
            have:=row_len (wd:=([112,117,108,108]:List UInt8)) (l:=[us]) (λx hx=>by rw[List.mem_singleton] at hx;subst hx;unfold i64B;omega)
            simp at this ⊢
            omega
           have y4:¬ 9223372036854775807<s.size+1+z1.size+z2.size:=by omega
           have p1:(z.toList==(s++⟨#[10]⟩++z1++z2).toList)=true:=by
            rw[beq_iff_eq,Lib.toList_data,Lib.toList_data,ba_app,ba_app,ba_app,Hz.out,Hch.out,Hs.out,Hz1.out,hz2]
            simp[linesL,costW,pullW]
           have HF:=zh (HR.out (.returned (.bool true)) w26 ⟨rfl,HB25.out.trans (hb26.mono HB25.out.size)⟩)
           clear y1 y3 hz2 hb26 HLb
           go_wp2_with fail
           exact HF.out
end
end Go.Proofs.YtjibohkeapdalaaGreatDoor
