/-
  (*House).post: the moves of a line are posted; conditions: the cells hold a house, the tables lie below a block, there are three words for each number. (*House).reverse: an entry of the book the other way round, at any number; conditions: the cells hold a house, the tables lie below a block. named, (*House).balance, (*House).lots; conditions: the cells hold a house, the tables lie below a block, no word is longer than 2^20 bytes. (*House).balance; conditions: the cells hold a house, the tables lie below a block, no word is longer than 2^20 bytes. (*House).lots; conditions: the cells hold a house whose entries are entries, the tables lie below a block.
-/
import Derived.Test.YtjibohkeapdalaaGreatDoorAj
import Derived.StillTailTactics
namespace Go.Proofs.YtjibohkeapdalaaGreatDoor
set_option maxHeartbeats 8000000
set_option maxRecDepth 8000
section
section
open Go.RowKit Go.Shelf
def mvAt(ws:List (List UInt8))(k:Nat)(q:Int):Mv:=⟨⟨(ws.getD (3*k) []).toArray⟩,⟨(ws.getD (3*k+1) []).toArray⟩,⟨(ws.getD (3*k+2) []).toArray⟩,q⟩
def mvsFrom(ws:List (List UInt8)):Nat->List Int->List Mv
 |_,[]=>[]
 |k,q :: r=>mvAt ws k q :: mvsFrom ws (k+1) r
def mvsOf(ws:List (List UInt8))(ns:List Int):List Mv:=mvsFrom ws 0 ns
theorem mvsFrom_snoc(ws:List (List UInt8))(q:Int):∀ (l:List Int) (k:Nat),mvsFrom ws k (l++[q])=mvsFrom ws k l++[mvAt ws (k+l.length) q]
 |[],k=>rfl
 |a :: l,k=>by
  rw[List.cons_append,mvsFrom,mvsFrom,mvsFrom_snoc ws q l (k+1),List.length_cons,show k+1+l.length=k+(l.length+1) by omega]
  rfl
theorem mvsOf_take{ws:List (List UInt8)}{ns:List Int}{k:Nat}{q:Int}(h:ns[k]?=some q):mvsOf ws (ns.take (k+1))=mvsOf ws (ns.take k)++[mvAt ws k q]:=by
 have hk:=(List.getElem?_eq_some_iff.1 h).1
 unfold mvsOf
 rw[List.take_add_one,h]
 show mvsFrom ws 0 (ns.take k++[q])=_
 rw[mvsFrom_snoc,List.length_take,Nat.min_eq_left (by omega),Nat.zero_add]
theorem mvsFrom_len(ws:List (List UInt8)):∀ (l:List Int) (k:Nat),(mvsFrom ws k l).length=l.length
 |[],_=>rfl
 |a :: l,k=>by rw[mvsFrom,List.length_cons,List.length_cons,mvsFrom_len ws l]
theorem mvsOf_len(ws:List (List UInt8))(l:List Int):(mvsOf ws l).length=l.length:=mvsFrom_len ws l 0
theorem getD_small{ws:List (List UInt8)}{k:Nat}(h:∀ x∈ws,x.length<=1000000):(ws.getD k []).length<=1000000:=by
 rw[List.getD_eq_getElem?_getD]
 cases hx:ws[k]? with
 |none=>simp
 |some x=>exact h x (List.mem_of_getElem? hx)
theorem mvsFrom_small{ws:List (List UInt8)}(h:∀ x∈ws,x.length<=1000000):∀ (l:List Int) (k:Nat),mvS (mvsFrom ws k l)
 |[],_=>λm hm=>by cases hm
 |a :: l,k=>λm hm=>by
  rcases List.mem_cons.1 hm with rfl|hm
  ·have h1:=getD_small (k:=3*k) h
   have h2:=getD_small (k:=3*k+1) h
   have h3:=getD_small (k:=3*k+2) h
   refine⟨?_,?_,?_⟩
   ·rw[ba_size];show (ws.getD (3*k) []).length<=_;omega
   ·rw[ba_size];show (ws.getD (3*k+1) []).length<=_;omega
   ·rw[ba_size];show (ws.getD (3*k+2) []).length<=_;omega
  ·exact mvsFrom_small h l (k+1) m hm
theorem str_getD{w:World}{b o n k:Nat}{ws:List (List UInt8)}(h:SlE strE 1 w (some ⟨b,o,none⟩) n (strL ws))(hk:k<n):w.cell? ⟨b,o+k,none⟩=some (.string ⟨(ws.getD k []).toArray⟩):=by
 obtain⟨b',o',x,e,_,hx,hc⟩:=strs_at h hk
 cases e
 unfold strL at hx
 rw[List.getElem?_map] at hx
 cases hy:ws[k]? with
 |none=>rw[hy] at hx;cases hx
 |some y =>
  rw[hy] at hx
  simp only[Option.map_some,Option.some.injEq] at hx
  rw[hc,List.getD_eq_getElem?_getD,hy,← hx]
  rfl
theorem hpost_any(w:World)(F:Nat->Prop)(h a dk:Nat)(d:Dk)(b:Bk)(sh:List Shp)(hh:Hs w F h a dk d b sh)(hi:Inv d b)(hu:Up w F)(B:Nat)(A1:Option Addr)(n1 c1:Nat)(A2:Option Addr)(n2 c2:Nat)(ws:List (List UInt8))(ns:List Int)(hA:ArgsW B w A1 n1 c1 A2 n2 c2 ws ns)(h3:ws.length=3*ns.length)(hn:ns.length<=5000)(hws:∀ x∈ws,x.length<=1000000)(bg:Nat)(hg:Gl bg w)(hb:bg<=w.heap.size)(hF:∀ j,F j->bg<=j) :
 Calls Tryz.prog 171 #[.pointer (some ⟨h,0,none⟩),.agg #[.slice A1 n1 c1,.slice A2 n2 c2]] w λe w'=>∃ v,e=.returned v/\AnsT (postT (postB d b (mvsOf ws ns))) v w'/\Hs w' F h a dk (postB d b (mvsOf ws ns)).1 (postB d b (mvsOf ws ns)).2.1 sh/\Kx F w w':=by
 refine calls_cps ?_
 intro R hR
 have Hr:=zh hR.out
 have HH:=zh hh
 have HI:=zh hi
 have HU:=zh hu
 have HG:=zh hg
 have HA:=zh hA
 have HMS:=zh (show mvS (mvsOf ws ns) from mvsFrom_small hws ns 0)
 have l1:=hA.l1
 have l2:=hA.l2
 have hc1:=(own_cap hA.o1).1
 have L1:=zh l1
 have L2:=zh l2
 have hn1:n1=3*n2:=by omega
 have Hn1:=zh hn1
 have hn2:n2<=5000:=by omega
 obtain⟨w1,hw1⟩:∃ w1,w.alloc (.cells #[.slice A1 n1 c1,.slice A2 n2 c2] 182)=w1:=⟨_,rfl⟩
 have hbx:=heap_alloc_new w (.cells #[.slice A1 n1 c1,.slice A2 n2 c2] 182)
 have hbl:=below_new w (.cells #[.slice A1 n1 c1,.slice A2 n2 c2] 182)
 rw[hw1] at hbx hbl
 have HW1:=zh hw1
 have hs1:w1.heap.size=w.heap.size+1:=by rw[← hw1];simp
 have Hs1:=zh hs1
 have HBX:=zh hbx
 have HBL:=zh hbl
 have HA1:=zh (hA.below hbl)
 obtain⟨x0,x1,-⟩:=cells2 hbx
 clear hR hh hi hu hg hA hws l1 l2 hn1 h3 hbx hbl hw1 hs1
 go_enter Tryz.func171,Tryz.ntmps171
 go_wp2_with fail
 rw[HW1.out]
 clear x0 x1
 go_loopw [5,12] (λs5 s12 wr=>∃ (k:Nat) (A':Option Addr) (c':Nat),k<=n2/\s12=.int .i64 (k:Int)/\s5=.slice A' k c'/\Hid (wr.ownsRow w1.heap.size 264 4 (.slice A' k c') k ((mvsOf ws (ns.take k)).flatMap mvE))/\Hid (Below w1.heap.size w1 wr)) (λ_ s12 _=>n2-(intOf s12).toNat)
 case atStart=>exact⟨0,none,0,Nat.zero_le _,rfl,rfl,zh (by rw[List.take_zero];exact World.ownsRow_nil _ _ _ _),zh (Below.refl _ _)⟩
 case round =>
  obtain⟨k,A',c',hk,rfl,rfl,Ho,Hb⟩:=hrel
  obtain⟨x0,x1,-⟩:=cells2 ((Hb.out.block w.heap.size (by have:=Hs1.out;omega)).trans HBX.out)
  by_cases hlt:k<n2
  ·have hsl:=(HA1.out.below Hb.out).s1
   obtain⟨bi,oi,q,rfl,hbi,hq,q0⟩:=((HA1.out.below Hb.out).s2).at1 hlt
   obtain⟨bs,os,ys,rfl,hbs,hys,-⟩:=strs_at hsl (k:=3*k) (by have:=Hn1.out;omega)
   have p0:=str_getD hsl (k:=3*k) (by have:=Hn1.out;omega)
   have p1:=str_getD hsl (k:=3*k+1) (by have:=Hn1.out;omega)
   have p2:=str_getD hsl (k:=3*k+2) (by have:=Hn1.out;omega)
   have HM:=zh (mvsOf_take (ws:=ws) hq)
   obtain⟨m,hm⟩:∃ m,mvAt ws k q=m:=⟨_,rfl⟩
   have e0:(⟨(ws.getD (3*k) []).toArray⟩:ByteArray)=m.f:=by rw[← hm];rfl
   have e1:(⟨(ws.getD (3*k+1) []).toArray⟩:ByteArray)=m.t:=by rw[← hm];rfl
   have e2:(⟨(ws.getD (3*k+2) []).toArray⟩:ByteArray)=m.i:=by rw[← hm];rfl
   have e3:q=m.q:=by rw[← hm];rfl
   rw[hm] at HM
   rw[e0] at p0
   rw[e1,← Nat.add_assoc] at p1
   rw[e2,← Nat.add_assoc] at p2
   rw[e3] at q0
   have i1:(k:Int)<(n2:Int):=by omega
   have i2:3*(k:Int)<(n1:Int):=by have:=Hn1.out;omega
   have i3:3*(k:Int)+2<(n1:Int):=by have:=Hn1.out;omega
   have i4:3*k<c1:=by have:=Hn1.out;omega
   have j0:0<n1-3*k:=by have:=Hn1.out;omega
   have j1:(1:Int)<((n1-3*k:Nat):Int):=by have:=Hn1.out;omega
   have j2:(2:Int)<((n1-3*k:Nat):Int):=by have:=Hn1.out;omega
   have Hsz:=zh Hb.out.size
   have HO2:=zh (own_drew (Ho.out.alloc (.cells #[.string m.f,.string m.t,.string m.i,.int .i64 m.q] 264)))
   have HSl:=zh (Sl.drew (Sl.new wr #[.string m.f,.string m.t,.string m.i,.int .i64 m.q] 264 4 1 rfl))
   have hszd:w1.heap.size<=(wr.alloc (.cells #[.string m.f,.string m.t,.string m.i,.int .i64 m.q] 264)).drew.heap.size:=by show w1.heap.size<=(wr.alloc (.cells #[.string m.f,.string m.t,.string m.i,.int .i64 m.q] 264)).heap.size;rw[World.size_alloc];have:=Hsz.out;omega
   have Hstep:=zh (λ(A7:Option Addr) (c7:Nat) (w7:World) (ho7:w7.ownsRow w1.heap.size 264 4 (.slice A7 (k+1) c7) (k+1) ((mvsOf ws (ns.take k)).flatMap mvE++[.string m.f,.string m.t,.string m.i,.int .i64 m.q])) (hg7:(wr.alloc (.cells #[.string m.f,.string m.t,.string m.i,.int .i64 m.q] 264)).drew.grownBy w7 (Value.slice A' k c').ownBlock)=>(⟨below_own ((Hb.out.alloc Hsz.out _).drew) HO2.out (Nat.le_refl _) hszd hg7,by rw[HM.out,List.flatMap_append];simpa[mvE] using ho7⟩:Below w1.heap.size w1 w7/\w7.ownsRow w1.heap.size 264 4 (.slice A7 (k+1) c7) (k+1) ((mvsOf ws (ns.take (k+1))).flatMap mvE)))
   clear hsl hq hys hm e0 e1 e2 e3 Ho
   go_upto_region 6 with fail
   go_region_law ((refine step_app rfl (.tmp 22) (.tmp 34) 165 rfl elemMv w1.heap.size (.slice A' k c') k _ ?_ HO2.out (some ⟨wr.heap.size,0,none⟩) 1 1 [.string m.f,.string m.t,.string m.i,.int .i64 m.q] ?_ HSl.out (mv_one [m]) (by unfold maxLen;omega) (by omega) hszd ?_;(· (simp[Act.eval]));(· (simp[Act.eval]));intro A7 c7 w7 ho7 hg7 hp7;obtain⟨hb7,ho8⟩:=Hstep.out A7 c7 w7 ho7 hg7))
   all_goals
    have HO7:=zh ho8
    have HB7:=zh hb7
    clear ho7 hg7 ho8 hb7 hp7
    go_wp2_with fail
    exact⟨⟨k+1,A7,c7,hlt,by go_num,rfl,HO7,HB7⟩,by simp[intOf]<;>omega⟩
  ·have hkn:k=n2:=by omega
   subst hkn
   have i1:¬ (k:Int)<(k:Int):=by omega
   have hlow:Below w.heap.size w wr:=HBL.out.trans (Hb.out.mono (by have:=Hs1.out;omega))
   have ho:=own_mono Ho.out (Nat.zero_le _)
   rw[List.take_of_length_le (by rw[← L2.out];exact Nat.le_refl _)] at ho
   have HP:=zh (posted_any wr F h a dk d b sh (HH.out.below hlow) HI.out (HU.out.below hlow) A' k c' (mvsOf ws ns) ho (by rw[mvsOf_len];exact L2.out) HMS.out (by omega) bg (HG.out.on (hlow.mono hb)) (Nat.le_trans hb hlow.size) hF)
   have HLow:=zh hlow
   clear ho hlow Ho Hb
   go_wp2_with fail
   refine HP.out.mono ?_
   rintro e w5 ⟨v,rfl,q1,q2,q3⟩
   have hfin:=Hr.out _ _ ⟨v,rfl,q1,q2,(kx_of_below HLow.out).trans q3 (λ_ _ h=>h)⟩
   have HFin:=zh hfin
   clear hfin q1 q2 q3 Hr
   go_wp2
   exact HFin.out
end
end
section
section
open Go.RowKit Go.Shelf
def lotL(x:Lot):List UInt8:=rowL (108 :: 111 :: 116 :: 32 :: (x.1.data.toList++32 :: x.2.1.data.toList)) [x.2.2]
theorem enA_on{l:List Mv}{p:Pl}(h:enA l p≠0):p∈plcs l:=Classical.byContradiction λhn=>h (enA_off hn)
theorem plcs_name{l:List Mv}{p:Pl}(h:∀ m∈l,mvOk m=true)(hp:p∈plcs l):p.1.size<=12/\p.2.size<=12:=by
 unfold plcs at hp
 obtain⟨m,hm,hp⟩:=List.mem_flatMap.1 hp
 have h1:=h m hm
 unfold mvOk nameB at h1
 simp only[Bool.and_eq_true,decide_eq_true_eq] at h1
 simp only[List.mem_cons,List.not_mem_nil,or_false] at hp
 rcases hp with rfl|rfl
 ·exact⟨by dsimp only;omega,by dsimp only;omega⟩
 ·exact⟨by dsimp only;omega,by dsimp only;omega⟩
theorem balE_on:∀ {E:List (List Mv)} {p:Pl},(∀ e∈E,enOk e=true)->balE E p≠0->p.1.size<=12/\p.2.size<=12
 |[],p,_,h=>absurd rfl h
 |e :: E,p,he,h=>by
  have hc:balE (e :: E) p=enA e p+balE E p:=by
   unfold balE
   rw[List.map_cons,List.sum_cons]
  by_cases h0:balE E p=0
  ·have h1:enA e p≠0:=by omega
   have h2:=he e List.mem_cons_self
   unfold enOk at h2
   simp only[Bool.and_eq_true,List.all_eq_true] at h2
   exact plcs_name h2.1.1 (enA_on h1)
  ·exact balE_on (λx hx=>he x (List.mem_cons_of_mem _ hx)) h0
theorem lot_size(f i:ByteArray):((⟨#[108,111,116,32]⟩:ByteArray)++f++⟨#[32]⟩++i).size=5+f.size+i.size:=by
 rw[ba_size]
 simp only[ba_app,List.length_append,← ba_size]
 show 4+f.size+1+i.size=_
 omega
theorem lots_small(L:List Lot)(h:∀ x∈L,x.1.size<=12/\x.2.1.size<=12/\i64B x.2.2):(linesL (L.map lotL)).length<=100*L.length:=by
 induction L with
 |nil=>simp[linesL]
 |cons x L ih =>
  have h1:=ih λy hy=>h y (List.mem_cons_of_mem _ hy)
  obtain⟨h2,h3,h4⟩:=h x List.mem_cons_self
  have h5:=Lib.itoa_length_le x.2.2 h4.1 h4.2
  have e1:=ba_size x.1
  have e2:=ba_size x.2.1
  unfold linesL at h1 ⊢
  rw[List.map_cons,List.flatMap_cons,List.length_append,List.length_cons,List.length_append,List.length_singleton]
  simp only[lotL,rowL,List.flatMap_cons,List.flatMap_nil,List.length_append,List.length_cons,List.length_nil]
  omega
theorem SlE.lot_at{w:World}{A:Option Addr}{n k:Nat}{l:List Lot}(h:SlE lotE 3 w A n l)(hk:k<n) :
 ∃ b o m,A=some ⟨b,o,none⟩/\b<w.heap.size/\l[k]?=some m/\w.cell? ⟨b,o+k*3,none⟩=some (.string m.1)/\w.cell? ⟨b,o+k*3+1,none⟩=some (.string m.2.1)/\w.cell? ⟨b,o+k*3+2,none⟩=some (.int .i64 m.2.2):=by
 obtain⟨b,o,m,hA,hb,hm,hc⟩:=h.at_ lotE_len hk
 exact⟨b,o,m,hA,hb,hm,hc 0 _ rfl,hc 1 _ rfl,hc 2 _ rfl⟩
theorem clots_any(w:World)(F:Nat->Prop)(h a dk:Nat)(d:Dk)(b:Bk)(sh:List Shp)(hh:Hs w F h a dk d b sh)(hi:Inv d b)(A1:Option Addr)(n1 c1:Nat)(A2:Option Addr)(n2 c2:Nat)(bg:Nat)(hg:Gl bg w)(hb:bg<=w.heap.size) :
 Calls Tryz.prog 174 #[.pointer (some ⟨h,0,none⟩),.agg #[.slice A1 n1 c1,.slice A2 n2 c2]] w λe w'=>∃ r L,e=.returned r/\LotsOf (balE b.E) L/\L.Pairwise (λx y=>cfL x y<=0)/\AnsT (linesL (L.map lotL)) r w'/\Below w.heap.size w w':=by
 refine calls_cps ?_
 intro R hR
 have Hr:=zh hR.out
 have HG:=zh hg
 have HI:=zh hi
 have hb1:=below_al1' (below_new w (.cells #[.slice A1 n1 c1,.slice A2 n2 c2] 182)) (.cells #[] 9)
 have ho1:=own_newAt (w.alloc (.cells #[.slice A1 n1 c1,.slice A2 n2 c2] 182)) #[] 9 1 0 w.heap.size rfl (by simp) (by unfold maxLen;omega) rfl
 rw[World.size_alloc] at ho1
 obtain⟨W1,hW1⟩:∃ W1,(w.alloc (.cells #[.slice A1 n1 c1,.slice A2 n2 c2] 182)).alloc (.cells #[] 9)=W1:=⟨_,rfl⟩
 rw[hW1] at hb1 ho1
 have HW1:=zh hW1
 have HB1:=zh hb1
 have HO1:=zh ho1
 obtain⟨A0,c0,-,-,q2,-⟩:=(hh.below hb1).at
 rw[← hW1] at q2
 have HL:=zh (blots_any W1 F a dk b (hh.below hb1).bd.book (by have:=hi.few;omega))
 clear hR hh hi hg hb1 ho1 hW1
 go_enter Tryz.func174,Tryz.ntmps174
 go_wp2_with fail
 rw[HW1.out]
 refine HL.out.mono ?_
 rintro e w2 ⟨A,c,L,rfl,hlo,hpw,hlen,hx,hnew,hb2⟩
 have Hnew:=zh hnew
 have Hs1:=zh (show W1.heap.size=w.heap.size+2 by rw[← HW1.out];simp)
 have Hs2:=zh hb2.size
 have HLo:=zh hlo
 have HPw:=zh hpw
 have HX:=zh hx
 have HB2:=zh (HB1.out.trans (hb2.mono HB1.out.size))
 have HO2:=zh (ownsRow_below HO1.out hb2)
 have HS:=zh (show ∀ x∈L,x.1.size<=12/\x.2.1.size<=12/\i64B x.2.2 from λx hx=>by
  obtain⟨h1,h2,h3⟩:=HLo.out.all x hx
  rw[h2] at h3
  have h4:=balE_on HI.out.ent h3
  have h5:=HI.out.jour.now (x.1,x.2.1)
  obtain⟨h6,h7,_⟩:=h5
  unfold mxQ at h6 h7
  exact⟨h4.1,h4.2,by rw[h2];exact⟨by omega,by omega⟩⟩)
 obtain⟨N,hN⟩:∃ N,L.length=N:=⟨_,rfl⟩
 have HN:=zh hN
 rw[hN] at hlen HX
 clear hlo hpw hx hb2 q2 hN hnew
 rw[HN.out]
 go_wp2_with fail
 go_loopw [5,15] (λs5 s15 wr=>∃ (k:Nat) (A':Option Addr) (c':Nat),k<=N/\s15=.int .i64 (k:Int)/\s5=.slice A' k c'/\Hid (wr.ownsRow w.heap.size 9 1 (.slice A' k c') k ((strL ((L.take k).map lotL)).flatMap strE))/\Hid (Below w.heap.size w wr)/\Hid (SlE lotE 3 wr A N L)/\Hid (w2.heap.size<=wr.heap.size)/\Hid (∀ g,(Value.slice A' k c').ownBlock=some g->g=w.heap.size+1\/w2.heap.size<=g)) (λ_ s15 _=>N-(intOf s15).toNat)
 case atStart=>exact⟨0,_,_,Nat.zero_le _,rfl,rfl,zh (by simpa[strL] using HO2.out),HB2,HX,zh (Nat.le_refl _),zh (λg hg=>.inl (by simpa[Value.ownBlock] using hg.symm))⟩
 case round =>
  obtain⟨k,A',c',hk,rfl,rfl,Ho,Hb,Hx,Hwr,Hg⟩:=hrel
  by_cases hlt:k<N
  ·obtain⟨b0,o,y,rfl,hb0,hy,q0,q1,q2⟩:=Hx.out.lot_at hlt
   have HB0:=zh (show b0<w2.heap.size by
    obtain⟨b',o',e',hb',_⟩:=HX.out.2.2 (by omega)
    cases e'
    exact hb')
   obtain⟨z1,z2,z3,z4⟩:=HS.out y (List.mem_of_getElem? hy)
   have i1:(k:Int)<(N:Int):=by omega
   have Hy:=zh hy
   have r1:¬ 9223372036854775807<4+y.1.size:=by omega
   have r2:¬ 9223372036854775807<4+y.1.size+1:=by omega
   have r3:¬ 9223372036854775807<4+y.1.size+1+y.2.1.size:=by omega
   have hbox:=heap_alloc_new wr (.cells #[.string y.1,.string y.2.1,.int .i64 y.2.2] 400)
   obtain⟨p0,p1,p2,-⟩:=cells3 hbox
   have hbb:=below_al1' (below_new wr (.cells #[.string y.1,.string y.2.1,.int .i64 y.2.2] 400)) (.cells #[.int .i64 y.2.2] 3)
   have HBB:=zh hbb
   have HRow:=zh (row_any ((⟨#[108,111,116,32]⟩:ByteArray)++y.1++⟨#[32]⟩++y.2.1) (some ⟨wr.heap.size+1,0,none⟩) 1 1 [y.2.2] ((wr.alloc (.cells #[.string y.1,.string y.2.1,.int .i64 y.2.2] 400)).alloc (.cells #[.int .i64 y.2.2] 3))
    ⟨rfl,by have h:=Sl.newAt (wr.alloc (.cells #[.string y.1,.string y.2.1,.int .i64 y.2.2] 400)) #[.int .i64 y.2.2] 3 1 1 rfl (b:=wr.heap.size+1) (by simp);exact h⟩ (by omega) (by rw[lot_size];omega) (λx hx=>by rw[List.mem_singleton] at hx;subst hx;exact⟨by omega,by omega⟩) bg (HG.out.on ((Hb.out.mono hb).trans (hbb.mono (by have:=Hb.out.size;omega)))) (by have:=Hb.out.size;simp;omega))
   clear hbox hbb hy
   go_wp2_with fail
   refine HRow.out.mono ?_
   rintro en w4 ⟨rfl,hb4⟩
   have HB4:=zh (HBB.out.trans (hb4.mono HBB.out.size))
   have HO4:=zh (ownsRow_below Ho.out HB4.out)
   have HX4:=zh (Hx.out.below HB4.out)
   have HBW4:=zh (Hb.out.trans (HB4.out.mono Hb.out.size))
   clear hb4 p0 p1 p2 q0 q1 q2 Ho Hb Hx
   go_wp2_with (at_builtin;refine wpList_app rfl (.tmp 19) (.tmp 31) _ rfl elemLn w.heap.size _ _ _ rfl (HO4.out.alloc _) _ _ _ _ rfl (Sl.newAt _ _ _ 1 1 rfl rfl) (by simp[Value.oneCell']) (by unfold maxLen;omega) (by omega) (by have:=HBW4.out.size;simp;omega) ?_;intro A5 c5 w5 ho5 hg5 hp5;have HO5:=zh ho5;have HG5:=zh hg5;have HP5:=zh hp5;clear ho5 hg5 hp5)
   have hlow:Below w.heap.size w w5:=below_own (HBW4.out.alloc HBW4.out.size _) (HO4.out.alloc _) (Nat.le_refl _) (by have:=HBW4.out.size;simp;omega) HG5.out
   have hx5:SlE lotE 3 w5 (some ⟨b0,o,none⟩) N L:=(HX4.out.alloc (.cells #[.string ⟨(lotL y).toArray⟩] 9)).low (λa hn ha=>by
    cases ha
    have h0:=Hnew.out _ rfl
    dsimp only at h0
    have h2:b0<w4.heap.size:=by
     obtain⟨b',o',e',hb',_⟩:=HX4.out.2.2 hn
     cases e'
     exact hb'
    refine HG5.out.block b0 (by simp;omega) (λe=>?_)
    rcases Hg.out b0 e.symm with h|h
    ·have:=Hs1.out;omega
    ·have:=HB0.out;omega) HG5.out.size
   refine⟨⟨k+1,A5,c5,hlt,by go_num,rfl,zh ?_,zh hlow,zh hx5,zh ?_,zh (λg hg=>?_)⟩,by simp[intOf]<;>omega⟩
   case refine_2 =>
    have h1:=HG5.out.size
    have h2:=HB4.out.size
    have h3:=Hwr.out
    simp at h1
    omega
   case refine_3 =>
    rcases HP5.out with h|h
    ·exact Hg.out g (h ▸ hg)
    ·rw[h] at hg
     cases hg
     right
     have h2:=HB4.out.size
     have h3:=Hwr.out
     simp
     omega
   have e6:strL ((L.take (k+1)).map lotL)=strL ((L.take k).map lotL)++[⟨(lotL y).toArray⟩]:=by
    rw[List.take_add_one,Hy.out,List.map_append]
    unfold strL
    rw[List.map_append]
    rfl
   rw[e6,List.flatMap_append]
   exact HO5.out
  ·have hkn:k=N:=by omega
   subst hkn
   have i1:¬ (k:Int)<(k:Int):=by omega
   have hx:=SlE.of_own Ho.out (by unfold strL;rw[List.length_map,List.length_map,List.length_take,HN.out];omega)
   rw[List.take_of_length_le (by rw[HN.out];exact Nat.le_refl _)] at hx
   have hkc:k<=c':=(own_cap Ho.out).1
   have e1:(strL (L.map lotL)).map (·.data.toList)=L.map lotL:=by
    unfold strL
    rw[List.map_map,List.map_map]
    rfl
   have hf:=Hr.out (.returned (.iface 387 (.slice A' k c'))) wr ⟨_,L,rfl,HLo.out,HPw.out,.inr ⟨A',k,c',_,rfl,hx,hlen,hkc,by rw[e1];have:=lots_small L HS.out;have:=HN.out;omega,by rw[e1]⟩,Hb.out⟩
   have HF:=zh hf
   clear Hr hf hx Ho Hb
   go_wp2
   exact HF.out
end
end
end Go.Proofs.YtjibohkeapdalaaGreatDoor
