/-
plan's longest ways; conditions: those of each theorem.
-/
import Derived.Test.YtgbnicokglpdbaaGreatDoorBb
import Derived.Deep.RegionHeld3
namespace Go.Proofs.YtgbnicokglpdbaaGreatDoor
set_option maxHeartbeats 8000000
set_option maxRecDepth 8000
section
open Go.RowKit
theorem kI(m:Nat)(hm:m<=100000)(w:World):(Instr.makeSlice 27 (.int .i64 (m:Int)) (.int .i64 (m:Int))).run Tryz.prog w=.ok (.slice (some ⟨w.heap.size,0,none⟩) m m) (w.alloc (.cells (madeCells #[Value.int .i64 0] m) 3)):=
 run_make_row' 27 3 (.int .i64 0) 8 Tryz.underlying27 (by kernel_rfl) rfl .i64 .i64 m (by omega) (by omega) w
theorem E4:(Tryz.prog.info? 246).map (λi=>(i.zero,i.size,i.bytes))=some (some (.agg #[.int .i64 0,.bool false]),2,16):=by kernel_rfl
theorem BX(m:Nat)(hm:m<=100000)(w:World):(Instr.makeSlice 240 (.int .i64 (m:Int)) (.int .i64 (m:Int))).run Tryz.prog w=.ok (.slice (some ⟨w.heap.size,0,none⟩) m m) (w.alloc (.cells (madeCells #[.int .i64 0,.bool false] (m*2)) 246)):=by
 obtain⟨i,hi,eF⟩:=Option.map_eq_some_iff.1 E4
 simp only[Prod.mk.injEq] at eF
 obtain⟨hz,hs,hb⟩:=eF
 have hr:=run_make (P:=Tryz.prog) w 240 246 i _ Tryz.underlying240 hi hz .i64 .i64 m m (by omega) (Int.le_refl _) (by rw[hb];omega) (by omega)
 simp only[Int.toNat_natCast,hs] at hr
 exact hr
theorem cM{W:World}{g m:Nat}(h:W.heap[g]?=some (.cells (madeCells #[Value.int .i64 0] m) 3 (0,0))):az W g m λ_=>0:=
 ⟨_,h,size_madeCells _ _,λi hi=>by simp[madeCells,hi,Nat.mod_one]⟩
theorem mz{W:World}{g m:Nat}(h:W.heap[g]?=some (.cells (madeCells #[Value.int .i64 0,.bool false] (m*2)) 246 (0,0))):dF W g m λ_=>(0,false):=
 ⟨_,h,size_madeCells _ _,λi hi=>by
  have h1:i*2<m*2:=by omega
  have h2:i*2+1<m*2:=by omega
  have h3:(i*2+1)%2=1:=by omega
  simp[madeCells,h1,h2,h3]⟩
def ja(W:World)(g:Nat)(E:List Ac)(F:Nat->Int):Prop:=∃ cur:Array Value,W.heap[g]?=some (.cells cur 238 (0,0))/\E.length*7<=cur.size/\
 ∀ i a,E[i]?=some a->cur[i*7]?=some (.int .i64 (a.f:Nat))/\cur[i*7+1]?=some (.int .i64 (a.t:Nat))/\cur[i*7+2]?=some (.int .i64 a.l)/\cur[i*7+3]?=some (.int .i64 a.r)/\cur[i*7+4]?=some (.int .i64 (F i))/\cur[i*7+5]?=some (.int .i64 (a.k:Nat))/\cur[i*7+6]?=some (.int .i64 (a.num:Nat))
theorem ja.at_{W:World}{g:Nat}{E:List Ac}{F:Nat->Int}(h:ja W g E F){i:Nat}{a:Ac}(hi:E[i]?=some a):g<W.heap.size/\W.cell? ⟨g,i*7,none⟩=some (.int .i64 (a.f:Nat))/\W.cell? ⟨g,i*7+1,none⟩=some (.int .i64 (a.t:Nat))/\W.cell? ⟨g,i*7+2,none⟩=some (.int .i64 a.l)/\
 W.cell? ⟨g,i*7+3,none⟩=some (.int .i64 a.r)/\W.cell? ⟨g,i*7+4,none⟩=some (.int .i64 (F i))/\W.cell? ⟨g,i*7+5,none⟩=some (.int .i64 (a.k:Nat))/\W.cell? ⟨g,i*7+6,none⟩=some (.int .i64 (a.num:Nat))/\∀ j,W.frozen? ⟨g,j,none⟩=false:=by
 obtain⟨cur,h1,-,h3⟩:=h
 obtain⟨e0,e1,e2,e3,e4,e5,e6⟩:=h3 i a hi
 refine⟨(Array.getElem?_eq_some_iff.1 h1).1,?_,?_,?_,?_,?_,?_,?_,λj=>by simp[World.frozen?,h1]⟩<;>(rw[cell_of_row _ _ _ _ _ (0,0) h1];assumption)
structure ii(W:World)(nb g:Nat)(E:List Ac)(F:Nat->Int)(n c tl:Nat)(PA:Option Addr)(pn pc:Nat):Prop where
 box:W.heap[nb]?=some (.cells #[.int .i64 (n:Nat),.slice (some ⟨g,0,none⟩) E.length c,.int .i64 (tl:Nat),.slice PA pn pc] 236 (0,0))
 arcs:ja W g E F
theorem ja.on{W w:World}{g:Nat}{E:List Ac}{F:Nat->Int}(h:ja W g E F)(e:w.heap[g]?=W.heap[g]?):ja w g E F:=by obtain⟨cur,h1,h2⟩:=h;exact⟨cur,e.trans h1,h2⟩
theorem ja.lt{W:World}{g:Nat}{E:List Ac}{F:Nat->Int}(h:ja W g E F):g<W.heap.size:=by obtain⟨cur,h1,-⟩:=h;exact (Array.getElem?_eq_some_iff.1 h1).1
theorem ii.below{W w:World}{nb g n c tl pn pc:Nat}{E:List Ac}{F:Nat->Int}{PA:Option Addr}(h:ii W nb g E F n c tl PA pn pc)(hb:Below W.heap.size W w):ii w nb g E F n c tl PA pn pc:=
 ⟨(hb.block _ (Array.getElem?_eq_some_iff.1 h.box).1).trans h.box,h.arcs.on (hb.block _ h.arcs.lt)⟩
def C7(x:Nat×Nat×Int):List Value:=[.int .i64 (x.1:Nat),.int .i64 (x.2.1:Nat),.int .i64 x.2.2,.int .i64 0,.int .i64 0,.int .i64 0,.int .i64 0]
theorem dB(w:World)(a b c d:Obj):(((((w.alloc a).alloc b).alloc c).alloc d).heap[w.heap.size]?=some a/\((((w.alloc a).alloc b).alloc c).alloc d).heap[w.heap.size+1]?=some b/\((((w.alloc a).alloc b).alloc c).alloc d).heap[w.heap.size+1+1]?=some c/\((((w.alloc a).alloc b).alloc c).alloc d).heap[w.heap.size+1+1+1]?=some d)/\Below w.heap.size w (((((w.alloc a).alloc b).alloc c).alloc d)).drew:=by
 have s1:(w.alloc a).heap.size=w.heap.size+1:=by simp
 have s2:((w.alloc a).alloc b).heap.size=w.heap.size+1+1:=by simp
 have s3:(((w.alloc a).alloc b).alloc c).heap.size=w.heap.size+1+1+1:=by simp
 have h0:=heap_alloc_new w a
 have h1:=heap_alloc_new (w.alloc a) b
 have h2:=heap_alloc_new ((w.alloc a).alloc b) c
 have h3:=heap_alloc_new (((w.alloc a).alloc b).alloc c) d
 rw[s1] at h1
 rw[s2] at h2
 rw[s3] at h3
 have l1:=λk (h:k<w.heap.size+1)=>Below.heap_alloc (w.alloc a) b k (by rw[s1];exact h)
 have l2:=λk (h:k<w.heap.size+1+1)=>Below.heap_alloc ((w.alloc a).alloc b) c k (by rw[s2];exact h)
 have l3:=λk (h:k<w.heap.size+1+1+1)=>Below.heap_alloc (((w.alloc a).alloc b).alloc c) d k (by rw[s3];exact h)
 refine⟨⟨(l3 _ (by omega)).trans ((l2 _ (by omega)).trans ((l1 _ (by omega)).trans h0)),(l3 _ (by omega)).trans ((l2 _ (by omega)).trans h1),(l3 _ (by omega)).trans h2,h3⟩,?_⟩
 exact (((((Below.refl w.heap.size w).alloc (Nat.le_refl _) a).alloc (by omega) b).alloc (by omega) c).alloc (by omega) d).drew
theorem o8{W:World}{g f t k num:Nat}{l r x:Int}(h:W.heap[g]?=some (.cells #[.int .i64 (f:Nat),.int .i64 (t:Nat),.int .i64 l,.int .i64 r,.int .i64 x,.int .i64 (k:Nat),.int .i64 (num:Nat)] 238 (0,0))):W.cell? ⟨g,0,none⟩=some (.int .i64 (f:Nat))/\W.cell? ⟨g,1,none⟩=some (.int .i64 (t:Nat))/\W.cell? ⟨g,2,none⟩=some (.int .i64 l)/\W.cell? ⟨g,3,none⟩=some (.int .i64 r)/\W.cell? ⟨g,4,none⟩=some (.int .i64 x):=by
 refine⟨?_,?_,?_,?_,?_⟩<;>(rw[cell_of_row _ _ _ _ _ (0,0) h];rfl)
theorem J9{w wx:World}{n lb pb bl bp:Nat}{s8 s9:Value}(h8:s8=.pointer (some ⟨bl,0,none⟩))(h9:s9=.pointer (some ⟨bp,0,none⟩))(a:wx.heap[bl]?=some (.cells #[.slice (some ⟨lb,0,none⟩) n n] 27 (0,0)))(b:wx.heap[bp]?=some (.cells #[.slice (some ⟨pb,0,none⟩) n n] 240 (0,0)))(c:az wx lb n λ_=>0)(d:dF wx pb n λ_=>(0,false))(e:Below w.heap.size w wx)
 (f1:w.heap.size<=lb) (f2:w.heap.size<=pb) (f3:w.heap.size<=bl) (f4:w.heap.size<=bp) :
 ∃ lb pb bl bp,s8=.pointer (some ⟨bl,0,none⟩)/\s9=.pointer (some ⟨bp,0,none⟩)/\w.heap.size<=lb/\w.heap.size<=pb/\w.heap.size<=bl/\w.heap.size<=bp/\Hid (az wx lb n λ_=>0)/\Hid (dF wx pb n λ_=>(0,false))/\Hid (wx.heap[bl]?=some (.cells #[.slice (some ⟨lb,0,none⟩) n n] 27 (0,0)))/\Hid (wx.heap[bp]?=some (.cells #[.slice (some ⟨pb,0,none⟩) n n] 240 (0,0)))/\Hid (Below w.heap.size w wx):=
 ⟨lb,pb,bl,bp,h8,h9,f1,f2,f3,f4,zh c,zh d,zh a,zh b,zh e⟩
theorem vy(w:World)(nb g:Nat)(E:List Ac)(F:Nat->Int)(n c tl:Nat)(PA:Option Addr)(pn pc:Nat)(hN:ii w nb g E F n c tl PA pn pc)(r:Nat)(MA:Option Addr)(mn mc:Nat)(m:List (Nat×Nat×Int))(hm:ag C7 7 w MA mn m){M U B:Int}{f:Nat->Int}(hc:Cf (aq E F 0++aU m) n r M U B f)(hn:n<=1000)(hh:mn<=1000)(hE:E.length<=100000) :
 Calls Tryz.prog 148 #[.pointer (some ⟨nb,0,none⟩),.int .i64 (r:Nat),.slice MA mn mc] w λe w'=>∃ lb pb,w.heap.size<=lb/\w.heap.size<=pb/\e=.returned (.tuple #[.slice (some ⟨lb,0,none⟩) n n,.slice (some ⟨pb,0,none⟩) n n])/\az w' lb n (cK (aq E F 0++aU m) (bB r)).L/\dF w' pb n (cK (aq E F 0++aU m) (bB r)).P/\Below w.heap.size w w':=by
 refine ae ?_
 intro R hR
 have HR:=zh hR.out
 have HN:=zh hN
 have Hm:=zh hm
 have Hc:=zh hc
 have ev:=hc.rn
 obtain⟨k0,-⟩:=an hN.box
 have g0:=(Array.getElem?_eq_some_iff.1 hN.box).1
 have Hk:=zh (λW' (hb:Below w.heap.size w W')=>(hb.cell (p:=⟨nb,0,none⟩) g0).trans k0)
 have gO:=kI n (by omega)
 have gT:=BX n (by omega)
 clear hR hN hm hc
 go_enter Tryz.func148,Tryz.ntmps148
 go_upto_region 1 with fail
 go_cut [8,9] from 17 to 26 (λs8 s9 wx=>∃ lb pb bl bp,s8=.pointer (some ⟨bl,0,none⟩)/\s9=.pointer (some ⟨bp,0,none⟩)/\w.heap.size<=lb/\w.heap.size<=pb/\w.heap.size<=bl/\w.heap.size<=bp/\Hid (az wx lb n λ_=>0)/\Hid (dF wx pb n λ_=>(0,false))/\Hid (wx.heap[bl]?=some (.cells #[.slice (some ⟨lb,0,none⟩) n n] 27 (0,0)))/\Hid (wx.heap[bp]?=some (.cells #[.slice (some ⟨pb,0,none⟩) n n] 240 (0,0)))/\Hid (Below w.heap.size w wx))
 case first =>
  go_region_held3 (λw'=>w'.cell? ⟨nb,0,none⟩=some (.int .i64 (n:Nat))) (first|exact k0|(refine Hk.out _ ?_;repeat (first|with_reducible exact Below.refl _ _|with_reducible refine Below.drew ?_|with_reducible refine Below.alloc ?_ (by first|(simp;done)|(simp;omega)) _|with_reducible refine Below.setCell ?_ (by first|(simp;done)|(simp;omega)) _))) (fail)
  all_goals
   go_wp2_with fail
   go_meet
   refine' J9 rfl rfl _ _ _ _ (dB w _ _ _ _).2 _ _ _ _
   rotate_left 2
   ·first|exact (dB w _ _ _ _).1.1|exact (dB w _ _ _ _).1.2.1|exact (dB w _ _ _ _).1.2.2.1|exact (dB w _ _ _ _).1.2.2.2
   ·first|exact (dB w _ _ _ _).1.1|exact (dB w _ _ _ _).1.2.1|exact (dB w _ _ _ _).1.2.2.1|exact (dB w _ _ _ _).1.2.2.2
   ·first|exact cM (dB w _ _ _ _).1.1|exact cM (dB w _ _ _ _).1.2.1|exact cM (dB w _ _ _ _).1.2.2.1|exact cM (dB w _ _ _ _).1.2.2.2
   ·first|exact mz (dB w _ _ _ _).1.1|exact mz (dB w _ _ _ _).1.2.1|exact mz (dB w _ _ _ _).1.2.2.1|exact mz (dB w _ _ _ _).1.2.2.2
   all_goals omega
 rename World=>w1
 obtain⟨lb,pb,bl,bp,rfl,rfl,f1,f2,f3,f4,HL,HP,cc,cx,HB⟩:=hcut
 have n1:lb≠bl:=by
  rintro rfl
  obtain⟨cur,e1,-⟩:=HL.out
  rw[cc.out] at e1
  simp at e1
 have n2:lb≠bp:=by
  rintro rfl
  obtain⟨cur,e1,-⟩:=HL.out
  rw[cx.out] at e1
  simp at e1
 have n3:=Cp HL.out HP.out
 have cO:=(Array.getElem?_eq_some_iff.1 cc.out).1
 have c0:w1.cell? ⟨bl,0,none⟩=some (.slice (some ⟨lb,0,none⟩) n n):=by rw[cell_of_row _ _ 0 _ _ (0,0) cc.out];rfl
 clear gO gT k0 Hk
 go_upto_block 0 with fail
 go_cut [10,29] from 29 to 35 (λ_ _ wx=>Hid (az wx lb n λ_=>aJ)/\Hid (Kx (λj=>j=lb) w1 wx))
 case first =>
  go_wp2_with fail
  go_loopw [10,29] (λ_ s29 wr=>∃ k:Nat,s29=.int .i64 (k:Nat)/\k<=n/\Hid (az wr lb n λv=>if v<k then aJ else 0)/\Hid (Kx (λj=>j=lb) w1 wr)) (λ_ s29 _=>n-(intOf s29).toNat)
  case atStart=>exact⟨0,rfl,Nat.zero_le _,zh (HL.out.congr λi _=>by rw[if_neg (Nat.not_lt_zero i)]),zh (Kx.refl _ _)⟩
  obtain⟨k,rfl,hk,bm,bw⟩:=hrel
  by_cases aa:k<n
  ·have i1:(k:Int)<(n:Int):=by omega
   have i0:(0:Int)<=(k:Int):=by omega
   obtain⟨p1,p2⟩:=bm.out.at_ aa
   have c1:wr.cell? ⟨bl,0,none⟩=some (.slice (some ⟨lb,0,none⟩) n n):=by rw[World.cell?_of_block (w:=w1) (a:=⟨bl,0,none⟩) (bw.out.block bl cO (Ne.symm n1))];exact c0
   have HF:=zh (And.intro ((bm.out.set aJ aa).congr (L':=λv=>if v<k+1 then aJ else 0) λi hi=>by
    by_cases e:i=k
    ·subst e;rw[bH,if_pos (Nat.lt_succ_self _)]
    rw[bA _ _ e]
    by_cases e2:i<k
    ·rw[if_pos e2,if_pos (by omega)]
    rw[if_neg e2,if_neg (by omega)]) ((bw.out).trans (aI wr lb k (.int .i64 aJ)) λ_ _ e=>e))
   go_wp2_with fail
   exact⟨⟨k+1,by go_num,aa,zh HF.out.1,zh HF.out.2⟩,by simp[intOf];omega⟩
  obtain rfl:k=n:=by omega
  have i1:¬ (k:Int)<(k:Int):=by omega
  go_wp2_with fail
  go_meet
  exact⟨zh (bm.out.congr λi hi=>if_pos hi),bw⟩
 rename World=>w2
 obtain⟨dq,c9⟩:=hcut
 have i1:(r:Int)<(n:Int):=by omega
 have i0:(0:Int)<=(r:Int):=by omega
 obtain⟨p1,p2⟩:=dq.out.at_ ev
 have c1:w2.cell? ⟨bl,0,none⟩=some (.slice (some ⟨lb,0,none⟩) n n):=by rw[World.cell?_of_block (w:=w1) (a:=⟨bl,0,none⟩) (c9.out.block bl cO (Ne.symm n1))];exact c0
 obtain⟨w3,ct⟩:∃ w3,w2.setCell ⟨lb,r,none⟩ (.int .i64 0)=w3:=⟨_,rfl⟩
 have f5:=zh ct
 have ei:az w3 lb n (bB r).L:=ct ▸ ((dq.out.set 0 ev).congr λi hi=>by
  by_cases e:i=r
  ·subst e;rw[bH];exact (if_pos rfl).symm
  rw[bA _ _ e];exact (if_neg e).symm)
 have b9:Kx (λj=>j=lb) w1 w3:=ct ▸ c9.out.trans (aI w2 lb r (.int .i64 0)) λ_ _ e=>e
 have cp:dF w3 pb n (bB r).P:=HP.out.on (b9.block pb HP.out.lt (Ne.symm n3))
 have gs:=(Array.getElem?_eq_some_iff.1 cx.out).1
 have b7:=(b9.block bl cO (Ne.symm n1)).trans cc.out
 have b8:=(b9.block bp gs (Ne.symm n2)).trans cx.out
 have cn:Below w.heap.size w w3:=Kx.low HB.out b9 (λj e=>e ▸ f1) HB.out.size
 have et:pb≠bl:=by
  rintro rfl
  obtain⟨cur,e1,-⟩:=cp
  rw[b7] at e1
  simp at e1
 have eu:pb≠bp:=by
  rintro rfl
  obtain⟨cur,e1,-⟩:=cp
  rw[b8] at e1
  simp at e1
 have ej:=(Array.getElem?_eq_some_iff.1 b7).1
 have en:=(Array.getElem?_eq_some_iff.1 b8).1
 have cC:=zh (λ(W:World) (hk:Kx (λj=>j=lb\/j=pb) w3 W) (st:Lw) (hl:az W lb n st.L) (hp:dF W pb n st.P) (hi:Iv (aq E F 0++aU m) n r M B f st) (c:Cd) (cS:c∈aq E F 0++aU m)=>IZ W lb pb bl bp n st hl hp ((hk.block bl ej λe=>e.elim (λe=>n1 e.symm) (λe=>et e.symm)).trans b7) ((hk.block bp en λe=>e.elim (λe=>n2 e.symm) (λe=>eu e.symm)).trans b8) c (Hc.out.st c cS).1 (Hc.out.st c cS).2.1 λha=>by
  have h1:=Hc.out.dn hi ha
  have h2:=Hc.out.hi hi ha
  have h3:=(Hc.out.st c cS).2.2
  have h4:=Hc.out.u0.2
  have h5:=Hc.out.b0
  have h6:B<=1000000000000:=by
   have h7:=Hc.out.bn
   have h8:B*1<=B*(n:Int):=Int.mul_le_mul_of_nonneg_left (by omega) h5
   omega
  omega)
 have cj:=zh (HN.out.below cn)
 have f9:=zh (show ag C7 7 w3 MA mn m from Hm.out.below cn)
 have fb:=zh ei
 have fu:=zh cp
 have ca:=zh cn
 have eI:=zh b7
 have e7:=zh b8
 have f7:=zh (λk=>Hc.out.it Hc.out.iv0 k)
 have gN:=cj.out.arcs.lt
 have g5:=(Array.getElem?_eq_some_iff.1 cj.out.box).1
 clear ct ei b9 cp b7 b8 cn
 go_upto_block 2 with fail
 rw[f5.out]
 go_cut [12,13,14,16] from 40 to 100 (λ_ _ _ _ wx=>Hid (az wx lb n (cK (aq E F 0++aU m) (bB r)).L)/\Hid (dF wx pb n (cK (aq E F 0++aU m) (bB r)).P)/\Hid (Kx (λj=>j=lb\/j=pb) w3 wx))
 case first =>
  go_wp2_with fail
  go_loopg [12,13,14,16] (lT U (bB r).L n+1) (λgk s12 _ _ _ wr=>∃ (k:Nat) (q:Bool),s12=.bool q/\(q=true->lT U (fS (aq E F 0++aU m) k (bB r)).L n<gk)/\Hid (q=false->qP (aq E F 0++aU m) (fS (aq E F 0++aU m) k (bB r)))/\Hid (az wr lb n (fS (aq E F 0++aU m) k (bB r)).L)/\Hid (dF wr pb n (fS (aq E F 0++aU m) k (bB r)).P)/\Hid (Kx (λj=>j=lb\/j=pb) w3 wr))
  case atStart=>exact⟨0,true,rfl,λ_=>Nat.lt_succ_self _,zh (λh=>by cases h),fb,fu,zh (Kx.refl _ _)⟩
  obtain⟨k,q,rfl,cV,d5,bm,cl,bw⟩:=hrel
  obtain⟨wk,rfl⟩:∃ wk:World,wk=wr:=⟨_,rfl⟩
  cases q with
  |false =>
   have e:=C5 (d5.out rfl)
   go_wp2_with fail
   go_meet
   exact⟨by rw[e];exact bm,by rw[e];exact cl,bw⟩
  |true =>
   have ec:=zh (cV rfl)
   have b5:=zh (f7.out k)
   have b6:=zh (jN (aq E F 0++aU m) k (bB r))
   obtain⟨s,hs⟩:∃ s,fS (aq E F 0++aU m) k (bB r)=s:=⟨_,rfl⟩
   rw[hs] at bm cl ec b5 b6
   have g6:nb≠lb:=by omega
   have g7:nb≠pb:=by omega
   obtain⟨k0,k1,-⟩:=an ((bw.out.block nb g5 λe=>e.elim g6 g7).trans cj.out.box)
   clear cV d5 hs
   go_upto_block 4 with fail
   go_cut [12,13,14] from 46 to 84 (λs12 _ _ wx=>s12=.bool (bG (aq E F 0) (s,false)).2/\Hid (az wx lb n (bG (aq E F 0) (s,false)).1.L)/\Hid (dF wx pb n (bG (aq E F 0) (s,false)).1.P)/\Hid (Kx (λj=>j=lb\/j=pb) w3 wx))
   case first =>
    go_wp2_with fail
    go_loopw [12,13,14,46] (λs12 _ _ s46 wr=>∃ i:Nat,s46=.int .i64 (i:Nat)/\i<=E.length/\s12=.bool (bG (aq (E.take i) F 0) (s,false)).2/\Hid (az wr lb n (bG (aq (E.take i) F 0) (s,false)).1.L)/\Hid (dF wr pb n (bG (aq (E.take i) F 0) (s,false)).1.P)/\Hid (Kx (λj=>j=lb\/j=pb) w3 wr)) (λ_ _ _ s46 _=>E.length-(intOf s46).toNat)
    case atStart=>exact⟨0,rfl,Nat.zero_le _,rfl,bm,cl,bw⟩
    rename World=>wb
    obtain⟨i,rfl,hi,rfl,ad,am,bv⟩:=hrel
    by_cases aa:i<E.length
    ·have i1:(i:Int)<(E.length:Int):=by omega
     have i0:(0:Int)<=(i:Int):=by omega
     obtain⟨a,hy⟩:∃ a,E[i]?=some a:=⟨_,List.getElem?_eq_getElem aa⟩
     obtain⟨x,hx⟩:∃ x,F i=x:=⟨_,rfl⟩
     have hg:g<w.heap.size:=HN.out.arcs.lt
     have eg:ja wb g E F:=cj.out.arcs.on (bv.out.block g gN λe=>e.elim (λe=>by omega) (λe=>by omega))
     obtain⟨-,c0,c1,c2,c3,c4,c5,c6,-⟩:=eg.at_ hy
     rw[hx] at c4
     obtain⟨wd,bj⟩:∃ wd,wb.alloc (.cells #[.int .i64 (a.f:Nat),.int .i64 (a.t:Nat),.int .i64 a.l,.int .i64 a.r,.int .i64 x,.int .i64 (a.k:Nat),.int .i64 (a.num:Nat)] 238)=wd:=⟨_,rfl⟩
     have bf:Below wb.heap.size wb wd:=bj ▸ ab wb _
     have bk:wd.heap[wb.heap.size]?=some (.cells #[.int .i64 (a.f:Nat),.int .i64 (a.t:Nat),.int .i64 a.l,.int .i64 a.r,.int .i64 x,.int .i64 (a.k:Nat),.int .i64 (a.num:Nat)] 238 (0,0)):=bj ▸ heap_alloc_new wb _
     have f6:=zh bk
     have cL:=zh (show ∀ c∈aq (E.take i) F 0,c∈aq E F 0++aU m from λc hc=>List.mem_append_left _ (GK i c hc))
     have bi:=(Hc.out.rnd _ s false cL.out b5.out).1
     have bu:bG (aq (E.take (i+1)) F 0) (s,false)=bG (if 0<x then [⟨a.t,a.f,-a.l,(i,true)⟩] else []) (bG (if x<a.r then [⟨a.f,a.t,a.l,(i,false)⟩] else []) (bG (aq (E.take i) F 0) (s,false))):=by
      rw[Ew hy,kg,hx]
      exact kg _ _ _
     have cT:x<a.r->(⟨a.f,a.t,a.l,(i,false)⟩:Cd)∈aq E F 0++aU m:=λh=>List.mem_append_left _ ((eK E 0).2 ⟨i,a,hy,gS.2 (.inl (by rw[Nat.zero_add,hx];exact⟨h,rfl⟩))⟩)
     have es:0<x->(⟨a.t,a.f,-a.l,(i,true)⟩:Cd)∈aq E F 0++aU m:=λh=>List.mem_append_left _ ((eK E 0).2 ⟨i,a,hy,gS.2 (.inr (by rw[Nat.zero_add,hx];exact⟨h,rfl⟩))⟩)
     have bS:=bv.out.below bf
     have bD:=ad.out.on (bf.block _ ad.out.lt)
     have bI:=am.out.on (bf.block _ am.out.lt)
     have gw:wb.heap.size≠lb:=by have:=ad.out.lt;omega
     have gC:wb.heap.size≠pb:=by have:=am.out.lt;omega
     have gI:=(Array.getElem?_eq_some_iff.1 bk).1
     obtain⟨st,bg⟩:∃ st,bG (aq (E.take i) F 0) (s,false)=st:=⟨_,rfl⟩
     rw[bg] at bi bu bD bI ⊢
     obtain⟨su,cr⟩:∃ su,bG (if x<a.r then [⟨a.f,a.t,a.l,(i,false)⟩] else []) st=su:=⟨_,rfl⟩
     have gg:=zh (show Iv (aq E F 0++aU m) n r M B f su.1 by
      rw[← cr]
      split
      ·rename_i h
       exact (Hc.out.rnd [⟨a.f,a.t,a.l,(i,false)⟩] st.1 st.2 (λc hc=>by rw[List.mem_singleton.1 hc];exact cT h) bi).1
      exact bi)
     rw[cr] at bu
     have d6:=zh cr
     have bc:=zh bu
     have dt:=zh bD
     have d3:=zh bI
     have gb:=zh bi
     have cd:=zh bS
     have cI:=zh bj
     have f8:=zh cT
     have d7:=zh es
     obtain⟨q0,q1,q2,q3,q4⟩:=o8 bk
     clear bf bk bi bu bS bD bI bj bg cr cT es hy hx eg
     go_upto_region 15 with fail
     rw[cI.out]
     go_cut [12,67] (λs12 s67 wx=>∃ q:Bool,s67=.bool q/\s12=.bool st.2/\su.2=(st.2||q)/\Hid (az wx lb n su.1.L)/\Hid (dF wx pb n su.1.P)/\Hid (Kx (λj=>j=lb\/j=pb) wd wx))
     case first =>
      by_cases c8:x<a.r
      ·have e9:=d6.out
       rw[if_pos c8] at e9
       have e8:su=(eS ⟨a.f,a.t,a.l,(i,false)⟩ st.1,st.2||gi ⟨a.f,a.t,a.l,(i,false)⟩ st.1):=e9.symm
       have hT:=cC.out wd cd.out st.1 dt.out d3.out gb.out ⟨a.f,a.t,a.l,(i,false)⟩ (f8.out c8)
       obtain⟨z,hz⟩:∃ z,gi ⟨a.f,a.t,a.l,(i,false)⟩ st.1=z:=⟨_,rfl⟩
       rw[hz] at e8 hT
       have HT:=zh hT
       have E8:=zh (And.intro (congrArg Prod.fst e8) (congrArg Prod.snd e8))
       clear e9 e8 hT hz
       cases z with
       |false =>
        go_wp2_with (go_at_call 222;refine HT.out.mono ?_;rintro e wf ⟨rfl,a0,a9,aF⟩)
        go_meet
        exact⟨false,rfl,rfl,E8.out.2,zh (by rw[E8.out.1];exact a0),zh (by rw[E8.out.1];exact a9),zh aF⟩
       |true =>
        go_wp2_with (go_at_call 222;refine HT.out.mono ?_;rintro e wf ⟨rfl,a0,a9,aF⟩)
        go_meet
        exact⟨true,rfl,rfl,E8.out.2,zh (by rw[E8.out.1];exact a0),zh (by rw[E8.out.1];exact a9),zh aF⟩
      have e9:=d6.out
      rw[if_neg c8] at e9
      have E9:=zh (show su=st from e9.symm)
      have g1:decide (a.r > x)=false:=decide_eq_false (by omega)
      clear e9
      go_wp2_with fail
      go_meet
      exact⟨false,rfl,rfl,by rw[E9.out,Bool.or_false],zh (by rw[E9.out];exact dt.out),zh (by rw[E9.out];exact d3.out),zh (Kx.refl _ _)⟩
     rename World=>we
     obtain⟨q,rfl,rfl,bg,dx,d4,dk⟩:=hcut
     have eB:=(dk.out.block wb.heap.size gI λe=>e.elim gw gC).trans f6.out
     clear q0 q1 q2 q3 q4
     obtain⟨q0,q1,q2,q3,q4⟩:=o8 eB
     have eo:=cd.out.trans dk.out λ_ _ e=>e
     have ci:=zh eo
     clear eo eB c0 c1 c2 c3 c4 c5 c6
     cases q
     all_goals
      by_cases cq:0<x
      ·have e9:=bc.out
       rw[if_pos cq] at e9
       have e8:bG (aq (E.take (i+1)) F 0) (s,false)=(eS ⟨a.t,a.f,-a.l,(i,true)⟩ su.1,su.2||gi ⟨a.t,a.f,-a.l,(i,true)⟩ su.1):=e9
       have hT:=cC.out we ci.out su.1 dx.out d4.out gg.out ⟨a.t,a.f,-a.l,(i,true)⟩ (d7.out cq)
       obtain⟨z,hz⟩:∃ z,gi ⟨a.t,a.f,-a.l,(i,true)⟩ su.1=z:=⟨_,rfl⟩
       rw[hz] at e8 hT
       have HT:=zh hT
       have E8:=zh (And.intro (congrArg Prod.fst e8) (congrArg Prod.snd e8))
       have cN:=(Hc.out.st _ (d7.out cq)).2.2
       have hB:B<=1000000000000:=by
        have h7:=Hc.out.bn
        have h8:B*1<=B*(n:Int):=Int.mul_le_mul_of_nonneg_left (by omega) Hc.out.b0
        omega
       have he:a.l<=1000000000000:=by have:=cN.1;dsimp only at this;omega
       have hf : -1000000000000<=a.l:=by have:=cN.2.1;dsimp only at this;omega
       clear e9 e8 hT hz cN hB
       cases z with
       |false =>
        go_wp2_with (go_at_call 222;refine HT.out.mono ?_;rintro e wf ⟨rfl,a0,a9,aF⟩)
        exact⟨⟨i+1,by go_num,aa,by rw[E8.out.2,bg];simp,zh (by rw[E8.out.1];exact a0),zh (by rw[E8.out.1];exact a9),zh (ci.out.trans aF λ_ _ e=>e)⟩,by simp[intOf];omega⟩
       |true =>
        go_wp2_with (go_at_call 222;refine HT.out.mono ?_;rintro e wf ⟨rfl,a0,a9,aF⟩)
        exact⟨⟨i+1,by go_num,aa,by rw[E8.out.2,bg];simp,zh (by rw[E8.out.1];exact a0),zh (by rw[E8.out.1];exact a9),zh (ci.out.trans aF λ_ _ e=>e)⟩,by simp[intOf];omega⟩
      have e9:=bc.out
      rw[if_neg cq] at e9
      have E9:=zh (show bG (aq (E.take (i+1)) F 0) (s,false)=su from e9)
      have g1:decide (x > 0)=false:=decide_eq_false (by omega)
      clear e9
      go_wp2_with fail
      exact⟨⟨i+1,by go_num,aa,by rw[E9.out,bg];simp,zh (by rw[E9.out];exact dx.out),zh (by rw[E9.out];exact d4.out),ci⟩,by simp[intOf];omega⟩
    obtain rfl:i=E.length:=by omega
    have i1:¬ (E.length:Int)<(E.length:Int):=by omega
    rw[List.take_length] at ad am ⊢
    go_wp2_with fail
    go_meet
    exact⟨rfl,ad,am,bv⟩
   rename World=>wa
   obtain⟨rfl,fo,f0,fa⟩:=hcut
   clear bm cl k0 k1
   have ga:=zh f9.out.1
   go_wp2_with fail
   go_loopw [12,16,87] (λs12 _ s87 wr=>∃ j:Nat,s87=.int .i64 (j:Nat)/\j<=mn/\s12=.bool (bG (aq E F 0++aU (m.take j)) (s,false)).2/\Hid (az wr lb n (bG (aq E F 0++aU (m.take j)) (s,false)).1.L)/\Hid (dF wr pb n (bG (aq E F 0++aU (m.take j)) (s,false)).1.P)/\Hid (Kx (λj=>j=lb\/j=pb) w3 wr)) (λ_ _ s87 _=>mn-(intOf s87).toNat)
   case atStart =>
    have e:aq E F 0++aU (m.take 0)=aq E F 0:=by rw[List.take_zero];show _++[]=_;rw[List.append_nil]
    exact⟨0,rfl,Nat.zero_le _,by rw[e],by rw[e];exact fo,by rw[e];exact f0,fa⟩
   rename World=>wb
   obtain⟨j,rfl,hj,rfl,ad,am,bv⟩:=hrel
   by_cases aa:j<mn
   ·have j1:(j:Int)<(mn:Int):=by omega
    have j0:(0:Int)<=(j:Int):=by omega
    obtain⟨mb,mo,y,go,bE,hy,bt⟩:=Hm.out.at_ (sz:=7) (λ_=>rfl) aa
    have bq:Below w.heap.size w wb:=Kx.low ca.out bv.out (λj e=>e.elim (λe=>e ▸ f1) (λe=>e ▸ f2)) ca.out.size
    have c0:=(bq.cell (p:=⟨mb,mo+j*7+0,none⟩) bE).trans (bt 0 _ rfl)
    have c1:=(bq.cell (p:=⟨mb,mo+j*7+1,none⟩) bE).trans (bt 1 _ rfl)
    have c2:=(bq.cell (p:=⟨mb,mo+j*7+2,none⟩) bE).trans (bt 2 _ rfl)
    have c3:=(bq.cell (p:=⟨mb,mo+j*7+3,none⟩) bE).trans (bt 3 _ rfl)
    have c4:=(bq.cell (p:=⟨mb,mo+j*7+4,none⟩) bE).trans (bt 4 _ rfl)
    have c5:=(bq.cell (p:=⟨mb,mo+j*7+5,none⟩) bE).trans (bt 5 _ rfl)
    have c6:=(bq.cell (p:=⟨mb,mo+j*7+6,none⟩) bE).trans (bt 6 _ rfl)
    rw[Nat.add_zero] at c0
    obtain⟨wd,bj⟩:∃ wd,wb.alloc (.cells #[.int .i64 (y.1:Nat),.int .i64 (y.2.1:Nat),.int .i64 y.2.2,.int .i64 0,.int .i64 0,.int .i64 0,.int .i64 0] 238)=wd:=⟨_,rfl⟩
    have bf:Below wb.heap.size wb wd:=bj ▸ ab wb _
    have bk:wd.heap[wb.heap.size]?=some (.cells #[.int .i64 (y.1:Nat),.int .i64 (y.2.1:Nat),.int .i64 y.2.2,.int .i64 0,.int .i64 0,.int .i64 0,.int .i64 0] 238 (0,0)):=bj ▸ heap_alloc_new wb _
    have q0:wd.cell? ⟨wb.heap.size,0,none⟩=some (.int .i64 (y.1:Nat)):=by rw[cell_of_row _ _ 0 _ _ (0,0) bk];rfl
    have q1:wd.cell? ⟨wb.heap.size,1,none⟩=some (.int .i64 (y.2.1:Nat)):=by rw[cell_of_row _ _ 1 _ _ (0,0) bk];rfl
    have q2:wd.cell? ⟨wb.heap.size,2,none⟩=some (.int .i64 y.2.2):=by rw[cell_of_row _ _ 2 _ _ (0,0) bk];rfl
    have cL:=zh (show ∀ c∈aq E F 0++aU (m.take j),c∈aq E F 0++aU m from λc hc=>(List.mem_append.1 hc).elim (λh=>List.mem_append_left _ h) (λh=>List.mem_append_right _ (GL j c h)))
    have bi:=(Hc.out.rnd _ s false cL.out b5.out).1
    have bu:bG (aq E F 0++aU (m.take (j+1))) (s,false)=(eS ⟨y.1,y.2.1,y.2.2,(0,false)⟩ (bG (aq E F 0++aU (m.take j)) (s,false)).1,(bG (aq E F 0++aU (m.take j)) (s,false)).2||gi ⟨y.1,y.2.1,y.2.2,(0,false)⟩ (bG (aq E F 0++aU (m.take j)) (s,false)).1):=by
     rw[Ex hy,← List.append_assoc,kg]
     rfl
    have bS:=bv.out.below bf
    have bD:=ad.out.on (bf.block _ ad.out.lt)
    have bI:=am.out.on (bf.block _ am.out.lt)
    obtain⟨st,bg⟩:∃ st,bG (aq E F 0++aU (m.take j)) (s,false)=st:=⟨_,rfl⟩
    rw[bg] at bi bu bD bI ⊢
    have HT:=zh (cC.out wd bS st.1 bD bI bi ⟨y.1,y.2.1,y.2.2,(0,false)⟩ (List.mem_append_right _ (List.mem_map.2 ⟨y,List.mem_of_getElem? hy,rfl⟩)))
    have bc:=zh bu
    have cd:=zh bS
    have cI:=zh bj
    subst go
    clear bf bk bi bu bS bD bI bj bg bt bq hy
    go_upto_region 23 with fail
    rw[cI.out]
    go_wp2_with fail
    refine HT.out.mono ?_
    rintro e wf ⟨rfl,a0,a9,aF⟩
    have ds:=zh a0
    have dz:=zh a9
    have dd:=zh (cd.out.trans aF λ_ _ e=>e)
    clear a0 a9 aF HT c0 c1 c2 c3 c4 c5 c6 q0 q1 q2
    cases hq:gi ⟨y.1,y.2.1,y.2.2,(0,false)⟩ st.1 with
    |false =>
     go_wp2_with fail
     refine⟨⟨j+1,by go_num,aa,by rw[bc.out,hq,Bool.or_false],by rw[bc.out];exact ds,by rw[bc.out];exact dz,dd⟩,by simp[intOf];omega⟩
    |true =>
     go_wp2_with fail
     refine⟨⟨j+1,by go_num,aa,by rw[bc.out,hq,Bool.or_true],by rw[bc.out];exact ds,by rw[bc.out];exact dz,dd⟩,by simp[intOf];omega⟩
   obtain rfl:mn=j:=by omega
   have j1:¬ (mn:Int)<(mn:Int):=by omega
   rw[List.take_of_length_le (by have:=ga.out;omega)] at ad am ⊢
   obtain⟨g1,g2,g3,g4⟩:=Hc.out.rnd (aq E F 0++aU m) s false (λ_ h=>h) b5.out
   have cV:=ec.out
   go_wp2_with fail
   go_roundg (gk-1)
   case measure=>omega
   refine⟨k+1,_,rfl,λhq=>?_,zh λhq=>?_,by rw[b6.out];exact ad,by rw[b6.out];exact am,bv⟩
   ·rw[b6.out]
    rcases g3 hq with h9|h9
    ·cases h9
    omega
   rw[b6.out,(g4 hq).2.1]
   exact Hc.out.rest b5.out hq
 rename World=>w4
 obtain⟨fc,fz,cA⟩:=hcut
 have d1:w4.cell? ⟨bl,0,none⟩=some (.slice (some ⟨lb,0,none⟩) n n):=by rw[cell_of_row _ _ 0 _ _ (0,0) ((cA.out.block bl ej λe=>e.elim (λe=>n1 e.symm) (λe=>et e.symm)).trans eI.out)];rfl
 have d2:w4.cell? ⟨bp,0,none⟩=some (.slice (some ⟨pb,0,none⟩) n n):=by rw[cell_of_row _ _ 0 _ _ (0,0) ((cA.out.block bp en λe=>e.elim (λe=>n2 e.symm) (λe=>eu e.symm)).trans e7.out)];rfl
 have HF:=zh (HR.out (.returned (.tuple #[.slice (some ⟨lb,0,none⟩) n n,.slice (some ⟨pb,0,none⟩) n n])) w4.drew ⟨lb,pb,f1,f2,rfl,fc.out,fz.out,(Kx.low ca.out cA.out (λj e=>e.elim (λe=>e ▸ f1) (λe=>e ▸ f2)) ca.out.size).drew⟩)
 clear c1 p1 p2 c0
 go_upto_region 26 with fail
 go_region
 all_goals
  go_wp2_with fail
  exact HF.out
end
end Go.Proofs.YtgbnicokglpdbaaGreatDoor
