/-
The contracts of (*saw); conditions: those of each theorem.
-/
import Derived.Test.YtgbnicokglpdbaaGreatDoorDa
namespace Go.Proofs.YtgbnicokglpdbaaGreatDoor
set_option maxHeartbeats 4000000
set_option maxRecDepth 100000
open Go.RowKit Go.Shelf
attribute [local go_sem] Oper.semAt_some
theorem mJ{F:Fence}{n:Nat}{P:Program}{f:FuncId}{args:Array Value}{w:World}{Q:Ending->World->Prop}
 (h:∀ R:Ending->World->Prop,Hid (∀ e w',Q e w'->R e w')->CallsIn F n P f args w R):CallsIn F n P f args w Q:=h Q λ_ _ h=>h
theorem yE(p:Option Addr)(x y:Int)(w:World) :
 Calls Tryz.prog 154 #[.pointer p,.int .i64 x,.int .i64 y] w λe w' =>
  e=.returned (.func (.func 223) #[] #[.pointer (some ⟨w.heap.size,0,none⟩),.pointer (some ⟨w.heap.size+1,0,none⟩),.pointer (some ⟨w.heap.size+1+1,0,none⟩)])/\
  w'=((w.alloc (.cells #[.pointer p] 168)).alloc (.cells #[.int .i64 x] 3)).alloc (.cells #[.int .i64 y] 3):=by
 refine ae ?_
 intro R hR
 go_enter Tryz.func154,Tryz.ntmps154
 go_wp2
 exact hR.out _ _ ⟨rfl,rfl⟩
structure WM(W:World)(p b1:Nat)(x y:Nat)(k:Int)(B:Option Addr)(m d:Nat)(ss:List aj):Prop where
 cs:W.cell? ⟨b1,0,none⟩=some (.pointer (some ⟨p,0,none⟩))
 cw:W.cell? ⟨b1+1,0,none⟩=some (.int .i64 x)
 ch:W.cell? ⟨b1+1+1,0,none⟩=some (.int .i64 y)
 ck:W.cell? ⟨p,0,none⟩=some (.int .i64 k)
 csh:W.cell? ⟨p,1,none⟩=some (.slice B m d)
 t1:∀ a:Nat,a<x->W.cell? ⟨p,2+a*65+y,none⟩=some (.int .i64 (val k ss a y))
 t2:∀ a:Nat,a<y->W.cell? ⟨p,2+x*65+a,none⟩=some (.int .i64 (val k ss x a))
 shs:ag aj.enc 4 W B m ss
structure WB(mo:Option Nat)(p b1:Nat)(B:Option Addr)(m:Nat):Prop where
 op:some p≠mo
 o1:some b1≠mo
 o2:some (b1+1)≠mo
 o3:some (b1+1+1)≠mo
 osh:0<m->∀ a,B=some a->some a.block≠mo
theorem WM.keep{W W':World}{mo:Option Nat}{p b1 x y:Nat}{k:Int}{B:Option Addr}{m d:Nat}{ss:List aj}(h:WM W p b1 x y k B m d ss)(hb:WB mo p b1 B m)(hk:KC mo W W'):WM W' p b1 x y k B m d ss:=
 ⟨hk.cell h.cs hb.o1, hk.cell h.cw hb.o2, hk.cell h.ch hb.o3, hk.cell h.ck hb.op, hk.cell h.csh hb.op, fun a ha => hk.cell (h.t1 a ha) hb.op, fun a ha => hk.cell (h.t2 a ha) hb.op,
  ⟨h.shs.1, h.shs.2.1, fun hm => by
   obtain⟨b,o,e,bt,hc⟩:=h.shs.2.2 hm
   exact⟨b,o,e,Nat.lt_of_lt_of_le bt hk.1,λj u hu=>hk.cell (p:=⟨b,o+j,none⟩) (hc j u hu) (hb.osh hm ⟨b,o,none⟩ e)⟩⟩⟩
theorem bC(w:World)(n:Nat):w.grownBy (w.drewN n) none:=⟨rfl,rfl,rfl,Nat.le_refl _,λ_ _ _=>rfl⟩
def ig(x:dA):Value:=.agg #[.int .i64 x.1.1,.int .i64 x.1.2,.int .i64 x.2]
theorem dL(w h:Int)(s:aj):∀ (ss:List aj) (i k:Nat),ss[k]?=some s->aV w h (i+k) (ss.drop k)=eQ w h (i+k) s++aV w h (i+(k+1)) (ss.drop (k+1)):=by
 intro ss i k hk
 obtain⟨bt,rfl⟩:=List.getElem?_eq_some_iff.1 hk
 rw[List.drop_eq_getElem_cons bt,aV]
 rfl
theorem Gq(n l:Nat)(mo:Option Nat)(p b1 x y:Nat)(k:Int)(B:Option Addr)(m d:Nat)(ss:List aj)(hb:WB mo p b1 B m)(hn:1<=n)(d5:1<=x)(hx:x<=64)(d6:1<=y)(hy:y<=64)(cS:0<=k)(d3:k<=8)(ds:ss.length<=16)
 (cV:∀ s∈ss,1<=s.W/\1<=s.H/\0<=s.V/\s.V<=1000000) (J Jx:List dA->World->Prop) (cI:∀ cur W W',J cur W->W.grownBy W' none->J cur W')
 (hY:∀ cur w rest W1,cur++w :: rest=dN (val k ss) k ss x y->J cur W1->YieldAt Fence.wide (n-1) Tryz.prog l #[ig w] W1 λe W' =>
  (e=.returned (.bool true)/\J (cur++[w]) W'/\KC mo W1 W')\/(e=.returned (.bool false)/\Jx (cur++[w]) W'))
 (W:World) (dd:∀ b,mo=some b->b<W.heap.size) (hM:WM W p b1 x y k B m d ss) (h0:J [] W) :
 CallsIn Fence.wide n Tryz.prog 223 #[.func (.yield l) #[] #[],.pointer (some ⟨b1,0,none⟩),.pointer (some ⟨b1+1,0,none⟩),.pointer (some ⟨b1+1+1,0,none⟩)] W λe W' =>
  (∃ v,e=.returned v)/\(J (dN (val k ss) k ss x y) W'\/∃ cur rest,cur++rest=dN (val k ss) k ss x y/\Jx cur W'):=by
 refine mJ ?_
 intro R hR
 obtain⟨wl,ct⟩:∃ wl,dN (val k ss) k ss x y=wl:=⟨_,rfl⟩
 rw[ct] at hY hR
 have HY:=zh hY
 have cp:=zh ct
 have cc:=zh cI
 clear hY ct cI
 have am:=zh (show ∀ W',KC mo W W'->WM W' p b1 x y k B m d ss from λW' h=>hM.keep hb h)
 obtain⟨fn,tmps,assign,body,cx,cL⟩:=HY.out [] ((0,0),0) _ W (by rw[← cp.out];rfl) h0
 unfold ig at cx
 dsimp only at cx
 have dt:∀ f,Fence.wide.fn f:=λ_=>trivial
 have q1:=hM.cs
 have q2:=hM.cw
 have q3:=hM.ch
 have q5:=hM.csh
 refine callsIn_of_wp Tryz.func223 rfl trivial ?_ rfl
 simp only[Tryz.ntmps223,List.size_toArray,List.length_cons,List.length_nil,Nat.reduceAdd,Nat.reduceSub,Array.replicate_succ,Array.replicate_zero,List.push_toArray,List.append_toArray,List.nil_append,List.cons_append]
 gi_wp2_with fail
 refine cL.mono ?_
 clear cx cL
 rintro e W1 (⟨rfl,cC,b5⟩|⟨rfl,c4⟩)
 case inr =>
  have a0:=zh (show ∀ v,R (.returned v) W1 from λv=>hR.out _ _ ⟨⟨_,rfl⟩,.inr ⟨_,_,by rw[← cp.out];rfl,c4⟩⟩)
  gi_wp2
  refine bodyPost_ret (results_none rfl _ _ _) rfl ?_
  exact a0.out _
 case inl =>
  clear q1 q2 q3 q5
  have q1:=(am.out W1 b5).cs
  have q2:=(am.out W1 b5).cw
  have q3:=(am.out W1 b5).ch
  have q5:=(am.out W1 b5).csh
  have hm:=zh (am.out W1 b5).shs.1
  have d4:m<=16:=by rw[hm.out];exact ds
  obtain⟨tl,c3⟩:∃ tl,jd (val k ss) k x y ((x:Int)-1).toNat++gn (val k ss) k x y ((y:Int)-1).toNat=tl:=⟨_,rfl⟩
  have cA:=zh c3
  clear c3
  gi_wp2_with fail
  gi_loopw [20] (λi wr=>∃ (i0:Nat) (cur:List dA),i0<=m/\i=.int .i64 i0/\Hid (cur++(aV x y i0 (ss.drop i0)++tl)=wl)/\J cur wr/\KC mo W wr) (λi _=>m-(intOf i).toNat)
  case atStart=>exact⟨0,_,Nat.zero_le _,rfl,zh (by rw[← cp.out,dN,← cA.out];rfl),cC,b5⟩
  clear q1 q2 q3 q5 cC b5
  obtain⟨i0,cur,hi,rfl,a9,hJ,hk⟩:=hrel
  have q1:=(am.out wr hk).cs
  have q2:=(am.out wr hk).cw
  have q3:=(am.out wr hk).ch
  by_cases bt:i0<m
  ·obtain⟨b,o,s,rfl,dx,hs,r0,r1,r2,r3⟩:=(am.out wr hk).shs.at4 bt
   have Hs:=zh hs
   clear hs
   obtain⟨cT,hT⟩:∃ c,s.T=c:=⟨_,rfl⟩
   rw[hT] at r3
   have l1:b1<wr.heap.size:=World.block_lt_of_cell? wr _ q1
   have l2:b1+1<wr.heap.size:=World.block_lt_of_cell? wr _ q2
   have l3:b1+1+1<wr.heap.size:=World.block_lt_of_cell? wr _ q3
   have bi:J cur (wr.alloc (.cells #[.int .i64 s.W,.int .i64 s.H,.int .i64 s.V,.bool cT] 94)):=cc.out _ _ _ hJ (World.grownBy_alloc wr _ none)
   have bj:KC mo W (wr.alloc (.cells #[.int .i64 s.W,.int .i64 s.H,.int .i64 s.V,.bool cT] 94)):=hk.trans (KC.alloc wr _)
   have HX:=zh (show ∀ W2,KC mo (wr.alloc (.cells #[.int .i64 s.W,.int .i64 s.H,.int .i64 s.V,.bool cT] 94)) W2->W2.cell? ⟨wr.heap.size,0,none⟩=some (.int .i64 s.W)/\W2.cell? ⟨wr.heap.size,1,none⟩=some (.int .i64 s.H)/\W2.cell? ⟨wr.heap.size,2,none⟩=some (.int .i64 s.V)/\W2.cell? ⟨wr.heap.size,3,none⟩=some (.bool cT) from λW2 h=>by
    have hc:∀ j v,(#[Value.int .i64 s.W,.int .i64 s.H,.int .i64 s.V,.bool cT]:Array Value)[j]?=some v->W2.cell? ⟨wr.heap.size,j,none⟩=some v:=λj v hv =>
     h.cell ((cell_of_row _ _ j _ _ (0,0) (heap_alloc_new wr _)).trans hv) (λe=>by have h1:=dd _ e.symm;dsimp only at h1;have h2:=hk.1;omega)
    exact⟨hc 0 _ rfl,hc 1 _ rfl,hc 2 _ rfl,hc 3 _ rfl⟩)
   obtain⟨c1,c5⟩:∃ c,(s.W==(x:Int))=c:=⟨_,rfl⟩
   obtain⟨c2,c6⟩:∃ c,(s.H==(y:Int))=c:=⟨_,rfl⟩
   obtain⟨d1,c8⟩:∃ c,(s.H==(x:Int))=c:=⟨_,rfl⟩
   obtain⟨d2,c9⟩:∃ c,(s.W==(y:Int))=c:=⟨_,rfl⟩
   have cN:qr x y s false=(c1&&c2):=by
    rw[← c5,← c6]
    rw[BEq.comm (a:=s.W),BEq.comm (a:=s.H)]
    simp only[qr,Bool.false_and,Bool.false_or,Bool.not_false,Bool.true_and]
   have cO:qr x y s true=(cT&&d1&&d2):=by
    rw[← c8,← c9,← hT]
    rw[BEq.comm (a:=s.W),BEq.comm (a:=s.H)]
    simp only[qr,Bool.true_and,Bool.not_true,Bool.false_and,Bool.or_false]
   clear hT
   have bf:=zh cN
   have bg:=zh cO
   clear cN cO
   cases c1
   ·skip
    cases cT
    ·skip
     have ad:eQ x y i0 s=[]++[]:=by rw[fU,bf.out,bg.out];rfl
     have aa:=a9.out
     rw[show aV x y i0 (ss.drop i0)=eQ x y i0 s++aV x y (i0+1) (ss.drop (i0+1)) by have:=dL x y s ss 0 i0 Hs.out;simpa using this,ad] at aa
     clear ad
     have HT:=zh (show Hid ((cur)++(aV x y (i0+1) (ss.drop (i0+1))++tl)=wl) from zh (by simpa using aa))
     clear aa
     gi_wp2_with fail
     refine⟨⟨i0+1,cur,by omega,by go_num,HT.out,bi,bj⟩,by simp[intOf];omega⟩
    skip
    cases d1
    ·skip
     have ad:eQ x y i0 s=[]++[]:=by rw[fU,bf.out,bg.out];rfl
     have aa:=a9.out
     rw[show aV x y i0 (ss.drop i0)=eQ x y i0 s++aV x y (i0+1) (ss.drop (i0+1)) by have:=dL x y s ss 0 i0 Hs.out;simpa using this,ad] at aa
     clear ad
     have HT:=zh (show Hid ((cur)++(aV x y (i0+1) (ss.drop (i0+1))++tl)=wl) from zh (by simpa using aa))
     clear aa
     gi_wp2_with fail
     refine⟨⟨i0+1,cur,by omega,by go_num,HT.out,bi,bj⟩,by simp[intOf];omega⟩
    skip
    cases d2
    ·skip
     have ad:eQ x y i0 s=[]++[]:=by rw[fU,bf.out,bg.out];rfl
     have aa:=a9.out
     rw[show aV x y i0 (ss.drop i0)=eQ x y i0 s++aV x y (i0+1) (ss.drop (i0+1)) by have:=dL x y s ss 0 i0 Hs.out;simpa using this,ad] at aa
     clear ad
     have HT:=zh (show Hid ((cur)++(aV x y (i0+1) (ss.drop (i0+1))++tl)=wl) from zh (by simpa using aa))
     clear aa
     gi_wp2_with fail
     refine⟨⟨i0+1,cur,by omega,by go_num,HT.out,bi,bj⟩,by simp[intOf];omega⟩
    skip
    have ad:eQ x y i0 s=[]++[((2,(i0:Int)),s.V)]:=by rw[fU,bf.out,bg.out];rfl
    have aa:=a9.out
    rw[show aV x y i0 (ss.drop i0)=eQ x y i0 s++aV x y (i0+1) (ss.drop (i0+1)) by have:=dL x y s ss 0 i0 Hs.out;simpa using this,ad] at aa
    clear ad
    have bu:=zh (show cur++((2,(i0:Int)),s.V) :: (aV x y (i0+1) (ss.drop (i0+1))++tl)=wl by simpa using aa)
    have HT:=zh (show Hid ((cur++[((2,(i0:Int)),s.V)])++(aV x y (i0+1) (ss.drop (i0+1))++tl)=wl) from zh (by simpa using aa))
    clear aa
    obtain⟨fn,tmps,assign,body,hy,aF⟩:=HY.out cur ((2,(i0:Int)),s.V) _ _ (bu.out) bi
    unfold ig at hy
    dsimp only at hy
    gi_wp2_with fail
    refine aF.mono ?_
    clear hy aF
    rintro e W3 (⟨rfl,cd,cj⟩|⟨rfl,ci⟩)
    case inr =>
     have a0:=zh (show ∀ v,R (.returned v) W3 from λv=>hR.out _ _ ⟨⟨_,rfl⟩,.inr ⟨_,_,(List.append_assoc _ _ _).trans (bu.out),ci⟩⟩)
     gi_wp2
     refine bodyPost_ret (results_none rfl _ _ _) rfl ?_
     exact a0.out _
    case inl =>
     have hk:=bj.trans cj
     gi_wp2_with fail
     refine⟨⟨i0+1,(cur++[((2,(i0:Int)),s.V)]),by omega,by go_num,HT.out,cd,hk⟩,by simp[intOf];omega⟩
   skip
   cases c2
   ·skip
    cases cT
    ·skip
     have ad:eQ x y i0 s=[]++[]:=by rw[fU,bf.out,bg.out];rfl
     have aa:=a9.out
     rw[show aV x y i0 (ss.drop i0)=eQ x y i0 s++aV x y (i0+1) (ss.drop (i0+1)) by have:=dL x y s ss 0 i0 Hs.out;simpa using this,ad] at aa
     clear ad
     have HT:=zh (show Hid ((cur)++(aV x y (i0+1) (ss.drop (i0+1))++tl)=wl) from zh (by simpa using aa))
     clear aa
     gi_wp2_with fail
     refine⟨⟨i0+1,cur,by omega,by go_num,HT.out,bi,bj⟩,by simp[intOf];omega⟩
    skip
    cases d1
    ·skip
     have ad:eQ x y i0 s=[]++[]:=by rw[fU,bf.out,bg.out];rfl
     have aa:=a9.out
     rw[show aV x y i0 (ss.drop i0)=eQ x y i0 s++aV x y (i0+1) (ss.drop (i0+1)) by have:=dL x y s ss 0 i0 Hs.out;simpa using this,ad] at aa
     clear ad
     have HT:=zh (show Hid ((cur)++(aV x y (i0+1) (ss.drop (i0+1))++tl)=wl) from zh (by simpa using aa))
     clear aa
     gi_wp2_with fail
     refine⟨⟨i0+1,cur,by omega,by go_num,HT.out,bi,bj⟩,by simp[intOf];omega⟩
    skip
    cases d2
    ·skip
     have ad:eQ x y i0 s=[]++[]:=by rw[fU,bf.out,bg.out];rfl
     have aa:=a9.out
     rw[show aV x y i0 (ss.drop i0)=eQ x y i0 s++aV x y (i0+1) (ss.drop (i0+1)) by have:=dL x y s ss 0 i0 Hs.out;simpa using this,ad] at aa
     clear ad
     have HT:=zh (show Hid ((cur)++(aV x y (i0+1) (ss.drop (i0+1))++tl)=wl) from zh (by simpa using aa))
     clear aa
     gi_wp2_with fail
     refine⟨⟨i0+1,cur,by omega,by go_num,HT.out,bi,bj⟩,by simp[intOf];omega⟩
    skip
    have ad:eQ x y i0 s=[]++[((2,(i0:Int)),s.V)]:=by rw[fU,bf.out,bg.out];rfl
    have aa:=a9.out
    rw[show aV x y i0 (ss.drop i0)=eQ x y i0 s++aV x y (i0+1) (ss.drop (i0+1)) by have:=dL x y s ss 0 i0 Hs.out;simpa using this,ad] at aa
    clear ad
    have bu:=zh (show cur++((2,(i0:Int)),s.V) :: (aV x y (i0+1) (ss.drop (i0+1))++tl)=wl by simpa using aa)
    have HT:=zh (show Hid ((cur++[((2,(i0:Int)),s.V)])++(aV x y (i0+1) (ss.drop (i0+1))++tl)=wl) from zh (by simpa using aa))
    clear aa
    obtain⟨fn,tmps,assign,body,hy,aF⟩:=HY.out cur ((2,(i0:Int)),s.V) _ _ (bu.out) bi
    unfold ig at hy
    dsimp only at hy
    gi_wp2_with fail
    refine aF.mono ?_
    clear hy aF
    rintro e W3 (⟨rfl,cd,cj⟩|⟨rfl,ci⟩)
    case inr =>
     have a0:=zh (show ∀ v,R (.returned v) W3 from λv=>hR.out _ _ ⟨⟨_,rfl⟩,.inr ⟨_,_,(List.append_assoc _ _ _).trans (bu.out),ci⟩⟩)
     gi_wp2
     refine bodyPost_ret (results_none rfl _ _ _) rfl ?_
     exact a0.out _
    case inl =>
     have hk:=bj.trans cj
     gi_wp2_with fail
     refine⟨⟨i0+1,(cur++[((2,(i0:Int)),s.V)]),by omega,by go_num,HT.out,cd,hk⟩,by simp[intOf];omega⟩
   skip
   cases cT
   ·skip
    have ad:eQ x y i0 s=[((1,(i0:Int)),s.V)]++[]:=by rw[fU,bf.out,bg.out];rfl
    have aa:=a9.out
    rw[show aV x y i0 (ss.drop i0)=eQ x y i0 s++aV x y (i0+1) (ss.drop (i0+1)) by have:=dL x y s ss 0 i0 Hs.out;simpa using this,ad] at aa
    clear ad
    have bk:=zh (show cur++((1,(i0:Int)),s.V) :: ([]++(aV x y (i0+1) (ss.drop (i0+1))++tl))=wl by simpa using aa)
    have HT:=zh (show Hid ((cur++[((1,(i0:Int)),s.V)])++(aV x y (i0+1) (ss.drop (i0+1))++tl)=wl) from zh (by simpa using aa))
    clear aa
    obtain⟨fn,tmps,assign,body,hy,aF⟩:=HY.out cur ((1,(i0:Int)),s.V) _ _ (bk.out) bi
    unfold ig at hy
    dsimp only at hy
    gi_wp2_with fail
    refine aF.mono ?_
    clear hy aF
    rintro e W2 (⟨rfl,bw,bm⟩|⟨rfl,bE⟩)
    case inr =>
     have a0:=zh (show ∀ v,R (.returned v) W2 from λv=>hR.out _ _ ⟨⟨_,rfl⟩,.inr ⟨_,_,(List.append_assoc _ _ _).trans (bk.out),bE⟩⟩)
     gi_wp2
     refine bodyPost_ret (results_none rfl _ _ _) rfl ?_
     exact a0.out _
    case inl =>
     have hk:=bj.trans bm
     obtain⟨e1,e2,e3,e4⟩:=HX.out _ bm
     have q1:=(am.out W2 hk).cs
     have q2:=(am.out W2 hk).cw
     have q3:=(am.out W2 hk).ch
     gi_wp2_with fail
     refine⟨⟨i0+1,(cur++[((1,(i0:Int)),s.V)]),by omega,by go_num,HT.out,bw,hk⟩,by simp[intOf];omega⟩
   skip
   cases d1
   ·skip
    have ad:eQ x y i0 s=[((1,(i0:Int)),s.V)]++[]:=by rw[fU,bf.out,bg.out];rfl
    have aa:=a9.out
    rw[show aV x y i0 (ss.drop i0)=eQ x y i0 s++aV x y (i0+1) (ss.drop (i0+1)) by have:=dL x y s ss 0 i0 Hs.out;simpa using this,ad] at aa
    clear ad
    have bk:=zh (show cur++((1,(i0:Int)),s.V) :: ([]++(aV x y (i0+1) (ss.drop (i0+1))++tl))=wl by simpa using aa)
    have HT:=zh (show Hid ((cur++[((1,(i0:Int)),s.V)])++(aV x y (i0+1) (ss.drop (i0+1))++tl)=wl) from zh (by simpa using aa))
    clear aa
    obtain⟨fn,tmps,assign,body,hy,aF⟩:=HY.out cur ((1,(i0:Int)),s.V) _ _ (bk.out) bi
    unfold ig at hy
    dsimp only at hy
    gi_wp2_with fail
    refine aF.mono ?_
    clear hy aF
    rintro e W2 (⟨rfl,bw,bm⟩|⟨rfl,bE⟩)
    case inr =>
     have a0:=zh (show ∀ v,R (.returned v) W2 from λv=>hR.out _ _ ⟨⟨_,rfl⟩,.inr ⟨_,_,(List.append_assoc _ _ _).trans (bk.out),bE⟩⟩)
     gi_wp2
     refine bodyPost_ret (results_none rfl _ _ _) rfl ?_
     exact a0.out _
    case inl =>
     have hk:=bj.trans bm
     obtain⟨e1,e2,e3,e4⟩:=HX.out _ bm
     have q1:=(am.out W2 hk).cs
     have q2:=(am.out W2 hk).cw
     have q3:=(am.out W2 hk).ch
     gi_wp2_with fail
     refine⟨⟨i0+1,(cur++[((1,(i0:Int)),s.V)]),by omega,by go_num,HT.out,bw,hk⟩,by simp[intOf];omega⟩
   skip
   cases d2
   ·skip
    have ad:eQ x y i0 s=[((1,(i0:Int)),s.V)]++[]:=by rw[fU,bf.out,bg.out];rfl
    have aa:=a9.out
    rw[show aV x y i0 (ss.drop i0)=eQ x y i0 s++aV x y (i0+1) (ss.drop (i0+1)) by have:=dL x y s ss 0 i0 Hs.out;simpa using this,ad] at aa
    clear ad
    have bk:=zh (show cur++((1,(i0:Int)),s.V) :: ([]++(aV x y (i0+1) (ss.drop (i0+1))++tl))=wl by simpa using aa)
    have HT:=zh (show Hid ((cur++[((1,(i0:Int)),s.V)])++(aV x y (i0+1) (ss.drop (i0+1))++tl)=wl) from zh (by simpa using aa))
    clear aa
    obtain⟨fn,tmps,assign,body,hy,aF⟩:=HY.out cur ((1,(i0:Int)),s.V) _ _ (bk.out) bi
    unfold ig at hy
    dsimp only at hy
    gi_wp2_with fail
    refine aF.mono ?_
    clear hy aF
    rintro e W2 (⟨rfl,bw,bm⟩|⟨rfl,bE⟩)
    case inr =>
     have a0:=zh (show ∀ v,R (.returned v) W2 from λv=>hR.out _ _ ⟨⟨_,rfl⟩,.inr ⟨_,_,(List.append_assoc _ _ _).trans (bk.out),bE⟩⟩)
     gi_wp2
     refine bodyPost_ret (results_none rfl _ _ _) rfl ?_
     exact a0.out _
    case inl =>
     have hk:=bj.trans bm
     obtain⟨e1,e2,e3,e4⟩:=HX.out _ bm
     have q1:=(am.out W2 hk).cs
     have q2:=(am.out W2 hk).cw
     have q3:=(am.out W2 hk).ch
     gi_wp2_with fail
     refine⟨⟨i0+1,(cur++[((1,(i0:Int)),s.V)]),by omega,by go_num,HT.out,bw,hk⟩,by simp[intOf];omega⟩
   skip
   have ad:eQ x y i0 s=[((1,(i0:Int)),s.V)]++[((2,(i0:Int)),s.V)]:=by rw[fU,bf.out,bg.out];rfl
   have aa:=a9.out
   rw[show aV x y i0 (ss.drop i0)=eQ x y i0 s++aV x y (i0+1) (ss.drop (i0+1)) by have:=dL x y s ss 0 i0 Hs.out;simpa using this,ad] at aa
   clear ad
   have bk:=zh (show cur++((1,(i0:Int)),s.V) :: ([((2,(i0:Int)),s.V)]++(aV x y (i0+1) (ss.drop (i0+1))++tl))=wl by simpa using aa)
   have bu:=zh (show (cur++[((1,(i0:Int)),s.V)])++((2,(i0:Int)),s.V) :: (aV x y (i0+1) (ss.drop (i0+1))++tl)=wl by simpa using aa)
   have HT:=zh (show Hid ((cur++[((1,(i0:Int)),s.V)]++[((2,(i0:Int)),s.V)])++(aV x y (i0+1) (ss.drop (i0+1))++tl)=wl) from zh (by simpa using aa))
   clear aa
   obtain⟨fn,tmps,assign,body,hy,aF⟩:=HY.out cur ((1,(i0:Int)),s.V) _ _ (bk.out) bi
   unfold ig at hy
   dsimp only at hy
   gi_wp2_with fail
   refine aF.mono ?_
   clear hy aF
   rintro e W2 (⟨rfl,bw,bm⟩|⟨rfl,bE⟩)
   case inr =>
    have a0:=zh (show ∀ v,R (.returned v) W2 from λv=>hR.out _ _ ⟨⟨_,rfl⟩,.inr ⟨_,_,(List.append_assoc _ _ _).trans (bk.out),bE⟩⟩)
    gi_wp2
    refine bodyPost_ret (results_none rfl _ _ _) rfl ?_
    exact a0.out _
   case inl =>
    have hk:=bj.trans bm
    obtain⟨e1,e2,e3,e4⟩:=HX.out _ bm
    have q1:=(am.out W2 hk).cs
    have q2:=(am.out W2 hk).cw
    have q3:=(am.out W2 hk).ch
    obtain⟨fn,tmps,assign,body,hy,aF⟩:=HY.out (cur++[((1,(i0:Int)),s.V)]) ((2,(i0:Int)),s.V) _ _ (bu.out) bw
    unfold ig at hy
    dsimp only at hy
    gi_wp2_with fail
    refine aF.mono ?_
    clear hy aF
    rintro e W3 (⟨rfl,cd,cj⟩|⟨rfl,ci⟩)
    case inr =>
     have a0:=zh (show ∀ v,R (.returned v) W3 from λv=>hR.out _ _ ⟨⟨_,rfl⟩,.inr ⟨_,_,(List.append_assoc _ _ _).trans (bu.out),ci⟩⟩)
     gi_wp2
     refine bodyPost_ret (results_none rfl _ _ _) rfl ?_
     exact a0.out _
    case inl =>
     have hk:=hk.trans cj
     gi_wp2_with fail
     refine⟨⟨i0+1,((cur++[((1,(i0:Int)),s.V)])++[((2,(i0:Int)),s.V)]),by omega,by go_num,HT.out,cd,hk⟩,by simp[intOf];omega⟩
  obtain rfl:i0=m:=by omega
  have HL:Hid (cur++((jd (val k ss) k x y ((x:Int)-1).toNat).drop 0++gn (val k ss) k x y ((y:Int)-1).toNat)=wl):=zh (by
   have h:=a9.out
   rw[List.drop_of_length_le (by rw[hm.out];exact Nat.le_refl _),← cA.out] at h
   simpa[aV] using h)
  gi_wp2_with fail
  gi_loopw [7] (λi wr=>∃ (a:Nat) (cur:List dA),(a:Int)+1<=x/\i=.int .i64 (a+1)/\Hid (cur++((jd (val k ss) k x y ((x:Int)-1).toNat).drop a++gn (val k ss) k x y ((y:Int)-1).toNat)=wl)/\J cur wr/\KC mo W wr) (λi _=>(x-intOf i).toNat)
  case atStart=>exact⟨0,_,by omega,rfl,HL,hJ,hk⟩
  clear q1 q2 q3 hJ hk HL
  obtain⟨a,cur,ha,rfl,a9,hJ,hk⟩:=hrel
  have q1:=(am.out wr hk).cs
  have q2:=(am.out wr hk).cw
  have q3:=(am.out wr hk).ch
  have q4:=(am.out wr hk).ck
  by_cases bt:(a:Int)+1<x
  ·obtain⟨r,hr⟩:∃ r:Nat,r=((x:Int)-((a:Int)+1)-k).toNat:=⟨_,rfl⟩
   have b8:val k ss ((x:Int)-((a:Int)+1)-k) y=val k ss (r:Int) y:=by
    by_cases h:(x:Int)-((a:Int)+1)-k<1
    ·rw[fD k ss _ _ (.inl (by omega)),fD k ss _ _ (.inl (by omega))]
    rw[show (r:Int)=(x:Int)-((a:Int)+1)-k by omega]
   have t1:=(am.out wr hk).t1 (a+1) (by omega)
   have t2:=(am.out wr hk).t1 r (by omega)
   have b1':=tu k ss
   have b9:=vP k ss cS cV
   obtain⟨va,bp⟩:∃ va,val k ss ((a:Int)+1) y=va:=⟨_,rfl⟩
   obtain⟨vr,bq⟩:∃ vr,val k ss (r:Int) y=vr:=⟨_,rfl⟩
   have cl:0<=va/\va<=4096000000:=by rw[← bp];exact⟨b1' _ _,b9 _ _ (by omega) (by omega)⟩
   have cn:0<=vr/\vr<=4096000000:=by rw[← bq];exact⟨b1' _ _,b9 _ _ (by omega) (by omega)⟩
   rw[Int.natCast_add,Int.natCast_one,bp] at t1
   rw[bq] at t2
   clear b1' b9
   have HE:=zh (show (3,(a:Int)+1,va+vr)=(3,(a:Int)+1,val k ss ((a:Int)+1) y+val k ss ((x:Int)-((a:Int)+1)-k) y) from by rw[bp,b8,bq])
   have bc:=zh (show cur++((3,(a:Int)+1),va+vr) :: ((jd (val k ss) k x y ((x:Int)-1).toNat).drop (a+1)++gn (val k ss) k x y ((y:Int)-1).toNat)=wl from by
    rw[← a9.out,← bp,← bq,← b8]
    have hd:(jd (val k ss) k x y ((x:Int)-1).toNat).drop a=((3,(a:Int)+1),val k ss ((a:Int)+1) y+val k ss ((x:Int)-((a:Int)+1)-k) y) :: (jd (val k ss) k x y ((x:Int)-1).toNat).drop (a+1):=by
     have hl:a<((jd (val k ss) k x y ((x:Int)-1).toNat)).length:=by simp[jd];omega
     rw[List.drop_eq_getElem_cons hl]
     congr 1
     simp[jd]
    rw[hd]
    try rfl)
   clear bp bq b8 HE
   have s1:0<=va:=cl.1
   have s2:va<=4096000000:=cl.2
   have s3:0<=vr:=cn.1
   have s4:vr<=4096000000:=cn.2
   have w0:IntKind.i64.wrap ((x:Int)-((a:Int)+1))=(x:Int)-((a:Int)+1):=IntWalk.i64_in _ (by omega)
   obtain⟨e0,bS⟩:∃ e0,(x:Int)-((a:Int)+1)-k=e0:=⟨_,rfl⟩
   have w1:IntKind.i64.wrap ((x:Int)-((a:Int)+1)-k)=e0:=by rw[IntWalk.i64_in _ (by omega),bS]
   have w2:IntKind.i64.wrap (va+vr)=va+vr:=IntWalk.i64_in _ (by omega)
   have i1:(a:Int)+1<65:=by omega
   have i2:(x:Int)<65:=by omega
   have i3:(y:Int)<65:=by omega
   have i4:(r:Int)<65:=by omega
   have i5:a+1<65:=by omega
   have i6:x<65:=by omega
   have i7:y<65:=by omega
   have i8:r<65:=by omega
   have i9:(0:Int)<=(a:Int)+1:=by omega
   have i10:((a:Int)+1).toNat=a+1:=by omega
   gi_wp2_with fail
   refine wpIn_wide.2 ?_
   by_cases dk:0<e0
   ·obtain rfl:e0=(r:Int):=by omega
    have dq:0<r:=by omega
    clear bS hr
    go_quiet (fail)
    clear w0 w1 w2 i1 i2 i3 i4 i5 i6 i7 i8 i9 i10
    obtain⟨wz,ca⟩:∃ wz,wr.drewN nq=wz:=⟨_,rfl⟩
    have bI:J cur (wr.drewN nq):=cc.out _ _ _ hJ (bC wr nq)
    have b7:KC mo W (wr.drewN nq):=hk.trans (KC.grown (bC wr nq) (λb h=>by cases h))
    clear ca
    obtain⟨fn,tmps,assign,body,hy,aF⟩:=HY.out cur ((3,(a:Int)+1),va+vr) _ _ bc.out bI
    unfold ig at hy
    dsimp only at hy
    gi_wp2_with fail
    refine aF.mono ?_
    clear hy aF
    rintro e W2 (⟨rfl,bv,b6⟩|⟨rfl,bD⟩)
    case inr =>
     have a0:=zh (show ∀ v,R (.returned v) W2 from λv=>hR.out _ _ ⟨⟨_,rfl⟩,.inr ⟨_,_,(List.append_assoc _ _ _).trans bc.out,bD⟩⟩)
     gi_wp2
     refine bodyPost_ret (results_none rfl _ _ _) rfl ?_
     exact a0.out _
    case inl =>
     have HT:=zh (show Hid ((cur++[((3,(a:Int)+1),va+vr)])++((jd (val k ss) k x y ((x:Int)-1).toNat).drop (a+1)++gn (val k ss) k x y ((y:Int)-1).toNat)=wl) from zh ((List.append_assoc _ _ _).trans bc.out))
     gi_wp2_with fail
     refine⟨⟨a+1,_,by omega,by go_num,HT.out,bv,b7.trans b6⟩,by simp[intOf];omega⟩
   have cr:r=0:=by omega
   clear bS hr
   subst cr
   simp only[Nat.zero_mul,Nat.add_zero] at t2
   go_quiet (fail)
   clear w0 w1 w2 i1 i2 i3 i4 i5 i6 i7 i8 i9 i10
   obtain⟨wz,ca⟩:∃ wz,wr.drewN nq=wz:=⟨_,rfl⟩
   have bI:J cur (wr.drewN nq):=cc.out _ _ _ hJ (bC wr nq)
   have b7:KC mo W (wr.drewN nq):=hk.trans (KC.grown (bC wr nq) (λb h=>by cases h))
   clear ca
   obtain⟨fn,tmps,assign,body,hy,aF⟩:=HY.out cur ((3,(a:Int)+1),va+vr) _ _ bc.out bI
   unfold ig at hy
   dsimp only at hy
   gi_wp2_with fail
   refine aF.mono ?_
   clear hy aF
   rintro e W2 (⟨rfl,bv,b6⟩|⟨rfl,bD⟩)
   case inr =>
    have a0:=zh (show ∀ v,R (.returned v) W2 from λv=>hR.out _ _ ⟨⟨_,rfl⟩,.inr ⟨_,_,(List.append_assoc _ _ _).trans bc.out,bD⟩⟩)
    gi_wp2
    refine bodyPost_ret (results_none rfl _ _ _) rfl ?_
    exact a0.out _
   case inl =>
    have HT:=zh (show Hid ((cur++[((3,(a:Int)+1),va+vr)])++((jd (val k ss) k x y ((x:Int)-1).toNat).drop (a+1)++gn (val k ss) k x y ((y:Int)-1).toNat)=wl) from zh ((List.append_assoc _ _ _).trans bc.out))
    gi_wp2_with fail
    refine⟨⟨a+1,_,by omega,by go_num,HT.out,bv,b7.trans b6⟩,by simp[intOf];omega⟩
  have cq:(a:Int)+1=x:=by omega
  have HL:Hid (cur++(gn (val k ss) k x y ((y:Int)-1).toNat).drop 0=wl):=zh (by
   have h:=a9.out
   rw[List.drop_of_length_le (by simp[jd];omega)] at h
   simpa using h)
  have dz:¬ (a:Int)+1<x:=bt
  clear a9 bt cq
  gi_wp2_with fail
  gi_loopw [9] (λi wr=>∃ (a:Nat) (cur:List dA),(a:Int)+1<=y/\i=.int .i64 (a+1)/\Hid (cur++((gn (val k ss) k x y ((y:Int)-1).toNat).drop a)=wl)/\J cur wr/\KC mo W wr) (λi _=>(y-intOf i).toNat)
  case atStart=>exact⟨0,_,by omega,rfl,HL,hJ,hk⟩
  clear q1 q2 q3 hJ hk HL
  obtain⟨a,cur,ha,rfl,a9,hJ,hk⟩:=hrel
  have q1:=(am.out wr hk).cs
  have q2:=(am.out wr hk).cw
  have q3:=(am.out wr hk).ch
  have q4:=(am.out wr hk).ck
  by_cases bt:(a:Int)+1<y
  ·obtain⟨r,hr⟩:∃ r:Nat,r=((y:Int)-((a:Int)+1)-k).toNat:=⟨_,rfl⟩
   have b8:val k ss x ((y:Int)-((a:Int)+1)-k)=val k ss x (r:Int):=by
    by_cases h:(y:Int)-((a:Int)+1)-k<1
    ·rw[fD k ss _ _ (.inr (by omega)),fD k ss _ _ (.inr (by omega))]
    rw[show (r:Int)=(y:Int)-((a:Int)+1)-k by omega]
   have t1:=(am.out wr hk).t2 (a+1) (by omega)
   have t2:=(am.out wr hk).t2 r (by omega)
   have b1':=tu k ss
   have b9:=vP k ss cS cV
   obtain⟨va,bp⟩:∃ va,val k ss x ((a:Int)+1)=va:=⟨_,rfl⟩
   obtain⟨vr,bq⟩:∃ vr,val k ss x (r:Int)=vr:=⟨_,rfl⟩
   have cl:0<=va/\va<=4096000000:=by rw[← bp];exact⟨b1' _ _,b9 _ _ (by omega) (by omega)⟩
   have cn:0<=vr/\vr<=4096000000:=by rw[← bq];exact⟨b1' _ _,b9 _ _ (by omega) (by omega)⟩
   rw[Int.natCast_add,Int.natCast_one,bp] at t1
   rw[bq] at t2
   clear b1' b9
   have HE:=zh (show (4,(a:Int)+1,va+vr)=(4,(a:Int)+1,val k ss x ((a:Int)+1)+val k ss x ((y:Int)-((a:Int)+1)-k)) from by rw[bp,b8,bq])
   have bc:=zh (show cur++((4,(a:Int)+1),va+vr) :: ((gn (val k ss) k x y ((y:Int)-1).toNat).drop (a+1))=wl from by
    rw[← a9.out,← bp,← bq,← b8]
    have hd:(gn (val k ss) k x y ((y:Int)-1).toNat).drop a=((4,(a:Int)+1),val k ss x ((a:Int)+1)+val k ss x ((y:Int)-((a:Int)+1)-k)) :: (gn (val k ss) k x y ((y:Int)-1).toNat).drop (a+1):=by
     have hl:a<((gn (val k ss) k x y ((y:Int)-1).toNat)).length:=by simp[gn];omega
     rw[List.drop_eq_getElem_cons hl]
     congr 1
     simp[gn]
    rw[hd]
    try rfl)
   clear bp bq b8 HE
   have s1:0<=va:=cl.1
   have s2:va<=4096000000:=cl.2
   have s3:0<=vr:=cn.1
   have s4:vr<=4096000000:=cn.2
   have w0:IntKind.i64.wrap ((y:Int)-((a:Int)+1))=(y:Int)-((a:Int)+1):=IntWalk.i64_in _ (by omega)
   obtain⟨e0,bS⟩:∃ e0,(y:Int)-((a:Int)+1)-k=e0:=⟨_,rfl⟩
   have w1:IntKind.i64.wrap ((y:Int)-((a:Int)+1)-k)=e0:=by rw[IntWalk.i64_in _ (by omega),bS]
   have w2:IntKind.i64.wrap (va+vr)=va+vr:=IntWalk.i64_in _ (by omega)
   have i1:(a:Int)+1<65:=by omega
   have i2:(x:Int)<65:=by omega
   have i3:(y:Int)<65:=by omega
   have i4:(r:Int)<65:=by omega
   have i5:a+1<65:=by omega
   have i6:x<65:=by omega
   have i7:y<65:=by omega
   have i8:r<65:=by omega
   have i9:(0:Int)<=(a:Int)+1:=by omega
   have i10:((a:Int)+1).toNat=a+1:=by omega
   gi_wp2_with fail
   refine wpIn_wide.2 ?_
   by_cases dk:0<e0
   ·obtain rfl:e0=(r:Int):=by omega
    have dq:0<r:=by omega
    clear bS hr
    go_quiet (fail)
    clear w0 w1 w2 i1 i2 i3 i4 i5 i6 i7 i8 i9 i10
    obtain⟨wz,ca⟩:∃ wz,wr.drewN nq=wz:=⟨_,rfl⟩
    have bI:J cur (wr.drewN nq):=cc.out _ _ _ hJ (bC wr nq)
    have b7:KC mo W (wr.drewN nq):=hk.trans (KC.grown (bC wr nq) (λb h=>by cases h))
    clear ca
    obtain⟨fn,tmps,assign,body,hy,aF⟩:=HY.out cur ((4,(a:Int)+1),va+vr) _ _ bc.out bI
    unfold ig at hy
    dsimp only at hy
    gi_wp2_with fail
    refine aF.mono ?_
    clear hy aF
    rintro e W2 (⟨rfl,bv,b6⟩|⟨rfl,bD⟩)
    case inr =>
     have a0:=zh (show ∀ v,R (.returned v) W2 from λv=>hR.out _ _ ⟨⟨_,rfl⟩,.inr ⟨_,_,(List.append_assoc _ _ _).trans bc.out,bD⟩⟩)
     gi_wp2
     refine bodyPost_ret (results_none rfl _ _ _) rfl ?_
     exact a0.out _
    case inl =>
     have HT:=zh (show Hid ((cur++[((4,(a:Int)+1),va+vr)])++((gn (val k ss) k x y ((y:Int)-1).toNat).drop (a+1))=wl) from zh ((List.append_assoc _ _ _).trans bc.out))
     gi_wp2_with fail
     refine⟨⟨a+1,_,by omega,by go_num,HT.out,bv,b7.trans b6⟩,by simp[intOf];omega⟩
   have cr:r=0:=by omega
   clear bS hr
   subst cr
   simp only[Nat.add_zero] at t2
   go_quiet (fail)
   clear w0 w1 w2 i1 i2 i3 i4 i5 i6 i7 i8 i9 i10
   obtain⟨wz,ca⟩:∃ wz,wr.drewN nq=wz:=⟨_,rfl⟩
   have bI:J cur (wr.drewN nq):=cc.out _ _ _ hJ (bC wr nq)
   have b7:KC mo W (wr.drewN nq):=hk.trans (KC.grown (bC wr nq) (λb h=>by cases h))
   clear ca
   obtain⟨fn,tmps,assign,body,hy,aF⟩:=HY.out cur ((4,(a:Int)+1),va+vr) _ _ bc.out bI
   unfold ig at hy
   dsimp only at hy
   gi_wp2_with fail
   refine aF.mono ?_
   clear hy aF
   rintro e W2 (⟨rfl,bv,b6⟩|⟨rfl,bD⟩)
   case inr =>
    have a0:=zh (show ∀ v,R (.returned v) W2 from λv=>hR.out _ _ ⟨⟨_,rfl⟩,.inr ⟨_,_,(List.append_assoc _ _ _).trans bc.out,bD⟩⟩)
    gi_wp2
    refine bodyPost_ret (results_none rfl _ _ _) rfl ?_
    exact a0.out _
   case inl =>
    have HT:=zh (show Hid ((cur++[((4,(a:Int)+1),va+vr)])++((gn (val k ss) k x y ((y:Int)-1).toNat).drop (a+1))=wl) from zh ((List.append_assoc _ _ _).trans bc.out))
    gi_wp2_with fail
    refine⟨⟨a+1,_,by omega,by go_num,HT.out,bv,b7.trans b6⟩,by simp[intOf];omega⟩
  have cq:(a:Int)+1=y:=by omega
  have a0:=zh (show ∀ v,R (.returned v) wr from λv=>hR.out _ _ ⟨⟨_,rfl⟩,.inl (by
   have h:=a9.out
   rw[List.drop_of_length_le (by simp[gn];omega),List.append_nil] at h
   rw[← h];exact hJ)⟩)
  clear cq
  gi_wp2
  go_end0
  exact a0.out _
end Go.Proofs.YtgbnicokglpdbaaGreatDoor
