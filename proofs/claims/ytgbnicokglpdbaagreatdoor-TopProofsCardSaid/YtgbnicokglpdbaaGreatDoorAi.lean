/-
(*House); conditions: those of each theorem.
-/
import Derived.Test.YtgbnicokglpdbaaGreatDoorAg
namespace Go.Proofs.YtgbnicokglpdbaaGreatDoor
set_option maxHeartbeats 8000000
set_option maxRecDepth 100000
section
section
open Go.RowKit Go.Shelf
theorem B6(s p:ByteArray)(w:World)(b:Nat)(ht:Gl b w)(hs:s.size<4294967281)(hp:1<=p.size) :
 Calls Tryz.prog 39 #[.string s,.string p] w λe w'=>∃ n,e=.returned (.slice (some ⟨w.heap.size,0,none⟩) n n)/\ag bW 1 w' (some ⟨w.heap.size,0,none⟩) n (aP (Lib.split s.data.toList p.data.toList))/\n<=s.size+1/\Below w.heap.size w w':=by
 obtain⟨m,hm⟩:=ht.mx
 refine (Any.strings_Split tj qd s p m w hs hm hp).mono ?_
 rintro e w' ⟨rfl,rfl⟩
 have e:Lib.splitB p 0 (Lib.countB s p) s=aP (Lib.split s.data.toList p.data.toList):=by
  refine vL ?_
  rw[Lib.splitB_data]
  rfl
 have hl:=Lib.splitB_all p hp 0 _ s rfl
 have f0:=Lib.countB_le p hp s.size s (Nat.le_refl _)
 rw[e] at hl ⊢
 refine⟨_,rfl,?_,by omega,ab w _⟩
 rw[← hl]
 exact iX w _
theorem yj{P:Program}{w:World}{a:Addr}{m:Mode}(f:Fn)(x y:Array Value):(store a (.func f x y) m).run P w=stored P w a (.func f x y) m:=run_store P w a _ m rfl
attribute [local go_sem] yj
theorem DA(w:World)(h:Nat)(s:ByteArray)(hs:s.size<=4096)(ht:Lib.hasPrefix s.data.toList [116,114,121,32]=false)(hw:[] ∉ cB s.data.toList)(nm fo:List UInt8)(f:FuncId)(ws:List (List UInt8))(bu:cB s.data.toList=nm :: ws)(i:Nat)(hi:ff[i]?=some (nm,fo,f))(ca:∀ j x,j<i->ff[j]?=some x->x.1≠nm)
 (c4:fo.length<=1000) (cT:∀ (j:Nat) b,fo[j]?=some b->b.toNat<128) (cV:∀ k∈Lib.fields fo,k.length<=1000) (c3:(Lib.fields fo).length<=1000) (eg:∀ args w,(callFunc f args).run Tryz.prog w=.ok (.enter f args) w) (bg:Nat) (hg:Gl bg w) (hb:bg<=w.heap.size) (R:Value->World->Prop)
 (cq:(aD fo ws).2.2=false->∀ W,Below w.heap.size w W->R (.iface 64 (.int .i64 2)) W)
 (ct:(aD fo ws).2.2=true->∀ W A1 c1 n1 A2 c2 n2,Below w.heap.size w W->cU w.heap.size W A1 n1 c1 A2 n2 c2 (aD fo ws).1 (aD fo ws).2.1->Calls Tryz.prog f #[.pointer (some ⟨h,0,none⟩),.agg #[.slice A1 n1 c1,.slice A2 n2 c2]] W λe w'=>∃ v,e=.returned v/\R v w') :
 Calls Tryz.prog 16 #[.pointer (some ⟨h,0,none⟩),.string s] w λe w'=>∃ v,e=.returned v/\R v w':=by
 refine ae ?_
 intro Q hQ
 have HG:=zh hg
 have b7:=zh cq
 have b8:=zh ct
 have cA:=zh bu
 have Hw:=zh hw
 have Hi:=zh hi
 have eu:=zh ca
 have HP:=zh (ED s ⟨#[116,114,121,32]⟩ w)
 rw[show Lib.hasPrefix s.data.toList (⟨#[116,114,121,32]⟩:ByteArray).data.toList=false from ht] at HP
 have HS:=zh (B6 s ⟨#[32]⟩ w bg hg (by omega) (by decide))
 clear hg cq ct bu hw hi ca ht
 go_enter Tryz.func16,Tryz.ntmps16
 go_wp2_with (go_at_call 37;(with_reducible refine HP.out.mono ?_);rintro e w1 ⟨rfl,rfl⟩)
 refine HS.out.mono ?_
 rintro e w1 ⟨n,rfl,hx,hn,bf⟩
 have d6:Lib.split s.data.toList (⟨#[32]⟩:ByteArray).data.toList=nm :: ws:=(DQ s.data.toList).trans cA.out
 rw[d6] at hx
 have HX:=zh hx
 have bS:=zh bf
 have dq:=zh (tP _ n n _ ⟨#[]⟩ w1 hx (by omega))
 have d4:Lib.containsS (aP (nm :: ws)) (⟨#[]⟩:ByteArray)=false:=by
  have h1:=mM (nm :: ws) []
  rw[show (⟨#[]⟩:ByteArray)=⟨([]:List UInt8).toArray⟩ from rfl,h1,← cA.out]
  simpa using Hw.out
 rw[d4] at dq
 clear hx bf d6 d4
 go_wp2_with (go_at_call 40;go_loud (refine dq.out.mono ?_;rintro e w2 ⟨rfl,rfl⟩))
 refine (pm w1).mono ?_
 rintro e w2 ⟨cc,rfl,d2,cL⟩
 have HC:=zh d2
 have bv:=zh (bS.out.trans (cL.mono bS.out.size))
 have et:=zh (HX.out.below cL)
 clear d2 cL
 go_wp2_with fail
 have fz:i<40:=by
  have:=(List.getElem?_eq_some_iff.1 Hi.out).1
  rw[nF] at this
  exact this
 go_loopw [46] (λs46 wr=>∃ k:Nat,k<=i/\s46=.int .i64 (k:Int)/\Hid (Below w.heap.size w wr)/\Hid (ag bW 1 wr (some ⟨w.heap.size,0,none⟩) n (aP (nm :: ws)))/\Hid (ag mK 3 wr (some ⟨w1.heap.size,0,none⟩) 40 ff)) (λs46 _=>40-(intOf s46).toNat)
 case atStart=>exact⟨0,Nat.zero_le _,rfl,bv,et,HC⟩
 obtain⟨k,hk,rfl,Hb,Hx,Hc⟩:=hrel
 obtain⟨b0,o0,x,e0,fc,a9,bE⟩:=Hc.out.at_ nE (k:=k) (by omega)
 cases e0
 have q0:=bE 0 _ rfl
 have q1:=bE 1 _ rfl
 have q2:=bE 2 _ rfl
 rw[Nat.zero_add] at q0 q1 q2
 rw[Nat.add_zero] at q0
 obtain⟨b1,o1,y,e1,bf,hy,q3⟩:=di Hx.out (k:=0) (by rw[Hx.out.1];simp[aP])
 cases e1
 have e7:y=⟨nm.toArray⟩:=by
  have:(aP (nm :: ws))[0]?=some ⟨nm.toArray⟩:=rfl
  rw[this] at hy
  exact (Option.some.inj hy).symm
 subst e7
 obtain⟨xn,xf,xg⟩:=x
 have i1:(k:Int)<40:=by omega
 have f1:1<=n:=by rw[Hx.out.1];simp[aP]
 have cO:=heap_alloc_new wr (.cells #[.string ⟨xn.toArray⟩,.string ⟨xf.toArray⟩,.func (.func xg) #[] #[]] 125)
 obtain⟨p0,p1,p2,-⟩:=rY cO
 have q3':=(World.cell?_alloc_lt wr (.cells #[.string ⟨xn.toArray⟩,.string ⟨xf.toArray⟩,.func (.func xg) #[] #[]] 125) ⟨w.heap.size,0+0,none⟩ (by dsimp only;omega)).trans q3
 rw[Nat.add_zero] at q3'
 have e9:=zh a9
 dsimp only at q0 q1 q2
 have b6:=zh (bJ (Below.refl _ wr) (.cells #[.string ⟨xn.toArray⟩,.string ⟨xf.toArray⟩,.func (.func xg) #[] #[]] 125))
 obtain⟨W3,b9⟩:∃ W3,wr.alloc (.cells #[.string ⟨xn.toArray⟩,.string ⟨xf.toArray⟩,.func (.func xg) #[] #[]] 125)=W3:=⟨_,rfl⟩
 have cx:=zh b9
 rw[b9] at p0 p1 p2 q3' b6
 by_cases eF:k<i
 ·have e5:xn≠nm:=eu.out k _ eF a9
  have fu:(xn==nm)=false:=beq_eq_false_iff_ne.2 e5
  clear bE a9 hy cO q3 b9
  go_wp2_with fail
  rw[cx.out]
  go_region
  have dz:=dp (w:=W3) 1
  have am:Below wr.heap.size wr (W3.drewN 1):=b6.out.trans (dz.mono b6.out.size)
  have bp:=zh am
  clear dz am
  go_wp2_with fail
  exact⟨⟨k+1,by omega,by go_num,zh (Hb.out.trans (bp.out.mono Hb.out.size)),zh (Hx.out.below bp.out),zh (Hc.out.below bp.out)⟩,by simp[intOf]<;>omega⟩
 have eI:k=i:=by omega
 subst eI
 have c8:=Hi.out
 rw[a9] at c8
 simp only[Option.some.injEq,Prod.mk.injEq] at c8
 obtain⟨rfl,rfl,rfl⟩:=c8
 have cn:n=ws.length+1:=by
  have:=Hx.out.1
  simpa[aP] using this
 obtain⟨A',bq⟩:∃ A':Option Addr,(if n=1 then some ⟨w.heap.size,0,none⟩ else some ⟨w.heap.size,1,none⟩)=A':=⟨_,rfl⟩
 have am:Below wr.heap.size wr W3:=b6.out
 have ec:ag bW 1 W3 A' (n-1) (aP ws):=by
  have h3:=Hx.out.below am
  by_cases h1:n=1
  ·have:ws=[]:=List.eq_nil_of_length_eq_zero (by omega)
   subst this
   rw[h1]
   exact ag.nil _ _
  rw[if_neg h1] at bq
  subst bq
  rw[cn] at h3
  rw[cn]
  exact vM h3
 have ev:=zh ec
 have ad:=zh (Hb.out.trans (am.mono Hb.out.size))
 have b5:=zh (show ∀ W,Below W3.heap.size W3 W->Calls Tryz.prog 42 #[.string ⟨xf.toArray⟩,.slice A' (n-1) (n-1)] W (λe w'=>∃ A1 c1 A2 c2 n1 n2,e=.returned (.tuple #[.agg #[.slice A1 n1 c1,.slice A2 n2 c2],.bool (aD xf ws).2.2])/\cU W.heap.size w' A1 n1 c1 A2 n2 c2 (aD xf ws).1 (aD xf ws).2.1/\Below W3.heap.size W3 w'/\Below W.heap.size W w') from λW hW=>(CU ⟨xf.toArray⟩ A' (n-1) (n-1) ws W (ev.out.below hW) (Nat.le_refl _) ⟨by dsimp only;simp only[List.length_nil];omega,λx hx=>by
  have h1:=uo (l:=s.data.toList) (w:=x) (by rw[cA.out];exact List.mem_cons_of_mem _ hx)
  have h2:=aO s
  omega⟩ (by rw[aO];exact c4) cT cV c3 bg ((HG.out.on (ad.out.mono hb)).on (hW.mono (by have:=ad.out.size;omega))) (by have:=ad.out.size;have:=hW.size;omega)).mono λe w' ⟨A1,c1,A2,c2,n1,n2,q1,q2,q4⟩=>⟨A1,c1,A2,c2,n1,n2,q1,q2,hW.trans (q4.mono hW.size),q4⟩)
 have e8:=zh cn
 have bt:wr.heap.size<W3.heap.size:=by rw[← cx.out];simp
 clear bE a9 hy cO q3 b9 ec am cn
 go_wp2_with fail
 rw[cx.out]
 go_region
 have f4:W3.heap.size≠wr.heap.size:=by omega
 have f5:wr.heap.size≠W3.heap.size:=by omega
 have p1':W3.drew.cell? ⟨wr.heap.size,1,none⟩=some (.string ⟨xf.toArray⟩):=p1
 obtain⟨res,c6⟩:∃ res,(aD xf ws).2.2=res:=⟨_,rfl⟩
 have bj:=zh c6
 rw[c6] at b5
 clear c6
 by_cases h1:n=1
 ·rw[if_pos h1] at bq
  subst bq
  subst h1
  simp only[Nat.sub_self] at b5
  go_upto_region 14 with fail
  go_region_held3 (λw'=>w'.cell? ⟨wr.heap.size,1,none⟩=some (.string ⟨xf.toArray⟩))
   (first
   |exact p1'
   |exact pX
   |go_keep)
   (first
   |(go_at_call 42;(refine (b5.out _ (by first|exact dp 2|exact (dp (w:=W3) 2).alloc (Nat.le_refl _) _)).mono ?_);rintro e w5 ⟨A1,c1,A2,c2,n1,n2,rfl,bI,bm,bD⟩;(first|(have hy:=(bD.block W3.heap.size (by simp)).trans (heap_alloc_new W3.drew.drew _);have cS:=ap hy;obtain⟨y0,y1,yf⟩:=cS;have yf0:=yf 0;have yf1:=yf 1;have Hy:=zh hy;clear hy yf)|skip);have pX:=(bm.cell (p:=⟨wr.heap.size,1,none⟩) bt).trans p1;have bw:=zh bI;have bc:=zh bm;clear bI bm bD))
  ·obtain⟨Wf,aa⟩:∃ Wf,w5.alloc (.cells #[.slice A1 n1 c1,.slice A2 n2 c2] 127)=Wf:=⟨_,rfl⟩
   have hr:Wf.heap[w5.heap.size]?=some (.cells #[.slice A1 n1 c1,.slice A2 n2 c2] 127 (0,0)):=aa ▸ heap_alloc_new w5 _
   have aF:Below W3.heap.size W3 Wf:=aa ▸ bc.out.alloc bc.out.size _
   have bi:Below w5.heap.size w5 Wf:=aa ▸ ab w5 _
   have bk:=zh ((bw.out.below bi).mono (B':=w.heap.size) (by have:=ad.out.size;simp;omega))
   rw[aa]
   obtain⟨r0,r1,-⟩:=ap hr
   have p2':=(aF.cell (p:=⟨wr.heap.size,2,none⟩) bt).trans p2
   have a0:=zh (ad.out.trans (aF.mono (by have:=ad.out.size;omega)))
   clear aa hr aF bi
   cases res
   ·go_wp2
    exact hQ.out _ _ ⟨_,rfl,b7.out bj.out _ a0.out⟩
   have HD:=zh (b8.out bj.out Wf A1 c1 n1 A2 c2 n2 a0.out bk.out)
   go_wp2_with fail
   refine HD.out.mono ?_
   rintro e w9 ⟨v,rfl,hv⟩
   have HV:=zh hv
   clear hv
   go_wp2
   exact hQ.out _ _ ⟨v,rfl,HV.out⟩
  have h9:=aA (i:=1) (v:=.slice A2 n2 c2) (aA (i:=0) (v:=.slice A1 n1 c1) Hy.out)
  obtain⟨Wf,aa⟩:∃ Wf,(w5.setCell ⟨W3.heap.size,0,none⟩ (.slice A1 n1 c1)).setCell ⟨W3.heap.size,1,none⟩ (.slice A2 n2 c2)=Wf:=⟨_,rfl⟩
  rw[aa] at h9
  have hr:Wf.heap[W3.heap.size]?=some (.cells #[.slice A1 n1 c1,.slice A2 n2 c2] 127 (0,0)):=h9
  have a9:Kx (λj=>j=W3.heap.size) w5 Wf:=aa ▸ bz (S:=λj=>j=W3.heap.size) (bz (S:=λj=>j=W3.heap.size) (Kx.refl _ w5) rfl 0 _) rfl 1 _
  have aF:Below W3.heap.size W3 Wf:=a9.low bc.out (λj hj=>by omega) bc.out.size
  have bi:=True.intro
  have c9:=Hy.out
  have bk:=zh ((bw.out.kx a9 (λj e=>by subst e;simp)).mono (B':=w.heap.size) (by have:=ad.out.size;simp;omega))
  rw[aa]
  clear c9
  obtain⟨r0,r1,-⟩:=ap hr
  have p2':=(aF.cell (p:=⟨wr.heap.size,2,none⟩) bt).trans p2
  have a0:=zh (ad.out.trans (aF.mono (by have:=ad.out.size;omega)))
  clear aa hr aF bi
  cases res
  ·go_wp2
   exact hQ.out _ _ ⟨_,rfl,b7.out bj.out _ a0.out⟩
  have HD:=zh (b8.out bj.out Wf A1 c1 n1 A2 c2 n2 a0.out bk.out)
  go_wp2_with fail
  refine HD.out.mono ?_
  rintro e w9 ⟨v,rfl,hv⟩
  have HV:=zh hv
  clear hv
  go_wp2
  exact hQ.out _ _ ⟨v,rfl,HV.out⟩
 rw[if_neg h1] at bq
 subst bq
 have f2:1<n:=by omega
 have i5:(1:Int)<=(n:Int):=by omega
 have i6:(0:Int)<=(1:Int):=by decide
 go_upto_region 14 with fail
 go_region_held3 (λw'=>w'.cell? ⟨wr.heap.size,1,none⟩=some (.string ⟨xf.toArray⟩))
  (first
  |exact p1'
  |exact pX
  |go_keep)
  (first
  |(go_at_call 42;(refine (b5.out _ (by first|exact dp 2|exact (dp (w:=W3) 2).alloc (Nat.le_refl _) _)).mono ?_);rintro e w5 ⟨A1,c1,A2,c2,n1,n2,rfl,bI,bm,bD⟩;(first|(have hy:=(bD.block W3.heap.size (by simp)).trans (heap_alloc_new W3.drew.drew _);have cS:=ap hy;obtain⟨y0,y1,yf⟩:=cS;have yf0:=yf 0;have yf1:=yf 1;have Hy:=zh hy;clear hy yf)|skip);have pX:=(bm.cell (p:=⟨wr.heap.size,1,none⟩) bt).trans p1;have bw:=zh bI;have bc:=zh bm;clear bI bm bD))
 ·obtain⟨Wf,aa⟩:∃ Wf,w5.alloc (.cells #[.slice A1 n1 c1,.slice A2 n2 c2] 127)=Wf:=⟨_,rfl⟩
  have hr:Wf.heap[w5.heap.size]?=some (.cells #[.slice A1 n1 c1,.slice A2 n2 c2] 127 (0,0)):=aa ▸ heap_alloc_new w5 _
  have aF:Below W3.heap.size W3 Wf:=aa ▸ bc.out.alloc bc.out.size _
  have bi:Below w5.heap.size w5 Wf:=aa ▸ ab w5 _
  have bk:=zh ((bw.out.below bi).mono (B':=w.heap.size) (by have:=ad.out.size;simp;omega))
  rw[aa]
  obtain⟨r0,r1,-⟩:=ap hr
  have p2':=(aF.cell (p:=⟨wr.heap.size,2,none⟩) bt).trans p2
  have a0:=zh (ad.out.trans (aF.mono (by have:=ad.out.size;omega)))
  clear aa hr aF bi
  cases res
  ·go_wp2
   exact hQ.out _ _ ⟨_,rfl,b7.out bj.out _ a0.out⟩
  have HD:=zh (b8.out bj.out Wf A1 c1 n1 A2 c2 n2 a0.out bk.out)
  go_wp2_with fail
  refine HD.out.mono ?_
  rintro e w9 ⟨v,rfl,hv⟩
  have HV:=zh hv
  clear hv
  go_wp2
  exact hQ.out _ _ ⟨v,rfl,HV.out⟩
 have h9:=aA (i:=1) (v:=.slice A2 n2 c2) (aA (i:=0) (v:=.slice A1 n1 c1) Hy.out)
 obtain⟨Wf,aa⟩:∃ Wf,(w5.setCell ⟨W3.heap.size,0,none⟩ (.slice A1 n1 c1)).setCell ⟨W3.heap.size,1,none⟩ (.slice A2 n2 c2)=Wf:=⟨_,rfl⟩
 rw[aa] at h9
 have hr:Wf.heap[W3.heap.size]?=some (.cells #[.slice A1 n1 c1,.slice A2 n2 c2] 127 (0,0)):=h9
 have a9:Kx (λj=>j=W3.heap.size) w5 Wf:=aa ▸ bz (S:=λj=>j=W3.heap.size) (bz (S:=λj=>j=W3.heap.size) (Kx.refl _ w5) rfl 0 _) rfl 1 _
 have aF:Below W3.heap.size W3 Wf:=a9.low bc.out (λj hj=>by omega) bc.out.size
 have bi:=True.intro
 have c9:=Hy.out
 have bk:=zh ((bw.out.kx a9 (λj e=>by subst e;simp)).mono (B':=w.heap.size) (by have:=ad.out.size;simp;omega))
 rw[aa]
 clear c9
 obtain⟨r0,r1,-⟩:=ap hr
 have p2':=(aF.cell (p:=⟨wr.heap.size,2,none⟩) bt).trans p2
 have a0:=zh (ad.out.trans (aF.mono (by have:=ad.out.size;omega)))
 clear aa hr aF bi
 cases res
 ·go_wp2
  exact hQ.out _ _ ⟨_,rfl,b7.out bj.out _ a0.out⟩
 have HD:=zh (b8.out bj.out Wf A1 c1 n1 A2 c2 n2 a0.out bk.out)
 go_wp2_with fail
 refine HD.out.mono ?_
 rintro e w9 ⟨v,rfl,hv⟩
 have HV:=zh hv
 clear hv
 go_wp2
 exact hQ.out _ _ ⟨v,rfl,HV.out⟩
end
end
section
section
open Go.RowKit Go.Shelf
def kK(bg:Nat)(Q:List UInt8->World->Prop)(v:Value)(W:World):Prop:=
 (∃ c,v=.iface 64 (.int .i64 c)/\bF c/\Gl bg W/\∀ W',Below W.heap.size W W'->Q (fp c) W')\/
 (∃ A n cp L,v=.iface 292 (.slice A n cp)/\ag bW 1 W A n L/\n<=1000000/\n<=cp/\(aS (L.map (·.data.toList))).length<=140737488355328/\∀ W',Below W.heap.size W W'->Q (aS (L.map (·.data.toList))) W')
theorem Fe(w:World)(h:Nat)(hm:w.cell? ⟨h,0,none⟩=some (.bool true))(_hl:h<w.heap.size)(s:ByteArray)(hs:s.size<4294967281)(c:UInt8)(r:List UInt8)(hf:bP s.data.toList=c :: r)(hc:c≠35)(c5:r.length<4096)(bg:Nat)(hg:Gl bg w)(Q:List UInt8->World->Prop)
 (d5:∀ W,Below w.heap.size w W->Calls Tryz.prog 16 #[.pointer (some ⟨h,0,none⟩),.string ⟨(c :: r).toArray⟩] W λe w'=>∃ v,e=.returned v/\kK bg Q v w') :
 Calls Tryz.prog 7 #[.pointer (some ⟨h,0,none⟩),.string s] w λe w'=>∃ t,e=.returned (.string ⟨t.toArray⟩)/\Q t w':=by
 refine ae ?_
 intro R hR
 have HC:=zh (GO s ⟨#[10]⟩ w bg hg hs)
 have dt:=zh d5
 obtain⟨S,hS⟩:∃ S:ByteArray,(⟨(c :: r).toArray⟩:ByteArray)=S:=⟨_,rfl⟩
 have cC:S.data.toList=c :: r:=by rw[← hS]
 have cr:S.size=r.length+1:=by rw[aO,cC,List.length_cons]
 have hp:0<S.size:=by omega
 have i1:¬ (4096:Int)<(S.size:Int):=by omega
 have i3:(S.toList==[])=false:=by rw[Lib.toList_data,cC];rfl
 have h0:S[0]'hp=c:=by
  subst hS
  rfl
 have i2:(((S[0]'hp).toNat:Int)==35)=false:=by
  rw[h0,beq_eq_false_iff_ne]
  intro e
  exact hc (UInt8.toNat_inj.1 (by have fa : (35 : UInt8).toNat = 35 := by decide
                                  omega))
 rw[show (⟨(Lib.cut s.data.toList (⟨#[10]⟩:ByteArray).data.toList).1.toArray⟩:ByteArray)=S from by rw[← hS,show (Lib.cut s.data.toList (⟨#[10]⟩:ByteArray).data.toList).1=c :: r from (GP s.data.toList).trans hf]] at HC
 rw[hS] at dt
 clear hS cC h0 cr
 clear hg d5 hf hc
 go_enter Tryz.func7,Tryz.ntmps7
 go_wp2_with (go_at_call 15;go_loud (refine HC.out.mono ?_;rintro e w1 ⟨rfl,bf⟩;have bS:=zh bf;clear bf))
 refine (dt.out w1 bS.out).mono ?_
 rintro e w2 ⟨v,rfl,hv⟩
 rcases hv with⟨c2,rfl,h1,h2,h3⟩|⟨A,n,cp,L,rfl,h1,h2,h3,h4,h5⟩
 ·have HT:=zh (DC c2 w2 h1 bg h2)
  have H3:=zh h3
  have e4:=xK
  clear h1 h2 h3
  go_wp2_with fail
  refine HT.out.mono ?_
  rintro e w3 ⟨rfl,am⟩
  have HQ:=zh (H3.out w3 am)
  clear am
  go_wp2
  exact hR.out _ _ ⟨_,rfl,HQ.out⟩
 have HT:=zh (C4 A n cp L w2 h1 h2 h3 h4)
 have H3:=zh h5
 have e4:=Bt
 clear h1 h2 h3 h4 h5
 go_wp2_with fail
 refine HT.out.mono ?_
 rintro e w3 ⟨rfl,am⟩
 have HQ:=zh (H3.out w3 am)
 clear am
 go_wp2
 exact hR.out _ _ ⟨_,rfl,HQ.out⟩
end
end
section
section
open Go.RowKit Go.Shelf
theorem DN(x:UInt8)(l:List UInt8)(h:x≠32):cB (x :: l)=(x :: (cB l).headD []) :: (cB l).tail:=by rw[cB,if_neg h]
theorem DO{l nm:List UInt8}{ws:List (List UInt8)}{c:UInt8}(h:cB l=(c :: nm) :: ws):∃ r,l=c :: r:=by
 cases l with
 |nil=>simp[cB] at h
 |cons x r =>
  by_cases hx:x=32
  ·rw[cB,if_pos hx] at h
   simp at h
  rw[DN x r hx] at h
  simp only[List.cons.injEq] at h
  rw[h.1.1]
  exact⟨r,rfl⟩
theorem IN{l nm:List UInt8}{ws:List (List UInt8)}(h:cB l=nm :: ws)(hn:nm≠[116,114,121]):Lib.hasPrefix l [116,114,121,32]=false:=by
 cases hp:Lib.hasPrefix l [116,114,121,32] with
 |false=>rfl
 |true =>
  exfalso
  unfold Lib.hasPrefix at hp
  obtain⟨r,hr⟩:=List.isPrefixOf_iff_prefix.1 hp
  have h2:=jZ [116,114,121] r (by decide)
  have h3:l=[116,114,121]++32 :: r:=by rw[← hr];rfl
  rw[h3,h2] at h
  exact hn (by injection h with h _;exact h.symm)
theorem ES{i:Nat}{nm:List UInt8}(h:((ff.take i).any λx=>decide (x.1=nm))=false):∀ j x,j<i->ff[j]?=some x->x.1≠nm:=by
 intro j x hj hx e
 rw[List.any_eq_false] at h
 have hm:x∈ff.take i:=by
  obtain⟨h1,rfl⟩:=List.getElem?_eq_some_iff.1 hx
  rw[List.mem_take_iff_getElem]
  exact⟨j,by omega,rfl⟩
 exact h x hm (by simpa using e)
theorem iO(w:World)(h:Nat)(hm:w.cell? ⟨h,0,none⟩=some (.bool true))(hl:h<w.heap.size)(s:ByteArray)(hs:s.size<4294967281)(c:UInt8)(nm fo:List UInt8)(f:FuncId)(ws:List (List UInt8))(bu:cB (bP s.data.toList)=(c :: nm) :: ws)(hw:[] ∉ cB (bP s.data.toList))(c5:(bP s.data.toList).length<=4096)(hc:c≠35)(e6:c :: nm≠[116,114,121])(i:Nat)(hi:ff[i]?=some (c :: nm,fo,f))(ca:((ff.take i).any λx=>decide (x.1=c :: nm))=false)
 (c4:fo.length<=1000) (cT:(fo.all λb=>decide (b.toNat<128))=true) (cV:((Lib.fields fo).all λk=>decide (k.length<=1000))=true) (c3:(Lib.fields fo).length<=1000) (eg:∀ args w,(callFunc f args).run Tryz.prog w=.ok (.enter f args) w) (bg:Nat) (hg:Gl bg w) (hb:bg<=w.heap.size) (Q:List UInt8->World->Prop)
 (cq:(aD fo ws).2.2=false->∀ W,Below w.heap.size w W->Q (fp 2) W)
 (ct:(aD fo ws).2.2=true->∀ W A1 c1 n1 A2 c2 n2,Below w.heap.size w W->cU w.heap.size W A1 n1 c1 A2 n2 c2 (aD fo ws).1 (aD fo ws).2.1->Calls Tryz.prog f #[.pointer (some ⟨h,0,none⟩),.agg #[.slice A1 n1 c1,.slice A2 n2 c2]] W λe w'=>∃ v,e=.returned v/\kK bg Q v w') :
 Calls Tryz.prog 7 #[.pointer (some ⟨h,0,none⟩),.string s] w λe w'=>∃ t,e=.returned (.string ⟨t.toArray⟩)/\Q t w':=by
 obtain⟨r,hr⟩:=DO bu
 refine Fe w h hm hl s hs c r hr hc (by rw[hr,List.length_cons] at c5;omega) bg hg Q ?_
 intro W hW
 have hd:(⟨(c :: r).toArray⟩:ByteArray).data.toList=bP s.data.toList:=by rw[hr]
 refine DA W h ⟨(c :: r).toArray⟩ ?_ ?_ ?_ (c :: nm) fo f ws ?_ i hi (ES ca) c4 (λj b hb=>?_) (λk hk=>?_) c3 eg bg (hg.on (hW.mono hb)) (Nat.le_trans hb hW.size) (kK bg Q) (λhz W' cI=>?_) (λhz W' A1 c1 n1 A2 c2 n2 cI hA=>?_)
 ·rw[aO,hd];exact c5
 ·rw[hd];exact IN bu e6
 ·rw[hd];exact hw
 ·rw[hd];exact bu
 ·have:=List.all_eq_true.1 cT b (List.mem_of_getElem? hb)
  simpa using this
 ·have:=List.all_eq_true.1 cV k hk
  simpa using this
 ·have h2:=hW.trans (cI.mono hW.size)
  exact .inl ⟨2,rfl,⟨by decide,by decide⟩,hg.on (h2.mono hb),λW'' eB=>cq hz W'' (h2.trans (eB.mono h2.size))⟩
 exact ct hz W' A1 c1 n1 A2 c2 n2 (hW.trans (cI.mono hW.size)) (hA.mono hW.size)
end
end
section
theorem fF{k:List UInt8}{r:List (List UInt8)}{s:Ta}(h1:k≠kS)(h2:k≠kP)(h3:k≠bb):bR (k :: r) s=if (ba k s).2 then bR r (ba k s).1 else none:=by
 have e1:lN k=[k]:=by unfold lN;rw[if_neg h1,if_neg h2,if_neg h3]
 have e2:jm k=false:=by unfold jm;rw[decide_eq_false h1,decide_eq_false h2,decide_eq_false h3];rfl
 have e3:fx k=1:=by unfold fx;rw[if_neg h1]
 rw[bR,e1,e2,e3,Nat.add_comm,cY,if_pos (.inl (by decide)),bo]
 split
 ·rw[bo,Option.bind_some]
  have:∀ (n:Nat) (t:Ta),cY [k] false n (1-1) t=some t:=by
   intro n t
   cases n with
   |zero=>rfl
   |succ n=>rw[cY,if_neg (by simp)]
  rw[this]
  rfl
 rfl
theorem gY(s:Ta):ba kN s=match s.rest with|[]=>(s,false)|w :: r=>(⟨r,s.ws,s.ns++[(ce w).getD 0]⟩,(ce w).isSome):=by
 unfold ba
 cases s.rest<;>rfl
theorem qk{k:List UInt8}(h:k≠kN)(s:Ta):ba k s=match s.rest with|[]=>(s,false)|w :: r=>(⟨r,s.ws++[w],s.ns⟩,GA k w):=by
 unfold ba
 cases s.rest with
 |nil=>rfl
 |cons w r=>exact if_neg h
theorem xr{o:Option Ta}(h:(jK o).2.2=true):∃ s,o=some s/\s.rest=[]:=by
 cases o with
 |none=>cases h
 |some s=>exact⟨s,rfl,List.eq_nil_of_length_eq_zero (by simpa[jK] using h)⟩
theorem vC{ws:List (List UInt8)}(h:(aD [] ws).2.2=true):ws=[]/\aD [] ws=([],[],true):=by
 have hf:Lib.fields []=[]:=by decide
 unfold aD at h ⊢
 rw[hf] at h ⊢
 obtain⟨s,h1,h2⟩:=xr h
 cases h1
 dsimp only at h2
 subst h2
 exact⟨rfl,rfl⟩
def my:List UInt8:=[116,117,114,110,124,102,105,120,101,100]
theorem BO{s t:Ta}(h:bo [[119],[119],[119],kN] s=some t):∃ x y z u v q,s.rest=x :: y :: z :: u :: q/\ce u=some v/\t=⟨q,s.ws++[x,y,z],s.ns++[v]⟩:=by
 rw[bo,qk (by decide)] at h
 cases hr:s.rest with
 |nil=>rw[hr] at h;cases h
 |cons x q =>
  rw[hr] at h
  dsimp only at h
  rw[if_pos (by rfl),bo,qk (by decide)] at h
  cases q with
  |nil=>cases h
  |cons y q =>
   dsimp only at h
   rw[if_pos (by rfl),bo,qk (by decide)] at h
   cases q with
   |nil=>cases h
   |cons z q =>
    dsimp only at h
    rw[if_pos (by rfl),bo,gY] at h
    cases q with
    |nil=>cases h
    |cons u q =>
     dsimp only at h
     cases hv:ce u with
     |none=>simp[hv] at h
     |some v =>
      simp only[hv,Option.isSome_some,if_true,Option.getD_some,bo,Option.some.injEq] at h
      subst h
      exact⟨x,y,z,u,v,q,rfl,hv,by simp⟩
theorem vz:∀ (F L:Nat) (s t:Ta),cY [[119],[119],[119],kN] true F L s=some t->(∃ m,t.ws.length=s.ws.length+3*m/\t.ns.length=s.ns.length+m/\s.rest.length=t.rest.length+4*m)/\∀ x∈t.ws,x∈s.ws\/x∈s.rest
 |0,_,s,t,h=>by
  cases h
  exact⟨⟨0,rfl,rfl,rfl⟩,λx hx=>.inl hx⟩
 |F+1,L,s,t,h=>by
  rw[cY] at h
  split at h
  ·cases hg:bo [[119],[119],[119],kN] s with
   |none=>rw[hg] at h;cases h
   |some s' =>
    rw[hg,Option.bind_some] at h
    obtain⟨x,y,z,u,v,q,e1,hv,rfl⟩:=BO hg
    obtain⟨⟨m,h1,h2,h3⟩,h4⟩:=vz F (L-1) _ t h
    refine⟨⟨m+1,?_,?_,?_⟩,λa ha=>?_⟩
    ·rw[h1];simp;omega
    ·rw[h2];simp;omega
    ·rw[e1];simp only[List.length_cons];dsimp only at h3;omega
    rcases h4 a ha with hm|hm
    ·dsimp only at hm
     rcases List.mem_append.1 hm with hm|hm
     ·exact .inl hm
     right;rw[e1];simp at hm ⊢;rcases hm with rfl|rfl|rfl<;>simp
    dsimp only at hm
    right;rw[e1];simp[hm]
  cases h
  exact⟨⟨0,rfl,rfl,rfl⟩,λx hx=>.inl hx⟩
theorem vD{ws:List (List UInt8)}(h:(aD bb ws).2.2=true):(aD bb ws).1.length=3*(aD bb ws).2.1.length/\ws.length=4*(aD bb ws).2.1.length/\∀ x∈(aD bb ws).1,x∈ws:=by
 have hf:Lib.fields bb=[bb]:=by decide
 unfold aD at h ⊢
 rw[hf] at h ⊢
 obtain⟨s,h1,h2⟩:=xr h
 rw[h1]
 rw[bR,show lN bb=[[119],[119],[119],kN] by decide,show jm bb=true by decide,show fx bb=1 by decide] at h1
 cases hl:cY [[119],[119],[119],kN] true (1+ws.length) 1 ⟨ws,[],[]⟩ with
 |none=>rw[hl] at h1;cases h1
 |some t =>
  rw[hl] at h1
  cases h1
  obtain⟨⟨m,q1,q2,q3⟩,q4⟩:=vz _ _ _ _ hl
  rw[h2] at q3
  simp only[List.length_nil,Nat.zero_add] at q1 q2 q3
  refine⟨by show s.ws.length=3*s.ns.length;omega,by show ws.length=4*s.ns.length;omega,λx hx=>?_⟩
  rcases q4 x hx with hm|hm
  ·cases hm
  exact hm
end
section
section
open Go.RowKit Go.Shelf
def Ks(ty:TypeId):Prop:=ty=103\/ty=5\/ty=109\/ty=110\/ty=189
def I4(W:World)(F G:Nat->Prop):Prop:=∀ j,F j->((∃ C ty,W.heap[j]?=some (.cells C ty (0,0))/\Ks ty)\/∃ es cl,W.heap[j]?=some (.map es cl))->G j
theorem cJ.subT{W:World}{F G:Nat->Prop}{a:Nat}{d:Dk}(h:cJ W F a d)(k:I4 W F G):cJ W G a d:=by
 obtain⟨h1,h2,A,c,h3,h4,h5⟩:=h
 refine⟨h1,k a h2 (.inl ⟨_,_,h3,.inl rfl⟩),A,c,h3,h4,λg hg=>k g (h5 g hg) (.inl ?_)⟩
 obtain⟨C,hC⟩:=a8 h4 hg
 exact⟨C,_,hC,.inr (.inl rfl)⟩
theorem jE.subT{W:World}{F G:Nat->Prop}{v:Value}{E:List (List Mv)}(h:jE W F v E)(k:I4 W F G):jE W G v E:=by
 obtain⟨o,h1,h2,h3⟩:=h
 refine⟨o,h1,λg hg=>?_,λi e he=>?_⟩
 ·obtain⟨C,hC⟩:=a8 h1 hg
  exact k g (h2 g hg) (.inl ⟨C,_,hC,.inr (.inr (.inr (.inl rfl)))⟩)
 obtain⟨Ai,ci,e1,e2,e3⟩:=h3 i e he
 refine⟨Ai,ci,e1,e2,λg hg=>?_⟩
 obtain⟨C,hC⟩:=a8 e2 hg
 exact k g (e3 g hg) (.inl ⟨C,_,hC,.inr (.inr (.inr (.inr rfl)))⟩)
theorem Bd.subT{W:World}{F G:Nat->Prop}{a dk:Nat}{d:Dk}{b:Bk}(h:Bd W F a dk d b)(k:I4 W F G):Bd W G a dk d b:=by
 refine⟨h.disk.subT k,?_⟩
 obtain⟨q0,A,c,mb,n,q1,q2,q3,q4,q5⟩:=h.book
 exact⟨k a q0 (.inl ⟨_,_,q1,.inr (.inr (.inl rfl))⟩),A,c,mb,n,q1,q2.subT k,k mb q3 (.inr q5.map),q4,q5⟩
def Cb(W:World)(F:Nat->Prop)(j:Nat):Prop:=F j/\∀ C ty,W.heap[j]?=some (.cells C ty (0,0))->ty≠63/\ty≠94
theorem Hs.book{W:World}{F:Nat->Prop}{h a dk:Nat}{d:Dk}{b:Bk}{sh:List aj}(hh:Hs W F h a dk d b sh):Bd W (Cb W F) a dk d b:=
 hh.bd.subT λj hj hc=>⟨hj,λC ty hC=>by
  rcases hc with⟨C2,ty2,h2,h3⟩|⟨es,cl,h2⟩
  ·rw[hC] at h2
   simp only[Option.some.injEq,Obj.cells.injEq] at h2
   rw[h2.2.1]
   rcases h3 with rfl|rfl|rfl|rfl|rfl<;>decide
  rw[hC] at h2
  simp at h2⟩
theorem Hs.after{W w:World}{F:Nat->Prop}{h a dk:Nat}{d d':Dk}{b b':Bk}{sh:List aj}(hh:Hs W F h a dk d b sh)(hb:Bd w (Cb W F) a dk d' b')(k:Kx (Cb W F) W w):Hs w F h a dk d' b' sh:=by
 obtain⟨C,h1,h2,h3,h4,A,c,h5,h6,h7⟩:=hh.cells
 refine⟨hb.sub λj hj _=>hj.1,hh.own,C,(k.block _ (Array.getElem?_eq_some_iff.1 h1).1 (λhn=>(hn.2 _ _ h1).1 rfl)).trans h1,h2,h3,h4,A,c,h5,aH h6 (λg hg=>?_),h7⟩
 obtain⟨D,hD⟩:=a8 h6 hg
 exact k.block g (Array.getElem?_eq_some_iff.1 hD).1 (λhn=>(hn.2 _ _ hD).2 rfl)
theorem K7{W:World}{F:Nat->Prop}(h:Up W F):Up W (Cb W F):=λj hj=>⟨h j hj,λC ty hC=>by
 have:=(Array.getElem?_eq_some_iff.1 hC).1
 omega⟩
end
end
section
section
open Go.RowKit Go.Shelf
def gu(t:List UInt8)(v:Value)(W:World):Prop:=
 (∃ c,v=.iface 64 (.int .i64 c)/\bF c/\t=fp c)\/
 (∃ A n cp L,v=.iface 292 (.slice A n cp)/\ag bW 1 W A n L/\n<=1000000/\n<=cp/\(aS (L.map (·.data.toList))).length<=140737488355328/\t=aS (L.map (·.data.toList)))
theorem gu.ansW{bg:Nat}{t:List UInt8}{v:Value}{W:World}{Q:List UInt8->World->Prop}(h:gu t v W)(hg:Gl bg W)(hQ:∀ W',Below W.heap.size W W'->Q t W'):kK bg Q v W:=by
 rcases h with⟨c,rfl,h1,rfl⟩|⟨A,n,cp,L,rfl,h1,h2,h3,h4,rfl⟩
 ·exact .inl ⟨c,rfl,h1,hg,hQ⟩
 exact .inr ⟨A,n,cp,L,rfl,h1,h2,h3,h4,hQ⟩
def fw(e:Int)(t:List UInt8):List UInt8:=if e=0 then t else fp e
def pt:List UInt8:=[101,110,116,114,121]
def oA(P:Dk×Bk×Int):List UInt8:=fw P.2.2 (aS [ao pt [(P.2.1.E.length:Int)-1]])
theorem Dw(d:Dk)(b:Bk)(l:List Mv):bF (aN d b l).2.2:=by
 unfold aN bF
 have h1:=Gs b l
 have h2:=uC d (aE l)
 have h3:=tq (d.app (aE l)).1
 split
 ·dsimp only;omega
 split
 ·dsimp only;omega
 split
 ·dsimp only;omega
 split
 ·dsimp only;omega
 dsimp only;omega
theorem GG{W:World}{b:Nat}{wd:List UInt8}{x e:Int}(he:bF e)(hx:bF x)(hw:wd.length<=1000000)(hX:ag bW 1 W (some ⟨b,0,none⟩) 1 [⟨(ao wd [x]).toArray⟩]) :
 gu (fw e (aS [ao wd [x]])) (if e≠0 then .iface 64 (.int .i64 e) else .iface 292 (.slice (some ⟨b,0,none⟩) 1 1)) W:=by
 unfold fw
 by_cases h0:e=0
 ·rw[if_pos h0,if_neg (by simp[h0])]
  refine .inr ⟨_,1,1,_,rfl,hX,by omega,by omega,?_,rfl⟩
  have:=Lib.itoa_length_le x hx.1 hx.2
  simp[aS,ao]
  omega
 rw[if_neg h0,if_pos h0]
 exact .inl ⟨e,rfl,he,rfl⟩
theorem BP(w:World)(F:Nat->Prop)(h a dk:Nat)(d:Dk)(b:Bk)(sh:List aj)(hh:Hs w F h a dk d b sh)(hi:k9 d b)(hu:Up w F)(A:Option Addr)(n c:Nat)(l:List Mv)(hX:w.ownsRow 0 189 4 (.slice A n c) n (l.flatMap fk))(hl:n=l.length)(hs:vj l)(hn:n<=9223372036854775807)(bg:Nat)(hg:Gl bg w)(hb:bg<=w.heap.size)(hF:∀ j,F j->bg<=j) :
 Calls Tryz.prog 193 #[.pointer (some ⟨h,0,none⟩),.slice A n c] w λe w'=>∃ v,e=.returned v/\gu (oA (aN d b l)) v w'/\Hs w' F h a dk (aN d b l).1 (aN d b l).2.1 sh/\Kx F w w':=by
 refine ae ?_
 intro R hR
 obtain⟨A0,c0,-,-,q14,-⟩:=hh.at
 have HP:=zh (FK w (Cb w F) a dk d b A n c l hh.book hi (K7 hu) hX hl hs hn)
 have HI:=zh (hi.post l)
 have HC:=zh (Dw d b l)
 have HH:=zh hh
 have HG:=zh hg
 obtain⟨P,hP⟩:∃ P,aN d b l=P:=⟨_,rfl⟩
 rw[hP] at HP HI HC hR
 have Hr:=zh hR.out
 clear hR hP hh hi hu hX hl hs hg
 go_enter Tryz.func193,Tryz.ntmps193
 go_wp2_with fail
 refine HP.out.mono ?_
 rintro e w1 ⟨rfl,bf,cj⟩
 have cd:=HH.out.after bf cj
 obtain⟨A1,c1,-,-,p14,-⟩:=cd.at
 obtain⟨N,hN⟩:∃ N,P.2.1.E.length=N:=⟨_,rfl⟩
 have dd:=zh (Cz w1 F a dk _ cd.bd.book)
 rw[hN] at dd
 have fb:N<=9362:=by rw[← hN];exact HI.out.few
 have HN:=zh hN
 have en:=zh cd
 have ds:=zh (cj.mono (T:=F) λj hj=>hj.1)
 have ej:=zh (HG.out.kx ds.out hF hb)
 have cr:=cj.size
 have dx:=zh cr
 clear bf cj cd hN cr q14
 go_wp2_with fail
 refine dd.out.mono ?_
 rintro e w1' ⟨rfl,rfl⟩
 go_wp2_with fail
 have bv:=zh (ab w1 (.cells #[.int .i64 ((N:Int)-1)] 3))
 have eo:=zh (ee ⟨pt.toArray⟩ (some ⟨w1.heap.size,0,none⟩) 1 1 [(N:Int)-1] (w1.alloc (.cells #[.int .i64 ((N:Int)-1)] 3)) ⟨rfl,by have h:=Sl.newAt w1 #[.int .i64 ((N:Int)-1)] 3 1 1 rfl rfl;exact h⟩ (by omega) (by decide) (λx hx=>by rw[List.mem_singleton] at hx;subst hx;exact⟨by omega,by omega⟩) bg (ej.out.on (bv.out.mono (by have:=dx.out;omega))) (by have:=dx.out;simp;omega))
 refine eo.out.mono ?_
 rintro e w3 ⟨rfl,am⟩
 have bp:=zh (bv.out.trans (am.mono bv.out.size))
 clear am
 go_wp2_with fail
 have d7:=iX w3 [⟨(ao pt [(N:Int)-1]).toArray⟩]
 have HA:=zh (GG (wd:=pt) HC.out (x:=(N:Int)-1) ⟨by omega,by omega⟩ (by decide) d7)
 have HE:=zh (nK P.2.2 (some ⟨w3.heap.size,0,none⟩) 1 1 (w3.alloc (.cells #[.string ⟨(ao pt [(N:Int)-1]).toArray⟩] 9)))
 obtain⟨V,hV⟩:∃ V,(if P.2.2≠0 then Value.iface 64 (.int .i64 P.2.2) else .iface 292 (.slice (some ⟨w3.heap.size,0,none⟩) 1 1))=V:=⟨_,rfl⟩
 rw[hV] at HE HA
 refine HE.out.mono ?_
 rintro e w4 ⟨rfl,rfl⟩
 have cN:Below w1.heap.size w1 (w3.alloc (.cells #[.string ⟨(ao pt [(N:Int)-1]).toArray⟩] 9)):=bp.out.trans ((ab w3 _).mono bp.out.size)
 have d3:=Hr.out _ _ ⟨_,rfl,by unfold oA;rw[HN.out];exact HA.out,en.out.below cN,ds.out.below cN⟩
 have ei:=zh d3
 clear Hr d7 cN d3 hV
 go_wp2
 exact ei.out
end
end
end Go.Proofs.YtgbnicokglpdbaaGreatDoor
