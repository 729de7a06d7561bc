/-
plan; conditions: those of each theorem.
-/
import Derived.Test.YtgbnicokglpdbaaGreatDoorBd
import Derived.Test.YtgbnicokglpdbaaGreatDoorAx
namespace Go.Proofs.YtgbnicokglpdbaaGreatDoor
set_option maxHeartbeats 16000000
set_option maxRecDepth 100000
section
open Go.RowKit
def aW(q:Nat):List Ac->(Nat->Int)->Nat->(Nat->Int)->Nat->Int
 |[],_,_,f=>f
 |a :: E,F,o,f=>aW q E F (o+1) (if a.k=q then aR f a.num (F o) else f)
def bh:List Ac->(Nat->Int)->Nat->List Int
 |[],_,_=>[]
 |a :: E,F,o=>(if a.k=2 then [F o] else [])++bh E F (o+1)
theorem eG(q:Nat)(F:Nat->Int):∀ (A B:List Ac) (o:Nat) (f:Nat->Int),aW q (A++B) F o f=aW q B F (o+A.length) (aW q A F o f)
 |[],_,_,_=>rfl
 |a :: A,B,o,f=>by
  show aW q (A++B) F (o+1) _=_
  rw[eG q F A B,show o+1+A.length=o+(a :: A).length by rw[List.length_cons];omega]
  rfl
theorem cQ(F:Nat->Int):∀ (A B:List Ac) (o:Nat),bh (A++B) F o=bh A F o++bh B F (o+A.length)
 |[],_,_=>rfl
 |a :: A,B,o=>by
  show _++bh (A++B) F (o+1)=(_++bh A F (o+1))++_
  rw[cQ F A B,show o+1+A.length=o+(a :: A).length by rw[List.length_cons];omega,List.append_assoc]
theorem xG(F:Nat->Int):∀ (A:List Ac) (o:Nat),(bh A F o).length<=A.length
 |[],_=>Nat.le_refl _
 |a :: A,o=>by
  have:=xG F A (o+1)
  show ((if a.k=2 then [F o] else [])++bh A F (o+1)).length<=A.length+1
  rw[List.length_append]
  split
  ·rw[List.length_singleton];omega
  rw[List.length_nil];omega
theorem F5{E:List Ac}{j:Nat}{a:Ac}(F:Nat->Int)(h:E[j]?=some a):(∀ q,aW q (E.take (j+1)) F 0 (λ_=>0)=if a.k=q then aR (aW q (E.take j) F 0 λ_=>0) a.num (F j) else aW q (E.take j) F 0 λ_=>0)/\bh (E.take (j+1)) F 0=bh (E.take j) F 0++if a.k=2 then [F j] else []:=by
 have hj:=(List.getElem?_eq_some_iff.1 h).1
 rw[List.take_add_one,h,Option.toList_some,cQ,List.length_take,Nat.min_eq_left (by omega),Nat.zero_add]
 refine⟨λq=>?_,?_⟩
 ·rw[eG,List.length_take,Nat.min_eq_left (by omega),Nat.zero_add]
  rfl
 show _++(_++[])=_
 rw[List.append_nil]
theorem jO{i:Nat}{a:Ac}:∀ (A:List Nat) (k:Nat),a∈bL A i k->a.k=2
 |[],_,h=>by cases h
 |b :: A,k,h=>by
  rcases List.mem_cons.1 h with rfl|h
  ·rfl
  exact jO A (k+1) h
theorem Ci{a:Ac}:∀ (T:List Tk) (i k:Nat),a∈ah T i k->a.k<=4/\(a.k≠2->a.num<i+T.length)
 |[],_,_,h=>by cases h
 |t :: T,i,k,h=>by
  rcases List.mem_append.1 h with h|h
  ·simp only[bQ,List.mem_cons,List.not_mem_nil,or_false] at h
   rcases h with rfl|rfl|rfl|rfl<;>exact⟨by dsimp only;omega,λ_=>by dsimp only;rw[List.length_cons];omega⟩
  rcases List.mem_append.1 h with h|h
  ·have:=jO t.A k h
   exact⟨by omega,λh9=>absurd this h9⟩
  obtain⟨h1,h2⟩:=Ci T (i+1) _ h
  exact⟨h1,λh9=>by have:=h2 h9;rw[List.length_cons];omega⟩
structure g8(base:Nat)(W:World)(fb gN gC gI gO n:Nat)(N C I O:Nat->Int)(Lk:List Int)(LA:Option Addr)(lc:Nat):Prop where
 box:W.heap[fb]?=some (.cells #[.slice (some ⟨gN,0,none⟩) n n,.slice (some ⟨gC,0,none⟩) n n,.slice LA Lk.length lc,.slice (some ⟨gI,0,none⟩) n n,.slice (some ⟨gO,0,none⟩) n n] 89 (0,0))
 own:W.ownsRow base 3 1 (.slice LA Lk.length lc) Lk.length (Lk.flatMap ak)
 nl:∀ g,(Value.slice LA Lk.length lc).ownBlock=some g->g≠gN/\g≠gC/\g≠gI/\g≠gO
 rN:az W gN n N
 rC:az W gC n C
 rI:az W gI n I
 rO:az W gO n O
 ne:(gN≠gC/\gN≠gI/\gN≠gO)/\(gC≠gI/\gC≠gO)/\gI≠gO
 lo:(base<=gN/\base<=gC)/\base<=gI/\base<=gO/\base<=fb
theorem az.nbox{W:World}{g n fb:Nat}{L:Nat->Int}{C:Array Value}(h:az W g n L)(hb:W.heap[fb]?=some (.cells C 89 (0,0))):g≠fb:=by
 rintro rfl
 obtain⟨cur,h1,-⟩:=h
 rw[h1] at hb
 simp at hb
section
variable{base:Nat}{W w:World}{fb gN gC gI gO n:Nat}{N C I O:Nat->Int}{Lk:List Int}{LA:Option Addr}{lc:Nat}(h:g8 base W fb gN gC gI gO n N C I O Lk LA lc)
include h
theorem g8.below(hb:Below W.heap.size W w):g8 base w fb gN gC gI gO n N C I O Lk LA lc:=
 ⟨(hb.block _ (Array.getElem?_eq_some_iff.1 h.box).1).trans h.box,ai h.own hb,h.nl,h.rN.on (hb.block _ h.rN.lt),h.rC.on (hb.block _ h.rC.lt),h.rI.on (hb.block _ h.rI.lt),h.rO.on (hb.block _ h.rO.lt),h.ne,h.lo⟩
theorem g8.setN{i:Nat}(x:Int)(hi:i<n):g8 base (W.setCell ⟨gN,i,none⟩ (.int .i64 x)) fb gN gC gI gO n (aR N i x) C I O Lk LA lc:=
 ⟨(al (h.rN.nbox h.box).symm).trans h.box,aH h.own λg hg=>al (h.nl g hg).1,h.nl,h.rN.set x hi,h.rC.on (al (Ne.symm h.ne.1.1)),h.rI.on (al (Ne.symm h.ne.1.2.1)),h.rO.on (al (Ne.symm h.ne.1.2.2)),h.ne,h.lo⟩
theorem g8.setC{i:Nat}(x:Int)(hi:i<n):g8 base (W.setCell ⟨gC,i,none⟩ (.int .i64 x)) fb gN gC gI gO n N (aR C i x) I O Lk LA lc:=
 ⟨(al (h.rC.nbox h.box).symm).trans h.box,aH h.own λg hg=>al (h.nl g hg).2.1,h.nl,h.rN.on (al h.ne.1.1),h.rC.set x hi,h.rI.on (al (Ne.symm h.ne.2.1.1)),h.rO.on (al (Ne.symm h.ne.2.1.2)),h.ne,h.lo⟩
theorem g8.setI{i:Nat}(x:Int)(hi:i<n):g8 base (W.setCell ⟨gI,i,none⟩ (.int .i64 x)) fb gN gC gI gO n N C (aR I i x) O Lk LA lc:=
 ⟨(al (h.rI.nbox h.box).symm).trans h.box,aH h.own λg hg=>al (h.nl g hg).2.2.1,h.nl,h.rN.on (al h.ne.1.2.1),h.rC.on (al h.ne.2.1.1),h.rI.set x hi,h.rO.on (al (Ne.symm h.ne.2.2)),h.ne,h.lo⟩
theorem g8.setO{i:Nat}(x:Int)(hi:i<n):g8 base (W.setCell ⟨gO,i,none⟩ (.int .i64 x)) fb gN gC gI gO n N C I (aR O i x) Lk LA lc:=
 ⟨(al (h.rO.nbox h.box).symm).trans h.box,aH h.own λg hg=>al (h.nl g hg).2.2.2,h.nl,h.rN.on (al h.ne.1.2.2),h.rC.on (al h.ne.2.1.2),h.rI.on (al h.ne.2.2),h.rO.set x hi,h.ne,h.lo⟩
theorem g8.kx{S:Nat->Prop}(k:Kx S W w)(hs:∀ j,S j->j<base):g8 base w fb gN gC gI gO n N C I O Lk LA lc:=by
 have hk:∀ j,base<=j->j<W.heap.size->w.heap[j]?=W.heap[j]?:=λj hj hl=>k.block j hl λe=>by have:=hs j e;omega
 exact⟨(hk _ h.lo.2.2.2 (Array.getElem?_eq_some_iff.1 h.box).1).trans h.box,aH h.own λg hg=>hk g (h.own.lt g hg).1 (kF h.own hg),h.nl,h.rN.on (hk _ h.lo.1.1 h.rN.lt),h.rC.on (hk _ h.lo.1.2 h.rC.lt),h.rI.on (hk _ h.lo.2.1 h.rI.lt),h.rO.on (hk _ h.lo.2.2.1 h.rO.lt),h.ne,h.lo⟩
theorem g8.more{w7:World}{x:Int}{A7:Option Addr}{c7:Nat}(bt:w7.ownsRow base 3 1 (.slice A7 (Lk.length+1) c7) (Lk.length+1) (Lk.flatMap ak++[.int .i64 x]))(bp:W.grownBy w7 (Value.slice LA Lk.length lc).ownBlock)(b6:(Value.slice A7 (Lk.length+1) c7).ownBlock=(Value.slice LA Lk.length lc).ownBlock\/(Value.slice A7 (Lk.length+1) c7).ownBlock=some W.heap.size) :
 (w7.cell? ⟨fb,2,none⟩=some (.slice LA Lk.length lc)/\w7.frozen? ⟨fb,2,none⟩=false)/\g8 base (w7.setCell ⟨fb,2,none⟩ (.slice A7 (Lk.length+1) c7)) fb gN gC gI gO n N C I O (Lk++[x]) A7 c7:=by
 have b7:=cZ h.box h.own (by decide)
 have hk:∀ j,j<W.heap.size->(Value.slice LA Lk.length lc).ownBlock≠some j->w7.heap[j]?=W.heap[j]?:=λj hj hn=>bp.block j hj (Ne.symm hn)
 have eg:=(Array.getElem?_eq_some_iff.1 h.box).1
 have hb:=(hk fb eg λe=>b7 fb e rfl).trans h.box
 have hr:∀ {g:Nat} {f:Nat->Int},az W g n f->(∀ k,(Value.slice LA Lk.length lc).ownBlock=some k->k≠g)->az (w7.setCell ⟨fb,2,none⟩ (.slice A7 (Lk.length+1) c7)) g n f:=λhB hn=>(hB.on (hk _ hB.lt λe=>hn _ e rfl)).on (al (hB.nbox h.box))
 obtain⟨-,-,q2,-,-,q4⟩:=aY hb
 refine⟨⟨q2,q4 2⟩,⟨?_,?_,λg hg=>?_,hr h.rN λk e=>(h.nl k e).1,hr h.rC λk e=>(h.nl k e).2.1,hr h.rI λk e=>(h.nl k e).2.2.1,hr h.rO λk e=>(h.nl k e).2.2.2,h.ne,h.lo⟩⟩
 ·rw[List.length_append,List.length_singleton];exact (aA hb).trans (by simp)
 ·rw[List.length_append,List.length_singleton,List.flatMap_append]
  exact aH bt λg hg=>al (cZ hb bt (by decide) g hg)
 rw[List.length_append,List.length_singleton] at hg
 rcases b6 with e|e
 ·exact h.nl g (e ▸ hg)
 rw[e] at hg
 cases hg
 have h1:=h.rN.lt
 have h2:=h.rC.lt
 have h3:=h.rI.lt
 have h4:=h.rO.lt
 exact⟨by omega,by omega,by omega,by omega⟩
end
theorem Ia{base:Nat}{W:World}{fb gN gC gI gO n:Nat}{N C' I O:Nat->Int}(h:W.heap[fb]?=some (.cells #[.slice none 0 0,.slice none 0 0,.slice none 0 0,.slice none 0 0,.slice none 0 0] 89 (0,0)))(rN:az W gN n N)(rC:az W gC n C')(rI:az W gI n I)(rO:az W gO n O)(ne:(gN≠gC/\gN≠gI/\gN≠gO)/\(gC≠gI/\gC≠gO)/\gI≠gO)(lo:(base<=gN/\base<=gC)/\base<=gI/\base<=gO/\base<=fb) :
 g8 base (((((W.setCell ⟨fb,0,none⟩ (.slice (some ⟨gN,0,none⟩) n n)).setCell ⟨fb,1,none⟩ (.slice (some ⟨gC,0,none⟩) n n)).setCell ⟨fb,2,none⟩ (.slice none 0 0)).setCell ⟨fb,3,none⟩ (.slice (some ⟨gI,0,none⟩) n n)).setCell ⟨fb,4,none⟩ (.slice (some ⟨gO,0,none⟩) n n)) fb gN gC gI gO n N C' I O [] none 0:=by
 have hr:∀ {g:Nat} {f:Nat->Int},az W g n f->az (((((W.setCell ⟨fb,0,none⟩ (.slice (some ⟨gN,0,none⟩) n n)).setCell ⟨fb,1,none⟩ (.slice (some ⟨gC,0,none⟩) n n)).setCell ⟨fb,2,none⟩ (.slice none 0 0)).setCell ⟨fb,3,none⟩ (.slice (some ⟨gI,0,none⟩) n n)).setCell ⟨fb,4,none⟩ (.slice (some ⟨gO,0,none⟩) n n)) g n f:=λhB=>hB.on ((((((al (hB.nbox h)).trans (al (hB.nbox h))).trans (al (hB.nbox h))).trans (al (hB.nbox h))).trans (al (hB.nbox h))))
 exact⟨(aA (aA (aA (aA (aA h))))).trans (by simp),World.ownsRow_nil _ _ _ _,λg hg=>(by cases hg),hr rN,hr rC,hr rI,hr rO,ne,lo⟩
theorem EJ:au Tryz.prog 27 3 1 8:=au.of (z:=.int .i64 0) Tryz.underlying27 (by kernel_rfl) rfl (by omega)
theorem sX(w:World)(nb g:Nat)(T:List Tk)(c:Nat)(PA:Option Addr)(pn pc:Nat)(F:Nat->Int)(hN:ii w nb g (ah T 0 0) F (nP T) c T.length PA pn pc)(hE:(ah T 0 0).length<=100000)(hn:T.length<=32) :
 Calls Tryz.prog 62 #[.pointer (some ⟨nb,0,none⟩)] w λe w'=>∃ base fb gN gC gI gO LA lc,w.heap.size<=base/\e=.returned (.agg #[.slice (some ⟨gN,0,none⟩) T.length T.length,.slice (some ⟨gC,0,none⟩) T.length T.length,.slice LA (bh (ah T 0 0) F 0).length lc,.slice (some ⟨gI,0,none⟩) T.length T.length,.slice (some ⟨gO,0,none⟩) T.length T.length])/\
  g8 base w' fb gN gC gI gO T.length (aW 0 (ah T 0 0) F 0 λ_=>0) (aW 1 (ah T 0 0) F 0 λ_=>0) (aW 3 (ah T 0 0) F 0 λ_=>0) (aW 4 (ah T 0 0) F 0 λ_=>0) (bh (ah T 0 0) F 0) LA lc/\Below w.heap.size w w':=by
 refine ae ?_
 intro R hR
 have HR:=zh hR.out
 have HN:=zh hN
 have b7:=(Array.getElem?_eq_some_iff.1 hN.box).1
 obtain⟨n,cr⟩:∃ n,T.length=n:=⟨_,rfl⟩
 obtain⟨w1,bv⟩:∃ w1,w.alloc (.cells #[.slice none 0 0,.slice none 0 0,.slice none 0 0,.slice none 0 0,.slice none 0 0] 89)=w1:=⟨_,rfl⟩
 obtain⟨-,-,k2,-,-⟩:=an hN.box
 rw[cr] at k2 hn
 have Hk:=zh (λ(W':World) (hb:Below w.heap.size w W')=>(hb.cell (p:=⟨nb,2,none⟩) b7).trans k2)
 have k2z:w1.cell? ⟨nb,2,none⟩=some (.int .i64 (n:Nat)):=Hk.out _ (bv ▸ ab w _)
 have d7:=zh (λ(W':World) (hb:Below w1.heap.size w1 W')=>(hb.cell (p:=⟨nb,2,none⟩) (Nat.lt_of_lt_of_le b7 (by rw[← bv];simp))).trans k2z)
 have bE:=zh bv
 have en:=kI n (by omega)
 have cL:=zh cr
 clear hR hN bv cr k2
 go_enter Tryz.func62,Tryz.ntmps62
 go_upto_region 1 with fail
 rw[bE.out]
 go_cut [3] from 6 to 26 (λs3 wx=>∃ fb gN gC gI gO,s3=.pointer (some ⟨fb,0,none⟩)/\Hid (g8 w1.heap.size wx fb gN gC gI gO n (λ_=>0) (λ_=>0) (λ_=>0) (λ_=>0) [] none 0)/\Hid (Below w1.heap.size w1 wx))
 case first =>
  obtain⟨ι,mkw,bf⟩:=iP w1.heap.size w1
  obtain⟨x0,eo⟩:=bf.drew
  have kw:∀ x,(mkw x).cell? ⟨nb,2,none⟩=some (.int .i64 (n:Nat)):=λx=>d7.out _ (bf.below x)
  have ei:∀ (w:World) (ob:Obj),(∃ x,w=mkw x)->∃ x,w.alloc ob=mkw x:=λw ob h=>(bf.iff _).1 (((bf.iff _).2 h).alloc ((bf.iff _).2 h).size ob)
  refine jD (C:=λw'=>∃ x,w'=mkw x) 22 (λi=>if i=4\/i=9\/i=14\/i=19 then some ⟨λb=>.slice (some ⟨b,0,none⟩) n n,.cells (madeCells #[Value.int .i64 0] n) 3⟩ else if i=21 then some ⟨λb=>.pointer (some ⟨b,0,none⟩),.cells #[.slice none 0 0,.slice none 0 0,.slice none 0 0,.slice none 0 0,.slice none 0 0] 89⟩ else none) (λ_=>none) (by kernel_rfl) (by kernel_rfl) ⟨x0,eo⟩ ei (λi m hi=>by
   split at hi
   ·omega
   split at hi
   ·omega
   cases hi) λβ hβ1 hβ2=>?_
  simp only[List.take_succ_cons,List.take_zero,List.drop_succ_cons,List.drop_zero]
  haveI:=bf.ne
  iterate 4 (refine dh rfl rfl (λK hK=>?_);go_simp;refine hK _ ?_;clear hK K)
  refine fe rfl rfl (by rintro _ ⟨x,rfl⟩;go_simp) ?_
  iterate 4 (refine dh rfl rfl (λK hK=>?_);go_simp;refine hK _ ?_;clear hK K)
  refine fe rfl rfl (by rintro _ ⟨x,rfl⟩;go_simp) ?_
  iterate 4 (refine dh rfl rfl (λK hK=>?_);go_simp;refine hK _ ?_;clear hK K)
  refine fe rfl rfl (by rintro _ ⟨x,rfl⟩;go_simp) ?_
  iterate 4 (refine dh rfl rfl (λK hK=>?_);go_simp;refine hK _ ?_;clear hK K)
  refine fe rfl rfl (by rintro _ ⟨x,rfl⟩;go_simp) ?_
  iterate 1 (refine dh rfl rfl (λK hK=>?_);go_simp;refine hK _ ?_;clear hK K)
  refine fe rfl rfl (by rintro _ ⟨x,rfl⟩;go_simp) ?_
  rintro w2 ec hf
  have cS:=(bf.iff w2).2 ec
  have f4:=hf 4 _ rfl
  have f9:=hf 9 _ rfl
  have f14:=hf 14 _ rfl
  have f19:=hf 19 _ rfl
  have f21:=hf 21 _ rfl
  dsimp only at f4 f9 f14 f19 f21
  obtain⟨b4,cV⟩:∃ b,β 4=b:=⟨_,rfl⟩
  obtain⟨b9,bm⟩:∃ b,β 9=b:=⟨_,rfl⟩
  obtain⟨b14,cN⟩:∃ b,β 14=b:=⟨_,rfl⟩
  obtain⟨b19,cO⟩:∃ b,β 19=b:=⟨_,rfl⟩
  obtain⟨b21,cT⟩:∃ b,β 21=b:=⟨_,rfl⟩
  have l4:=hβ1 4
  have l9:=hβ1 9
  have l14:=hβ1 14
  have l19:=hβ1 19
  have l21:=hβ1 21
  have n1:=hβ2 4 9 (by decide)
  have n2:=hβ2 4 14 (by decide)
  have n3:=hβ2 4 19 (by decide)
  have n4:=hβ2 9 14 (by decide)
  have n5:=hβ2 9 19 (by decide)
  have n6:=hβ2 14 19 (by decide)
  rw[cV] at f4 l4 n1 n2 n3
  rw[bm] at f9 l9 n1 n4 n5
  rw[cN] at f14 l14 n2 n4 n6
  rw[cO] at f19 l19 n3 n5 n6
  rw[cT] at f21 l21
  rw[cV,bm,cN,cO]
  dsimp only
  rw[cT]
  have bv:w.heap.size<=w1.heap.size:=by rw[← bE.out];simp
  have bw:w1.heap.size<=b21:=l21
  obtain⟨q0,q1,q2,q3,q4,fz⟩:=aY f21
  have z0:=fz 0
  have z1:=fz 1
  have z2:=fz 2
  have z3:=fz 3
  have z4:=fz 4
  have d4:=zh (Ia f21 (cM f4) (cM f9) (cM f14) (cM f19) (base:=w1.heap.size) ⟨⟨n1,n2,n3⟩,⟨n4,n5⟩,n6⟩ ⟨⟨by omega,by omega⟩,by omega,by omega,by omega⟩)
  have dt:=zh cS
  clear hf f4 f9 f14 f19 f21 fz cS hβ1 hβ2
  go_wp2_with fail
  go_meet
  exact⟨b21,b4,b9,b14,b19,rfl,d4,zh (((((dt.out.setCell bw _).setCell bw _).setCell bw _).setCell bw _).setCell bw _)⟩
 rename World=>w3
 obtain⟨fb,gN,gC,gI,gO,rfl,d2,cc⟩:=hcut
 have eu:=cc.out.size
 have bI:Below w.heap.size w w1:=bE.out ▸ ab w _
 have bu:=bI.size
 have dq:w1.heap[w.heap.size]?=some (.cells #[.slice none 0 0,.slice none 0 0,.slice none 0 0,.slice none 0 0,.slice none 0 0] 89 (0,0)):=bE.out ▸ heap_alloc_new w _
 have cI:=zh dq
 have ds:=zh bI
 have ci:=zh (HN.out.below (bI.trans (cc.out.mono bu)))
 obtain⟨E,cn⟩:∃ E,ah T 0 0=E:=⟨_,rfl⟩
 have d5:=zh (show ∀ (j:Nat) (a:Ac),E[j]?=some a->a.k<=4/\(a.k≠2->a.num<n) from λj a hj=>by
  have h9:=Ci T 0 0 (a:=a) (by rw[cn];exact List.mem_of_getElem? hj)
  exact⟨h9.1,λhk=>by have:=h9.2 hk;have:=cL.out;omega⟩)
 rw[cn] at ci HR hE
 obtain⟨-,k1,-,-,-⟩:=an ci.out.box
 clear cn k2z en bI dq
 go_wp2_with fail
 go_loopw [5,32] (λ_ s32 wr=>∃ (j:Nat) (LA:Option Addr) (lc:Nat),s32=.int .i64 (j:Nat)/\j<=E.length/\Hid (g8 w1.heap.size wr fb gN gC gI gO n (aW 0 (E.take j) F 0 λ_=>0) (aW 1 (E.take j) F 0 λ_=>0) (aW 3 (E.take j) F 0 λ_=>0) (aW 4 (E.take j) F 0 λ_=>0) (bh (E.take j) F 0) LA lc)/\Hid (Below w1.heap.size w1 wr)/\Hid (wr.heap[g]?=w3.heap[g]?)) (λ_ s32 _=>E.length-(intOf s32).toNat)
 case atStart=>exact⟨0,none,0,rfl,Nat.zero_le _,d2,cc,zh rfl⟩
 rename World=>wb
 obtain⟨j,LA,lc,rfl,hj,bD,bi,cC⟩:=hrel
 by_cases bj:j<E.length
 ·obtain⟨a,ha⟩:∃ a,E[j]?=some a:=⟨_,List.getElem?_eq_getElem bj⟩
  obtain⟨et,bq⟩:=d5.out j a ha
  have aa:=zh (F5 F ha)
  obtain⟨-,c0,c1,c2,c3,c4,c5,c6,-⟩:=(ci.out.arcs.on cC.out).at_ ha
  obtain⟨wd,b8⟩:∃ wd,wb.alloc (.cells #[.int .i64 (a.f:Nat),.int .i64 (a.t:Nat),.int .i64 a.l,.int .i64 a.r,.int .i64 (F j),.int .i64 (a.k:Nat),.int .i64 (a.num:Nat)] 238)=wd:=⟨_,rfl⟩
  have bS:Below wb.heap.size wb wd:=b8 ▸ ab wb _
  have ca:wd.heap[wb.heap.size]?=some (.cells #[.int .i64 (a.f:Nat),.int .i64 (a.t:Nat),.int .i64 a.l,.int .i64 a.r,.int .i64 (F j),.int .i64 (a.k:Nat),.int .i64 (a.num:Nat)] 238 (0,0)):=b8 ▸ heap_alloc_new wb _
  have q4:wd.cell? ⟨wb.heap.size,4,none⟩=some (.int .i64 (F j)):=by rw[cell_of_row _ _ 4 _ _ (0,0) ca];rfl
  have q5:wd.cell? ⟨wb.heap.size,5,none⟩=some (.int .i64 (a.k:Nat)):=by rw[cell_of_row _ _ 5 _ _ (0,0) ca];rfl
  have q6:wd.cell? ⟨wb.heap.size,6,none⟩=some (.int .i64 (a.num:Nat)):=by rw[cell_of_row _ _ 6 _ _ (0,0) ca];rfl
  have ad:=zh (bD.out.below bS)
  have a9:=zh (bi.out.trans (bS.mono bi.out.size))
  have bg:g<w1.heap.size:=Nat.lt_of_lt_of_le HN.out.arcs.lt bu
  have bk:=zh ((bS.block g (Nat.lt_of_lt_of_le bg bi.out.size)).trans cC.out)
  have d6:=zh b8
  have i1:(j:Int)<(E.length:Int):=by omega
  have i0:(0:Int)<=(j:Int):=by omega
  obtain⟨p0,p1,p2,p3,p4,-⟩:=aY ad.out.box
  obtain⟨f,t,l,r,k,num⟩:=a
  dsimp only at *
  clear ha b8 bS ca
  go_upto_region 5 with fail
  rw[d6.out]
  clear c0 c1 c2 c3 c4 c5 c6
  have ej:k=0\/k=1\/k=2\/k=3\/k=4:=by omega
  rcases ej with e|e|e|e|e
  all_goals
   have a0:k≠2->(num:Int)<(n:Int):=λh=>by have:=bq h;omega
   have j0:(0:Int)<=(num:Int):=by omega
  ·have am:=bq (by omega)
   have j1:=a0 (by omega)
   clear a0
   subst e
   obtain⟨v0,v1⟩:=ad.out.rN.at_ am
   have HS:=zh (ad.out.setN (F j) am)
   have bc:=zh (show Below w1.heap.size w1 (wd.setCell ⟨gN,num,none⟩ (.int .i64 (F j))) from a9.out.setCell ad.out.lo.1.1 _)
   have aF:=zh ((al (W:=wd) (i:=num) (v:=.int .i64 (F j)) (Nat.ne_of_lt (Nat.lt_of_lt_of_le bg ad.out.lo.1.1))).trans bk.out)
   go_wp2_with fail
   exact⟨⟨j+1,LA,lc,by go_num,bj,zh (by rw[aa.out.1 0,aa.out.1 1,aa.out.1 3,aa.out.1 4,aa.out.2];simpa using HS.out),bc,aF⟩,by simp[intOf];omega⟩
  ·have am:=bq (by omega)
   have j1:=a0 (by omega)
   clear a0
   subst e
   obtain⟨v0,v1⟩:=ad.out.rC.at_ am
   have HS:=zh (ad.out.setC (F j) am)
   have bc:=zh (show Below w1.heap.size w1 (wd.setCell ⟨gC,num,none⟩ (.int .i64 (F j))) from a9.out.setCell ad.out.lo.1.2 _)
   have aF:=zh ((al (W:=wd) (i:=num) (v:=.int .i64 (F j)) (Nat.ne_of_lt (Nat.lt_of_lt_of_le bg ad.out.lo.1.2))).trans bk.out)
   go_wp2_with fail
   exact⟨⟨j+1,LA,lc,by go_num,bj,zh (by rw[aa.out.1 0,aa.out.1 1,aa.out.1 3,aa.out.1 4,aa.out.2];simpa using HS.out),bc,aF⟩,by simp[intOf];omega⟩
  ·subst e
   clear a0
   have b5:=ab wd (.cells #[.int .i64 (F j)] 3)
   have cp:=ad.out.below b5
   have cj:=zh cp.own
   have HM:=zh (λ(A7:Option Addr) (c7:Nat) (w7:World) h1 h2 h3=>cp.more (w7:=w7) (x:=F j) (A7:=A7) (c7:=c7) h1 h2 h3)
   have dz:=zh (a9.out.trans (b5.mono a9.out.size))
   have d3:=zh ((b5.block g (Nat.lt_of_lt_of_le bg a9.out.size)).trans bk.out)
   have hll:(bh (E.take j) F 0).length<=100000:=by have:=xG F (E.take j) 0;have:=List.length_take_le' j E;omega
   have es:=a9.out.size
   clear b5 cp
   go_wp2_with (at_builtin;refine ax rfl (.tmp 59) (.tmp 62) _ rfl EJ w1.heap.size _ _ _ rfl cj.out _ _ _ _ rfl (Sl.new _ _ _ 1 1 rfl) (by simp[Value.oneCell']) (by unfold maxLen;omega) (by omega) (by simp;omega) ?_;intro A7 c7 w7 bt bp b6;obtain⟨⟨tc,tf⟩,c8⟩:=HM.out A7 c7 w7 bt bp b6;have cd:=zh c8;have cA:=zh bp;clear bt bp b6 c8)
   have dx:=zh (show Below w1.heap.size w1 (w7.setCell ⟨fb,2,none⟩ (.slice A7 ((bh (E.take j) F 0).length+1) c7)) from (aL dz.out cj.out (Nat.le_refl _) (by simp;omega) cA.out).setCell cd.out.lo.2.2.2 _)
   have dd:w7.heap[g]?=w3.heap[g]?:=(cA.out.block g (by simp;omega) λe=>by have:=(cj.out.lt g e.symm).1;omega).trans d3.out
   have aF:=zh ((al (W:=w7) (i:=2) (v:=.slice A7 ((bh (E.take j) F 0).length+1) c7) (Nat.ne_of_lt (Nat.lt_of_lt_of_le bg cd.out.lo.2.2.2))).trans dd)
   clear dd
   exact⟨⟨j+1,A7,c7,by go_num,bj,zh (by rw[aa.out.1 0,aa.out.1 1,aa.out.1 3,aa.out.1 4,aa.out.2];simpa using cd.out),dx,aF⟩,by simp[intOf];omega⟩
  ·have am:=bq (by omega)
   have j1:=a0 (by omega)
   clear a0
   subst e
   obtain⟨v0,v1⟩:=ad.out.rI.at_ am
   have HS:=zh (ad.out.setI (F j) am)
   have bc:=zh (show Below w1.heap.size w1 (wd.setCell ⟨gI,num,none⟩ (.int .i64 (F j))) from a9.out.setCell ad.out.lo.2.1 _)
   have aF:=zh ((al (W:=wd) (i:=num) (v:=.int .i64 (F j)) (Nat.ne_of_lt (Nat.lt_of_lt_of_le bg ad.out.lo.2.1))).trans bk.out)
   go_wp2_with fail
   exact⟨⟨j+1,LA,lc,by go_num,bj,zh (by rw[aa.out.1 0,aa.out.1 1,aa.out.1 3,aa.out.1 4,aa.out.2];simpa using HS.out),bc,aF⟩,by simp[intOf];omega⟩
  have am:=bq (by omega)
  have j1:=a0 (by omega)
  clear a0
  subst e
  obtain⟨v0,v1⟩:=ad.out.rO.at_ am
  have HS:=zh (ad.out.setO (F j) am)
  have bc:=zh (show Below w1.heap.size w1 (wd.setCell ⟨gO,num,none⟩ (.int .i64 (F j))) from a9.out.setCell ad.out.lo.2.2.1 _)
  have aF:=zh ((al (W:=wd) (i:=num) (v:=.int .i64 (F j)) (Nat.ne_of_lt (Nat.lt_of_lt_of_le bg ad.out.lo.2.2.1))).trans bk.out)
  go_wp2_with fail
  exact⟨⟨j+1,LA,lc,by go_num,bj,zh (by rw[aa.out.1 0,aa.out.1 1,aa.out.1 3,aa.out.1 4,aa.out.2];simpa using HS.out),bc,aF⟩,by simp[intOf];omega⟩
 obtain rfl:j=E.length:=by omega
 have i1:¬ (E.length:Int)<(E.length:Int):=by omega
 rw[List.take_length] at bD
 obtain⟨p0,p1,p2,p3,p4,-⟩:=aY bD.out.box
 have cx:=(Array.getElem?_eq_some_iff.1 cI.out).1
 have ct:=(bi.out.block _ cx).trans cI.out
 obtain⟨r0,r1,r2,r3,r4,rz⟩:=aY ct
 have z0:=rz 0
 have z1:=rz 1
 have z2:=rz 2
 have z3:=rz 3
 have z4:=rz 4
 have dk:=aA (i:=4) (v:=.slice (some ⟨gO,0,none⟩) n n) (aA (i:=3) (v:=.slice (some ⟨gI,0,none⟩) n n) (aA (i:=2) (v:=.slice LA (bh E F 0).length lc) (aA (i:=1) (v:=.slice (some ⟨gC,0,none⟩) n n) (aA (i:=0) (v:=.slice (some ⟨gN,0,none⟩) n n) ct))))
 have cq:Kx (λj=>j=w.heap.size) wb _:=((((aI wb w.heap.size 0 (.slice (some ⟨gN,0,none⟩) n n)).trans (aI _ w.heap.size 1 (.slice (some ⟨gC,0,none⟩) n n)) (λ_ _ e=>e)).trans (aI _ w.heap.size 2 (.slice LA (bh E F 0).length lc)) (λ_ _ e=>e)).trans (aI _ w.heap.size 3 (.slice (some ⟨gI,0,none⟩) n n)) (λ_ _ e=>e)).trans (aI _ w.heap.size 4 (.slice (some ⟨gO,0,none⟩) n n)) (λ_ _ e=>e)
 obtain⟨v0,v1,v2,v3,v4,-⟩:=aY (u0:=.slice (some ⟨gN,0,none⟩) n n) (u1:=.slice (some ⟨gC,0,none⟩) n n) (u2:=.slice LA (bh E F 0).length lc) (u3:=.slice (some ⟨gI,0,none⟩) n n) (u4:=.slice (some ⟨gO,0,none⟩) n n) dk
 have c9:=bD.out.kx cq λj e=>e ▸ cx
 have bm:=Kx.low (ds.out.trans (bi.out.mono bu)) cq (λj e=>e ▸ Nat.le_refl _) (Nat.le_trans bu bi.out.size)
 have cl:=HR.out
 rw[cL.out] at cl
 have HF:=zh (cl (.returned (.agg #[.slice (some ⟨gN,0,none⟩) n n,.slice (some ⟨gC,0,none⟩) n n,.slice LA (bh E F 0).length lc,.slice (some ⟨gI,0,none⟩) n n,.slice (some ⟨gO,0,none⟩) n n])) _ ⟨_,fb,gN,gC,gI,gO,LA,lc,bu,rfl,c9,bm⟩)
 clear cx ct rz dk cq c9 bm cl
 go_wp2_with fail
 refine bodyPost_ret (v:=.agg #[.slice (some ⟨gN,0,none⟩) n n,.slice (some ⟨gC,0,none⟩) n n,.slice LA (bh E F 0).length lc,.slice (some ⟨gI,0,none⟩) n n,.slice (some ⟨gO,0,none⟩) n n]) ?_ rfl HF.out
 simp[results,Tryz.results62,go_sem,v0,v1,v2,v3,v4]
end
end Go.Proofs.YtgbnicokglpdbaaGreatDoor
