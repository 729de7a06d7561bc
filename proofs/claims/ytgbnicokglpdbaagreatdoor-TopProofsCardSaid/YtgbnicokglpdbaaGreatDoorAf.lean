/-
house; conditions: those of each theorem.
-/
import Derived.Test.YtgbnicokglpdbaaGreatDoorAe
namespace Go.Proofs.YtgbnicokglpdbaaGreatDoor
set_option maxHeartbeats 8000000
set_option maxRecDepth 8000
section
open Go.RowKit Go.Shelf
theorem eE.newPr{W:World}{Pr:Nat->Prop}{pw pa:Nat}{s:Ta}(h:eE W Pr pw pa s)(o:Obj):eE (W.alloc o) (λj=>Pr j\/j=W.heap.size) pw pa s:=by
 have hb:=h.below (ab W o)
 obtain⟨A,c,q1,q2,q3,q4⟩:=hb.left
 obtain⟨A',c',q1',_⟩:=h.left
 obtain⟨A1,c1,A2,c2,r1,r2,r3,r4,r5⟩:=h.got
 have f5:=(Array.getElem?_eq_some_iff.1 q1').1
 have fo:=(Array.getElem?_eq_some_iff.1 r1).1
 have k2:∀ g,(Value.slice A1 s.ws.length c1).ownBlock=some g->g<W.heap.size:=λg hg=>by obtain⟨C,hC⟩:=a8 r2 hg;exact (Array.getElem?_eq_some_iff.1 hC).1
 have k4:∀ g,(Value.slice A2 s.ns.length c2).ownBlock=some g->g<W.heap.size:=λg hg=>by obtain⟨C,hC⟩:=a8 r4 hg;exact (Array.getElem?_eq_some_iff.1 hC).1
 refine⟨λe=>?_,λe=>?_,h.ne,λj hj=>?_,⟨A,c,q1,q2,q3,λa h1 h2=>⟨.inl (q4 a h1 h2).1,(q4 a h1 h2).2⟩⟩,A1,c1,A2,c2,(heap_alloc_old W o fo).trans r1,r2.alloc o,λg hg e=>?_,r4.alloc o,λg hg e=>?_⟩
 ·rcases e with e|e
  ·exact h.npw e
  omega
 ·rcases e with e|e
  ·exact h.npa e
  omega
 ·rcases hj with hj|hj
  ·exact hb.lt j hj
  simp;omega
 ·rcases e with e|e
  ·exact r3 g hg e
  have:=k2 g hg;omega
 rcases e with e|e
 ·exact r5 g hg e
 have:=k4 g hg;omega
theorem eE.less{W:World}{Pr Qr:Nat->Prop}{pw pa:Nat}{s:Ta}(h:eE W Pr pw pa s)(hq:∀ j,Qr j->Pr j)(hr:∀ j,Pr j->j<pw->Qr j):eE W Qr pw pa s:=by
 obtain⟨A,c,q1,q2,q3,q4⟩:=h.left
 obtain⟨A1,c1,A2,c2,r1,r2,r3,r4,r5⟩:=h.got
 exact⟨λe=>h.npw (hq _ e),λe=>h.npa (hq _ e),h.ne,λj hj=>h.lt j (hq _ hj),⟨A,c,q1,q2,q3,λa h1 h2=>⟨hr _ (q4 a h1 h2).1 (q4 a h1 h2).2,(q4 a h1 h2).2⟩⟩,A1,c1,A2,c2,r1,r2,λg hg e=>r3 g hg (hq _ e),r4,λg hg e=>r5 g hg (hq _ e)⟩
def restW(pw:Nat)(W:World):Nat:=
 match W.cell? ⟨pw,0,none⟩ with
 |some (.slice _ n _)=>n
 |_=>0
theorem eE.restW{W:World}{Pr:Nat->Prop}{pw pa:Nat}{s:Ta}(h:eE W Pr pw pa s):restW pw W=s.rest.length:=by
 obtain⟨A,c,q1,_⟩:=h.left
 have q0:W.cell? ⟨pw,0,none⟩=some (.slice A s.rest.length c):=by rw[cell_of_row _ _ 0 _ _ (0,0) q1];rfl
 unfold Go.Proofs.YtgbnicokglpdbaaGreatDoor.restW
 rw[q0]
structure ld(w:World)(Pr:Nat->Prop)(bg:Nat)(B:Nat)(s:Ta)(W:World):Prop where
 st:eE W Pr B (B+2) s
 sz:uz s
 low:Below B w W
 gl:Gl bg W
 res:W.heap[B+1]?=some (.cells #[.slice none 0 0,.slice none 0 0] 127 (0,0))
theorem ld.kx{w W W':World}{Pr:Nat->Prop}{bg B:Nat}{s s':Ta}(h:ld w Pr bg B s W)(ec:eE W' Pr B (B+2) s')(hz:uz s')(hk:Kx (λj=>¬ Pr j) W W')(hB:∀ j,j<=B+1->j≠B->Pr j)(hb:bg<=B):ld w Pr bg B s' W':=
 ⟨ec,hz,hk.low h.low (λj hj=>Nat.le_of_not_lt λhl=>hj (hB j (by omega) (by omega))) (Nat.le_of_lt (by have:=(Array.getElem?_eq_some_iff.1 h.res).1;omega)),
  h.gl.kx hk (λj hj=>Nat.le_of_not_lt λhl=>hj (hB j (by omega) (by omega))) (by have:=(Array.getElem?_eq_some_iff.1 h.res).1;omega),
  (hk.block _ (Array.getElem?_eq_some_iff.1 h.res).1 (λhn=>hn (hB _ (by omega) (by omega)))).trans h.res⟩
theorem ld.below{w W W':World}{Pr:Nat->Prop}{bg B:Nat}{s:Ta}(h:ld w Pr bg B s W)(k:Below W.heap.size W W')(hb:bg<=B):ld w Pr bg B s W':=
 have hs:=(Array.getElem?_eq_some_iff.1 h.res).1
 ⟨h.st.below k,h.sz,h.low.trans (k.mono (by omega)),h.gl.on (k.mono (by omega)),(k.block _ hs).trans h.res⟩
theorem ld.newPr{w W:World}{Pr:Nat->Prop}{bg B:Nat}{s:Ta}(h:ld w Pr bg B s W)(o:Obj)(hb:bg<=B):ld w (λj=>Pr j\/j=W.heap.size) bg B s (W.alloc o):=
 have h2:=h.below (ab W o) hb
 ⟨h.st.newPr o,h2.sz,h2.low,h2.gl,h2.res⟩
theorem ld.less{w W:World}{Pr Qr:Nat->Prop}{bg B:Nat}{s:Ta}(h:ld w Pr bg B s W)(hq:∀ j,Qr j->Pr j)(hr:∀ j,Pr j->j<B->Qr j):ld w Qr bg B s W:=⟨h.st.less hq hr,h.sz,h.low,h.gl,h.res⟩
structure gy(w:World)(Pr:Nat->Prop)(bg B:Nat)(s:Ta)(gb:Nat)(G:List (List UInt8))(nf:Nat)(K:List (List UInt8))(W:World):Prop where
 ri:ld w Pr bg B s W
 grp:ag bW 1 W (some ⟨gb,0,none⟩) G.length (aP G)
 fld:ag bW 1 W (some ⟨B+3,0,none⟩) nf (aP K)
theorem gy.new{w W:World}{Pr:Nat->Prop}{bg B nf:Nat}{s:Ta}{K:List (List UInt8)}(h:ld w Pr bg B s W)(hf:ag bW 1 W (some ⟨B+3,0,none⟩) nf (aP K))(hb:bg<=B)(G:List (List UInt8)) :
 gy w (λj=>Pr j\/j=W.heap.size) bg B s W.heap.size G nf K (W.alloc (.cells ((aP G).map Value.string).toArray 9)):=
 ⟨h.newPr _ hb,by have:=iX W (aP G);unfold aP at this ⊢;rw[List.length_map] at this;exact this,hf.alloc _⟩
theorem gy.kx{w W W':World}{Pr:Nat->Prop}{bg B gb nf:Nat}{s s':Ta}{G K:List (List UInt8)}(h:gy w Pr bg B s gb G nf K W)(ec:eE W' Pr B (B+2) s')(hz:uz s')(hk:Kx (λj=>¬ Pr j) W W')(hB:∀ j,j<=B+1->j≠B->Pr j)(hb:bg<=B)(h1:Pr gb)(h2:Pr (B+3)):gy w Pr bg B s' gb G nf K W':=
 ⟨h.ri.kx ec hz hk hB hb,
  h.grp.low (λa hn ha=>by cases ha;exact hk.block _ (by obtain⟨b',o',e',cq,_⟩:=h.grp.2.2 hn;cases e';exact cq) (λhn=>hn h1)) hk.size,
  h.fld.low (λa hn ha=>by cases ha;exact hk.block _ (by obtain⟨b',o',e',cq,_⟩:=h.fld.2.2 hn;cases e';exact cq) (λhn=>hn h2)) hk.size⟩
theorem kB{G:List (List UInt8)}{M:Bool}{F:Nat}{s:Ta}(h:¬ (M=true/\0<s.rest.length)):cY G M F 0 s=some s:=by
 cases F with
 |zero=>rfl
 |succ F =>
  unfold cY
  rw[if_neg]
  rintro (h'|h')
  ·exact absurd h' (by decide)
  exact h h'
theorem lm{G:List (List UInt8)}{M:Bool}{F L:Nat}{s:Ta}(h:0<L\/(M=true/\0<s.rest.length))(hF:L+s.rest.length<=F):cY G M F L s=(bo G s).bind (cY G M (F-1) (L-1)):=by
 cases F with
 |zero=>omega
 |succ F =>
  unfold cY
  rw[if_pos h]
  rfl
structure cU(B:Nat)(W:World)(A1:Option Addr)(n1 c1:Nat)(A2:Option Addr)(n2 c2:Nat)(ws:List (List UInt8))(ns:List Int):Prop where
 o1:W.ownsRow B 9 1 (.slice A1 n1 c1) n1 ((aP ws).flatMap bW)
 o2:W.ownsRow B 3 1 (.slice A2 n2 c2) n2 (ns.flatMap ak)
 l1:n1=ws.length
 l2:n2=ns.length
theorem vq{W:World}{B e sz n:Nat}{v:Value}{xs:List Value}(h:W.ownsRow 0 e sz v n xs)(hg:∀ g,v.ownBlock=some g->B<=g):W.ownsRow B e sz v n xs:=by
 refine⟨h.1,?_⟩
 rcases h.2 with h0|⟨g,c,cur,hv,h1,h2,h3⟩
 ·exact .inl h0
 subst hv
 exact .inr ⟨g,c,cur,rfl,hg g (by simp[Value.ownBlock]),h2,h3⟩
theorem Ap{W:World}{B e sz n m c:Nat}{A:Option Addr}{xs:List Value}(h:W.ownsRow B e sz (.slice A n c) m xs):n<=c/\c<=maxLen:=by
 rcases h.2 with⟨hv,fz⟩|⟨g,cc,cur,hv,_,_,f1,f2,_⟩
 ·simp only[Value.slice.injEq] at hv
  omega
 simp only[Value.slice.injEq] at hv
 omega
section
variable{B B':Nat}{W w:World}{A1 A2:Option Addr}{n1 c1 n2 c2:Nat}{ws:List (List UInt8)}{ns:List Int}{S:Nat->Prop}
theorem cU.s1(h:cU B W A1 n1 c1 A2 n2 c2 ws ns):ag bW 1 W A1 n1 (aP ws):=ag.of_own h.o1 (by unfold aP;rw[List.length_map];exact h.l1)
theorem cU.s2(h:cU B W A1 n1 c1 A2 n2 c2 ws ns):ag ak 1 W A2 n2 ns:=ag.of_own h.o2 h.l2
theorem cU.kx(h:cU B W A1 n1 c1 A2 n2 c2 ws ns)(k:Kx S W w)(hs:∀ j,S j->j<B):cU B w A1 n1 c1 A2 n2 c2 ws ns:=
 ⟨aH h.o1 (λg hg=>k.block g (kF h.o1 hg) (λe=>by have:=hs g e;have:=(h.o1.lt g hg).1;omega)),aH h.o2 (λg hg=>k.block g (kF h.o2 hg) (λe=>by have:=hs g e;have:=(h.o2.lt g hg).1;omega)),h.l1,h.l2⟩
theorem cU.below(h:cU B W A1 n1 c1 A2 n2 c2 ws ns)(k:Below W.heap.size W w):cU B w A1 n1 c1 A2 n2 c2 ws ns:=h.kx (S:=λ_=>False) (ar k) (λ_ e=>e.elim)
theorem cU.mono(h:cU B W A1 n1 c1 A2 n2 c2 ws ns)(hB:B'<=B):cU B' W A1 n1 c1 A2 n2 c2 ws ns:=⟨oc h.o1 hB,oc h.o2 hB,h.l1,h.l2⟩
end
theorem CU(form:ByteArray)(A:Option Addr)(n c:Nat)(words:List (List UInt8))(w:World)(hX:ag bW 1 w A n (aP words))(hc:n<=c)(hz:uz ⟨words,[],[]⟩)(fu:form.size<=1000)(ha:∀ (j:Nat) b,form.data.toList[j]?=some b->b.toNat<128)(hk:∀ k∈Lib.fields form.data.toList,k.length<=1000)(fb:(Lib.fields form.data.toList).length<=1000)(bg:Nat)(hg:Gl bg w)(hb:bg<=w.heap.size) :
 Calls Tryz.prog 42 #[.string form,.slice A n c] w λe w'=>∃ A1 c1 A2 c2 n1 n2,e=.returned (.tuple #[.agg #[.slice A1 n1 c1,.slice A2 n2 c2],.bool (aD form.data.toList words).2.2])/\cU w.heap.size w' A1 n1 c1 A2 n2 c2 (aD form.data.toList words).1 (aD form.data.toList words).2.1/\Below w.heap.size w w':=by
 refine ae ?_
 intro R hR
 have HX:=zh hX
 have HZ:=zh hz
 have HG:=zh hg
 have Hn:=zh hX.1
 have HK:=zh hk
 obtain⟨B,hB⟩:∃ B,w.heap.size=B:=⟨_,rfl⟩
 have HB:=zh hB
 rw[hB] at hb
 clear hX hz hg hB hk
 go_enter Tryz.func42,Tryz.ntmps42
 go_wp2_with fail
 rw[HB.out]
 obtain⟨W1,d5⟩:∃ W1,(((w.alloc (.cells #[.slice A n c] 118)).alloc (.cells #[.slice none 0 0,.slice none 0 0] 127)).alloc (.cells #[.slice none 0 0,.slice none 0 0] 127))=W1:=⟨_,rfl⟩
 have eF:W1.heap.size=B+3:=by rw[← d5];simp;have:=HB.out;omega
 have h0:=heap_alloc_new w (.cells #[.slice A n c] 118)
 have h1:=heap_alloc_new (w.alloc (.cells #[.slice A n c] 118)) (.cells #[.slice none 0 0,.slice none 0 0] 127)
 have h2:=heap_alloc_new ((w.alloc (.cells #[.slice A n c] 118)).alloc (.cells #[.slice none 0 0,.slice none 0 0] 127)) (.cells #[.slice none 0 0,.slice none 0 0] 127)
 have b0:=ab w (.cells #[.slice A n c] 118)
 have b1:=ab (w.alloc (.cells #[.slice A n c] 118)) (.cells #[.slice none 0 0,.slice none 0 0] 127)
 have b2:=ab ((w.alloc (.cells #[.slice A n c] 118)).alloc (.cells #[.slice none 0 0,.slice none 0 0] 127)) (.cells #[.slice none 0 0,.slice none 0 0] 127)
 have eB:=HB.out
 rw[d5] at h2 b2 ⊢
 simp only[World.size_alloc,eB] at h0 h1 h2 b0 b1 b2
 have k0:W1.heap[B]?=_:=(b2.block B (by omega)).trans ((b1.block B (by omega)).trans h0)
 have k1:W1.heap[B+1]?=_:=(b2.block (B+1) (by omega)).trans h1
 have dk:Below B w W1:=b0.trans ((b1.mono (by omega)).trans (b2.mono (by omega)))
 have hA:∀ a,0<n->A=some a->a.block<B:=λa hn ha=>by
  obtain⟨b',o',e',cq,_⟩:=HX.out.2.2 hn
  rw[ha] at e'
  cases e'
  show b'<B
  omega
 have HF:=zh (Ba form W1 bg (HG.out.on (dk.mono hb)) (by omega) ha)
 have HW:=zh (show ∀ w2,Below W1.heap.size W1 w2->W1.heap.size<w2.heap.size->ld w (λj=>(j<B\/j=B+1)\/j=B+3) bg B ⟨words,[],[]⟩ w2 from λw2 c4 f6=>by
  have hn:=HX.out.1
  have e1:n=words.length:=by rw[hn];unfold aP;rw[List.length_map]
  refine⟨⟨by simp,by omega,by omega,λj hj=>by have:=c4.size;omega,⟨A,c,?_,?_,by dsimp only;omega,λa h1 h2=>?_⟩,none,0,none,0,?_,World.ownsRow_nil _ _ _ _,λg hg=>by simp[Value.ownBlock] at hg,World.ownsRow_nil _ _ _ _,λg hg=>by simp[Value.ownBlock] at hg⟩,HZ.out,dk.trans (c4.mono (by omega)),HG.out.on ((dk.mono hb).trans (c4.mono (by omega))),?_⟩
  ·dsimp only
   rw[← e1]
   exact (c4.block B (by omega)).trans k0
  ·dsimp only
   rw[← e1]
   exact (HX.out.below (eB ▸ dk)).below c4
  ·dsimp only at h1
   have:=hA a (by omega) h2
   exact⟨.inl (.inl this),this⟩
  ·exact (c4.block (B+2) (by omega)).trans h2
  exact (c4.block (B+1) (by omega)).trans k1)
 have ei:=zh eF
 clear h0 h1 h2 b0 b1 b2 k0 k1 dk hA eF d5 ha
 obtain⟨K,hK⟩:∃ K,Lib.fields form.data.toList=K:=⟨_,rfl⟩
 rw[hK] at HF HK fb
 obtain⟨T,hT⟩:∃ T,bR K ⟨words,[],[]⟩=T:=⟨_,rfl⟩
 have HT:=zh hT
 have HP:=zh (show aD form.data.toList words=jK T by
  unfold aD
  rw[hK,hT])
 clear hK hT
 refine HF.out.mono ?_
 rintro e w2 ⟨nf,cf,rfl,d2,eu,ej⟩
 have es:nf=K.length:=by rw[d2.1];unfold aP;rw[List.length_map]
 have f4:nf<=1000:=by omega
 have HN:=zh es
 rw[ei.out] at d2
 have e9:=zh d2
 have e5:=zh (HW.out w2 ej eu)
 clear d2 es eu ej
 go_wp2_with fail
 rw[ei.out]
 go_loopw [20] (λs20 wr=>∃ (k:Nat) (s:Ta),k<=nf/\s20=.int .i64 (k:Int)/\Hid (ld w (λj=>(j<B\/j=B+1)\/j=B+3) bg B s wr)/\Hid (bR (K.drop k) s=T)/\Hid (ag bW 1 wr (some ⟨B+3,0,none⟩) nf (aP K))) (λs20 _=>nf-(intOf s20).toNat)
 case atStart=>exact⟨0,_,Nat.zero_le _,rfl,e5,HT,e9⟩
 obtain⟨k,s,hk,rfl,HI,d3,c6⟩:=hrel
 by_cases dq:k<nf
 ·obtain⟨b',o',kd,e',cq,dx,q0⟩:=di c6.out dq
  cases e'
  rw[Nat.zero_add] at q0
  have i1:(k:Int)<(nf:Int):=by omega
  have d7:k<K.length:=by have:=HN.out;omega
  have c8:kd=⟨K[k].toArray⟩:=by
   unfold aP at dx
   rw[List.getElem?_map,List.getElem?_eq_getElem d7] at dx
   exact (Option.some.inj dx).symm
  obtain⟨kk,dz⟩:∃ kk,K[k]=kk:=⟨_,rfl⟩
  have ev:bR (K.drop k) s=(cY (lN kk) (jm kk) (fx kk+s.rest.length) (fx kk) s).bind (bR (K.drop (k+1))):=by
   rw[List.drop_eq_getElem_cons d7,dz]
   rfl
  rw[dz] at c8
  have d4:=d3.out
  rw[ev] at d4
  have cO:=zh d4
  have eg:=zh (HK.out kk (by rw[← dz];exact List.getElem_mem d7))
  clear ev d4 d3 dz dx
  have ci:kd.toList=kk:=by rw[c8,Lib.toList_data]
  have f0:kd.size<=1000:=by
   rw[aO,c8]
   exact eg.out
  have e6:=zh (show kd.data.toList=kk by rw[c8])
  clear c8
  by_cases c1:kk=kS
  ·skip
   subst c1
   have b7:=cO.out
   rw[show lN kS=[kN] by decide,show jm kS=true by decide,show fx kS=0 by decide] at b7
   have cT:=zh b7
   have e1:(kd.toList==[110,42])=true:=by rw[ci];decide
   clear ci b7 cO
   go_wp2_with fail
   have cI:=zh (show ∀ g∈([kN]:List (List UInt8)),g.length<=1000000 by decide)
   have cC:=HI.out.below (ab wr (.cells #[.string kd] 9)) hb
   have bu:=gy.new cC (c6.out.alloc _) hb [kN]
   obtain⟨gb,cr⟩:∃ gb,wr.heap.size+1=gb:=⟨_,rfl⟩
   have d6:B+3<=gb:=by have:=HI.out.st.lt (B+3) (.inr rfl);omega
   rw[World.size_alloc] at bu
   rw[cr] at bu ⊢
   skip
   obtain⟨W4,b8⟩:∃ W4,(wr.alloc (.cells #[.string kd] 9)).alloc (.cells #[.string ⟨#[110]⟩] 9)=W4:=⟨_,rfl⟩
   have ct:gy w (λj=>((j<B\/j=B+1)\/j=B+3)\/j=gb) bg B s gb [kN] nf K W4:=b8 ▸ bu
   rw[b8]
   have cS:=zh ct
   clear bu ct cC b8 cr
   go_loopw [13] (λs13 wx=>∃ (m F:Nat) (s':Ta),s13=.int .i64 (m:Int)/\Hid (gy w (λj=>((j<B\/j=B+1)\/j=B+3)\/j=gb) bg B s' gb [kN] nf K wx)/\Hid ((cY [kN] true F (0-m) s').bind (bR (K.drop (k+1)))=T)/\0-m+s'.rest.length<=F/\m+s'.rest.length<=1000001) (λ_ wx=>restW B wx)
   case atStart=>exact⟨0,0+s.rest.length,s,rfl,cS,cT,by omega,by have:=HI.out.sz.1;omega⟩
   obtain⟨m,F,s',rfl,HR,bq,hF,hm⟩:=hrel
   obtain⟨A5,c5,q1,-⟩:=HR.out.ri.st.left
   have q0:wr.cell? ⟨B,0,none⟩=some (.slice A5 s'.rest.length c5):=by rw[cell_of_row _ _ 0 _ _ (0,0) q1];rfl
   have cN:=zh HR.out.ri.st.restW
   clear q1
   by_cases b5:m<0\/(true=true/\0<s'.rest.length)
   ·have ca:=bq.out
    rw[lm (by rcases b5 with h|h;exact .inl (by omega);exact .inr h) hF] at ca
    have cL:=zh ca
    clear ca bq
    have i7:¬ (m:Int)<0:=by omega
    have i9:(0:Int)<(s'.rest.length:Int):=by omega
    skip
    go_wp2_with fail
    go_loopw [61] (λs61 wy=>∃ (j:Nat) (s2:Ta),j<=1/\s61=.int .i64 (j:Int)/\Hid (gy w (λj=>((j<B\/j=B+1)\/j=B+3)\/j=gb) bg B s2 gb [kN] nf K wy)/\Hid (((bo (([kN]:List (List UInt8)).drop j) s2).bind (cY [kN] true (F-1) (0-m-1))).bind (bR (K.drop (k+1)))=T)/\s2.rest.length+j=s'.rest.length) (λs61 _=>1-(intOf s61).toNat)
    case atStart=>exact⟨0,s',by omega,rfl,HR,cL,by omega⟩
    obtain⟨j,s2,hj,rfl,aa,am,c9⟩:=hrel
    by_cases bj:j<1
    ·have ij:(j:Int)<1:=by omega
     obtain⟨b',o',gw,e',cq,a0,qj⟩:=di aa.out.grp (k:=j) (by show j<1;exact bj)
     cases e'
     rw[Nat.zero_add] at qj
     obtain⟨gk,aF⟩:∃ gk,([kN]:List (List UInt8))[j]?=some gk:=⟨_,List.getElem?_eq_getElem (by show j<1;exact bj)⟩
     have bi:gw=⟨gk.toArray⟩:=by
      unfold aP at a0
      rw[List.getElem?_map,aF] at a0
      exact (Option.some.inj a0).symm
     have bw:bo (([kN]:List (List UInt8)).drop j) s2=if (ba gk s2).2 then bo (([kN]:List (List UInt8)).drop (j+1)) (ba gk s2).1 else none:=by
      obtain⟨bt,cx⟩:=List.getElem?_eq_some_iff.1 aF
      rw[List.drop_eq_getElem_cons bt,cx]
      rfl
     have bc:=zh (j6 gw wr _ B (B+2) s2 aa.out.ri.st aa.out.ri.sz (by rw[bi,aO];exact cI.out gk (List.mem_of_getElem? aF)) bg aa.out.ri.gl (λj hj=>.inl (.inl (.inl (by omega)))))
     have bD:gw.data.toList=gk:=by rw[bi]
     rw[bD] at bc
     have a9:=am.out
     rw[bw] at a9
     obtain⟨ok,bk⟩:∃ ok,(ba gk s2).2=ok:=⟨_,rfl⟩
     rw[bk] at bc a9
     have bf:=zh a9
     have cn:=zh bk
     clear aF a0 bw a9 am bi bD bk
     go_wp2_with fail
     refine bc.out.mono ?_
     rintro e w5 ⟨rfl,bS,bE⟩
     have bv:=aa.out.kx bS (aa.out.ri.sz.take gk) bE (λj hj ds=>.inl (.inl (by omega))) hb (.inr rfl) (.inl (.inr rfl))
     have ad:=zh bv
     clear bS bE bv
     cases ok
     ·have hn:T=none:=by
       have h:=bf.out
       rw[if_neg (by decide)] at h
       exact h.symm
      have bp:=aA (i:=1) (v:=.slice none 0 0) (aA (i:=0) (v:=.slice none 0 0) ad.out.ri.res)
      obtain⟨m0,m1,mf⟩:=ap ad.out.ri.res
      have mf0:=mf 0
      have mf1:=mf 1
      have bm:R (.returned (.tuple #[.agg #[.slice none 0 0,.slice none 0 0],.bool false])) ((w5.setCell ⟨B+1,0,none⟩ (.slice none 0 0)).setCell ⟨B+1,1,none⟩ (.slice none 0 0)):=by
       refine hR.out _ _ ?_
       rw[HP.out,hn]
       have b6:Kx (λj=>j=B+1) w5 ((w5.setCell ⟨B+1,0,none⟩ (.slice none 0 0)).setCell ⟨B+1,1,none⟩ (.slice none 0 0)):=bz (S:=λj=>j=B+1) (bz (S:=λj=>j=B+1) (Kx.refl _ w5) rfl 0 _) rfl 1 _
       exact⟨none,0,none,0,0,0,rfl,⟨World.ownsRow_nil _ _ _ _,World.ownsRow_nil _ _ _ _,rfl,rfl⟩,by rw[HB.out];exact b6.low ad.out.ri.low (λj hj=>by omega) (by have:=(Array.getElem?_eq_some_iff.1 ad.out.ri.res).1;omega)⟩
      have cd:=zh bm
      obtain⟨v0,v1,-⟩:=ap (show ((w5.setCell ⟨B+1,0,none⟩ (.slice none 0 0)).setCell ⟨B+1,1,none⟩ (.slice none 0 0)).heap[B+1]?=some (.cells #[.slice none 0 0,.slice none 0 0] 127 (0,0)) from bp)
      clear hR bm hn bp mf
      go_wp2_with fail
      refine bodyPost_end (v:=.tuple #[.agg #[.slice none 0 0,.slice none 0 0],.bool false]) ?_ rfl cd.out
      simp[results,Tryz.results42,go_sem,v0,v1]
     have ht:=bf.out
     rw[if_pos rfl] at ht
     have cj:=zh ht
     have dd:=iY cn.out
     clear ht bf
     go_wp2_with fail
     exact⟨⟨j+1,(ba gk s2).1,bj,by go_num,ad,cj,by omega⟩,by simp[intOf]<;>omega⟩
    have cA:j=1:=by omega
    subst cA
    have i3:¬ (((1:Nat):Int))<1:=by decide
    have ht:=am.out
    have hd:bo (([kN]:List (List UInt8)).drop 1) s2=some s2:=rfl
    rw[hd] at ht
    have cl:=zh ht
    have bI:restW B wr=s2.rest.length:=aa.out.ri.st.restW
    have cp:=zh bI
    clear ht am hd bI
    go_wp2_with fail
    exact⟨⟨m+1,F-1,s2,by go_num,aa,cl,by omega,by omega⟩,by rw[cp.out,cN.out];omega⟩
   have i7:¬ (m:Int)<0:=by omega
   have i8:¬ (true=true/\0<s'.rest.length):=λh=>b5 (.inr h)
   have b9:=bq.out
   rw[show 0-m=0 by omega,kB i8] at b9
   have cV:=zh b9
   have i9:¬ (0:Int)<(s'.rest.length:Int):=by have:¬ 0<s'.rest.length:=λh=>i8 ⟨rfl,h⟩;omega
   clear b5 i8 b9 bq
   go_wp2_with fail
   exact⟨⟨k+1,s',dq,by go_num,zh (HR.out.ri.less (λj hj=>.inl hj) (λj _ bt=>.inl (.inl bt))),cV,zh HR.out.fld⟩,by simp[intOf]<;>omega⟩
  by_cases c2:kk=kP
  ·skip
   subst c2
   have b7:=cO.out
   rw[show lN kP=[kN] by decide,show jm kP=true by decide,show fx kP=1 by decide] at b7
   have cT:=zh b7
   have e1:(kd.toList==[110,42])=false:=by rw[ci];decide
   have e2:(kd.toList==[110,43])=true:=by rw[ci];decide
   clear ci b7 cO
   go_wp2_with fail
   have cI:=zh (show ∀ g∈([kN]:List (List UInt8)),g.length<=1000000 by decide)
   have cC:=HI.out.below (ab wr (.cells #[.string kd] 9)) hb
   have bu:=gy.new cC (c6.out.alloc _) hb [kN]
   obtain⟨gb,cr⟩:∃ gb,wr.heap.size+1=gb:=⟨_,rfl⟩
   have d6:B+3<=gb:=by have:=HI.out.st.lt (B+3) (.inr rfl);omega
   rw[World.size_alloc] at bu
   rw[cr] at bu ⊢
   skip
   obtain⟨W4,b8⟩:∃ W4,(wr.alloc (.cells #[.string kd] 9)).alloc (.cells #[.string ⟨#[110]⟩] 9)=W4:=⟨_,rfl⟩
   have ct:gy w (λj=>((j<B\/j=B+1)\/j=B+3)\/j=gb) bg B s gb [kN] nf K W4:=b8 ▸ bu
   rw[b8]
   have cS:=zh ct
   clear bu ct cC b8 cr
   go_loopw [13] (λs13 wx=>∃ (m F:Nat) (s':Ta),s13=.int .i64 (m:Int)/\Hid (gy w (λj=>((j<B\/j=B+1)\/j=B+3)\/j=gb) bg B s' gb [kN] nf K wx)/\Hid ((cY [kN] true F (1-m) s').bind (bR (K.drop (k+1)))=T)/\1-m+s'.rest.length<=F/\m+s'.rest.length<=1000001) (λ_ wx=>restW B wx)
   case atStart=>exact⟨0,1+s.rest.length,s,rfl,cS,cT,by omega,by have:=HI.out.sz.1;omega⟩
   obtain⟨m,F,s',rfl,HR,bq,hF,hm⟩:=hrel
   obtain⟨A5,c5,q1,-⟩:=HR.out.ri.st.left
   have q0:wr.cell? ⟨B,0,none⟩=some (.slice A5 s'.rest.length c5):=by rw[cell_of_row _ _ 0 _ _ (0,0) q1];rfl
   have cN:=zh HR.out.ri.st.restW
   clear q1
   by_cases b5:m<1\/(true=true/\0<s'.rest.length)
   ·have ca:=bq.out
    rw[lm (by rcases b5 with h|h;exact .inl (by omega);exact .inr h) hF] at ca
    have cL:=zh ca
    clear ca bq
    by_cases eo:m<1
    ·have i7:(m:Int)<1:=by omega
     skip
     go_wp2_with fail
     go_loopw [61] (λs61 wy=>∃ (j:Nat) (s2:Ta),j<=1/\s61=.int .i64 (j:Int)/\Hid (gy w (λj=>((j<B\/j=B+1)\/j=B+3)\/j=gb) bg B s2 gb [kN] nf K wy)/\Hid (((bo (([kN]:List (List UInt8)).drop j) s2).bind (cY [kN] true (F-1) (1-m-1))).bind (bR (K.drop (k+1)))=T)/\s2.rest.length+j=s'.rest.length) (λs61 _=>1-(intOf s61).toNat)
     case atStart=>exact⟨0,s',by omega,rfl,HR,cL,by omega⟩
     obtain⟨j,s2,hj,rfl,aa,am,c9⟩:=hrel
     by_cases bj:j<1
     ·have ij:(j:Int)<1:=by omega
      obtain⟨b',o',gw,e',cq,a0,qj⟩:=di aa.out.grp (k:=j) (by show j<1;exact bj)
      cases e'
      rw[Nat.zero_add] at qj
      obtain⟨gk,aF⟩:∃ gk,([kN]:List (List UInt8))[j]?=some gk:=⟨_,List.getElem?_eq_getElem (by show j<1;exact bj)⟩
      have bi:gw=⟨gk.toArray⟩:=by
       unfold aP at a0
       rw[List.getElem?_map,aF] at a0
       exact (Option.some.inj a0).symm
      have bw:bo (([kN]:List (List UInt8)).drop j) s2=if (ba gk s2).2 then bo (([kN]:List (List UInt8)).drop (j+1)) (ba gk s2).1 else none:=by
       obtain⟨bt,cx⟩:=List.getElem?_eq_some_iff.1 aF
       rw[List.drop_eq_getElem_cons bt,cx]
       rfl
      have bc:=zh (j6 gw wr _ B (B+2) s2 aa.out.ri.st aa.out.ri.sz (by rw[bi,aO];exact cI.out gk (List.mem_of_getElem? aF)) bg aa.out.ri.gl (λj hj=>.inl (.inl (.inl (by omega)))))
      have bD:gw.data.toList=gk:=by rw[bi]
      rw[bD] at bc
      have a9:=am.out
      rw[bw] at a9
      obtain⟨ok,bk⟩:∃ ok,(ba gk s2).2=ok:=⟨_,rfl⟩
      rw[bk] at bc a9
      have bf:=zh a9
      have cn:=zh bk
      clear aF a0 bw a9 am bi bD bk
      go_wp2_with fail
      refine bc.out.mono ?_
      rintro e w5 ⟨rfl,bS,bE⟩
      have bv:=aa.out.kx bS (aa.out.ri.sz.take gk) bE (λj hj ds=>.inl (.inl (by omega))) hb (.inr rfl) (.inl (.inr rfl))
      have ad:=zh bv
      clear bS bE bv
      cases ok
      ·have hn:T=none:=by
        have h:=bf.out
        rw[if_neg (by decide)] at h
        exact h.symm
       have bp:=aA (i:=1) (v:=.slice none 0 0) (aA (i:=0) (v:=.slice none 0 0) ad.out.ri.res)
       obtain⟨m0,m1,mf⟩:=ap ad.out.ri.res
       have mf0:=mf 0
       have mf1:=mf 1
       have bm:R (.returned (.tuple #[.agg #[.slice none 0 0,.slice none 0 0],.bool false])) ((w5.setCell ⟨B+1,0,none⟩ (.slice none 0 0)).setCell ⟨B+1,1,none⟩ (.slice none 0 0)):=by
        refine hR.out _ _ ?_
        rw[HP.out,hn]
        have b6:Kx (λj=>j=B+1) w5 ((w5.setCell ⟨B+1,0,none⟩ (.slice none 0 0)).setCell ⟨B+1,1,none⟩ (.slice none 0 0)):=bz (S:=λj=>j=B+1) (bz (S:=λj=>j=B+1) (Kx.refl _ w5) rfl 0 _) rfl 1 _
        exact⟨none,0,none,0,0,0,rfl,⟨World.ownsRow_nil _ _ _ _,World.ownsRow_nil _ _ _ _,rfl,rfl⟩,by rw[HB.out];exact b6.low ad.out.ri.low (λj hj=>by omega) (by have:=(Array.getElem?_eq_some_iff.1 ad.out.ri.res).1;omega)⟩
       have cd:=zh bm
       obtain⟨v0,v1,-⟩:=ap (show ((w5.setCell ⟨B+1,0,none⟩ (.slice none 0 0)).setCell ⟨B+1,1,none⟩ (.slice none 0 0)).heap[B+1]?=some (.cells #[.slice none 0 0,.slice none 0 0] 127 (0,0)) from bp)
       clear hR bm hn bp mf
       go_wp2_with fail
       refine bodyPost_end (v:=.tuple #[.agg #[.slice none 0 0,.slice none 0 0],.bool false]) ?_ rfl cd.out
       simp[results,Tryz.results42,go_sem,v0,v1]
      have ht:=bf.out
      rw[if_pos rfl] at ht
      have cj:=zh ht
      have dd:=iY cn.out
      clear ht bf
      go_wp2_with fail
      exact⟨⟨j+1,(ba gk s2).1,bj,by go_num,ad,cj,by omega⟩,by simp[intOf]<;>omega⟩
     have cA:j=1:=by omega
     subst cA
     have i3:¬ (((1:Nat):Int))<1:=by decide
     have ht:=am.out
     have hd:bo (([kN]:List (List UInt8)).drop 1) s2=some s2:=rfl
     rw[hd] at ht
     have cl:=zh ht
     have bI:restW B wr=s2.rest.length:=aa.out.ri.st.restW
     have cp:=zh bI
     clear ht am hd bI
     go_wp2_with fail
     exact⟨⟨m+1,F-1,s2,by go_num,aa,cl,by omega,by omega⟩,by rw[cp.out,cN.out];omega⟩
    have i7:¬ (m:Int)<1:=by omega
    have i9:(0:Int)<(s'.rest.length:Int):=by omega
    skip
    go_wp2_with fail
    go_loopw [61] (λs61 wy=>∃ (j:Nat) (s2:Ta),j<=1/\s61=.int .i64 (j:Int)/\Hid (gy w (λj=>((j<B\/j=B+1)\/j=B+3)\/j=gb) bg B s2 gb [kN] nf K wy)/\Hid (((bo (([kN]:List (List UInt8)).drop j) s2).bind (cY [kN] true (F-1) (1-m-1))).bind (bR (K.drop (k+1)))=T)/\s2.rest.length+j=s'.rest.length) (λs61 _=>1-(intOf s61).toNat)
    case atStart=>exact⟨0,s',by omega,rfl,HR,cL,by omega⟩
    obtain⟨j,s2,hj,rfl,aa,am,c9⟩:=hrel
    by_cases bj:j<1
    ·have ij:(j:Int)<1:=by omega
     obtain⟨b',o',gw,e',cq,a0,qj⟩:=di aa.out.grp (k:=j) (by show j<1;exact bj)
     cases e'
     rw[Nat.zero_add] at qj
     obtain⟨gk,aF⟩:∃ gk,([kN]:List (List UInt8))[j]?=some gk:=⟨_,List.getElem?_eq_getElem (by show j<1;exact bj)⟩
     have bi:gw=⟨gk.toArray⟩:=by
      unfold aP at a0
      rw[List.getElem?_map,aF] at a0
      exact (Option.some.inj a0).symm
     have bw:bo (([kN]:List (List UInt8)).drop j) s2=if (ba gk s2).2 then bo (([kN]:List (List UInt8)).drop (j+1)) (ba gk s2).1 else none:=by
      obtain⟨bt,cx⟩:=List.getElem?_eq_some_iff.1 aF
      rw[List.drop_eq_getElem_cons bt,cx]
      rfl
     have bc:=zh (j6 gw wr _ B (B+2) s2 aa.out.ri.st aa.out.ri.sz (by rw[bi,aO];exact cI.out gk (List.mem_of_getElem? aF)) bg aa.out.ri.gl (λj hj=>.inl (.inl (.inl (by omega)))))
     have bD:gw.data.toList=gk:=by rw[bi]
     rw[bD] at bc
     have a9:=am.out
     rw[bw] at a9
     obtain⟨ok,bk⟩:∃ ok,(ba gk s2).2=ok:=⟨_,rfl⟩
     rw[bk] at bc a9
     have bf:=zh a9
     have cn:=zh bk
     clear aF a0 bw a9 am bi bD bk
     go_wp2_with fail
     refine bc.out.mono ?_
     rintro e w5 ⟨rfl,bS,bE⟩
     have bv:=aa.out.kx bS (aa.out.ri.sz.take gk) bE (λj hj ds=>.inl (.inl (by omega))) hb (.inr rfl) (.inl (.inr rfl))
     have ad:=zh bv
     clear bS bE bv
     cases ok
     ·have hn:T=none:=by
       have h:=bf.out
       rw[if_neg (by decide)] at h
       exact h.symm
      have bp:=aA (i:=1) (v:=.slice none 0 0) (aA (i:=0) (v:=.slice none 0 0) ad.out.ri.res)
      obtain⟨m0,m1,mf⟩:=ap ad.out.ri.res
      have mf0:=mf 0
      have mf1:=mf 1
      have bm:R (.returned (.tuple #[.agg #[.slice none 0 0,.slice none 0 0],.bool false])) ((w5.setCell ⟨B+1,0,none⟩ (.slice none 0 0)).setCell ⟨B+1,1,none⟩ (.slice none 0 0)):=by
       refine hR.out _ _ ?_
       rw[HP.out,hn]
       have b6:Kx (λj=>j=B+1) w5 ((w5.setCell ⟨B+1,0,none⟩ (.slice none 0 0)).setCell ⟨B+1,1,none⟩ (.slice none 0 0)):=bz (S:=λj=>j=B+1) (bz (S:=λj=>j=B+1) (Kx.refl _ w5) rfl 0 _) rfl 1 _
       exact⟨none,0,none,0,0,0,rfl,⟨World.ownsRow_nil _ _ _ _,World.ownsRow_nil _ _ _ _,rfl,rfl⟩,by rw[HB.out];exact b6.low ad.out.ri.low (λj hj=>by omega) (by have:=(Array.getElem?_eq_some_iff.1 ad.out.ri.res).1;omega)⟩
      have cd:=zh bm
      obtain⟨v0,v1,-⟩:=ap (show ((w5.setCell ⟨B+1,0,none⟩ (.slice none 0 0)).setCell ⟨B+1,1,none⟩ (.slice none 0 0)).heap[B+1]?=some (.cells #[.slice none 0 0,.slice none 0 0] 127 (0,0)) from bp)
      clear hR bm hn bp mf
      go_wp2_with fail
      refine bodyPost_end (v:=.tuple #[.agg #[.slice none 0 0,.slice none 0 0],.bool false]) ?_ rfl cd.out
      simp[results,Tryz.results42,go_sem,v0,v1]
     have ht:=bf.out
     rw[if_pos rfl] at ht
     have cj:=zh ht
     have dd:=iY cn.out
     clear ht bf
     go_wp2_with fail
     exact⟨⟨j+1,(ba gk s2).1,bj,by go_num,ad,cj,by omega⟩,by simp[intOf]<;>omega⟩
    have cA:j=1:=by omega
    subst cA
    have i3:¬ (((1:Nat):Int))<1:=by decide
    have ht:=am.out
    have hd:bo (([kN]:List (List UInt8)).drop 1) s2=some s2:=rfl
    rw[hd] at ht
    have cl:=zh ht
    have bI:restW B wr=s2.rest.length:=aa.out.ri.st.restW
    have cp:=zh bI
    clear ht am hd bI
    go_wp2_with fail
    exact⟨⟨m+1,F-1,s2,by go_num,aa,cl,by omega,by omega⟩,by rw[cp.out,cN.out];omega⟩
   have i7:¬ (m:Int)<1:=by omega
   have i8:¬ (true=true/\0<s'.rest.length):=λh=>b5 (.inr h)
   have b9:=bq.out
   rw[show 1-m=0 by omega,kB i8] at b9
   have cV:=zh b9
   have i9:¬ (0:Int)<(s'.rest.length:Int):=by have:¬ 0<s'.rest.length:=λh=>i8 ⟨rfl,h⟩;omega
   clear b5 i8 b9 bq
   go_wp2_with fail
   exact⟨⟨k+1,s',dq,by go_num,zh (HR.out.ri.less (λj hj=>.inl hj) (λj _ bt=>.inl (.inl bt))),cV,zh HR.out.fld⟩,by simp[intOf]<;>omega⟩
  by_cases c3:kk=bb
  ·skip
   subst c3
   have b7:=cO.out
   rw[show lN bb=[[119],[119],[119],kN] by decide,show jm bb=true by decide,show fx bb=1 by decide] at b7
   have cT:=zh b7
   have e1:(kd.toList==[110,42])=false:=by rw[ci];decide
   have e2:(kd.toList==[110,43])=false:=by rw[ci];decide
   have e3:(kd.toList==[112,111,115,116])=true:=by rw[ci];decide
   clear ci b7 cO
   go_wp2_with fail
   have cI:=zh (show ∀ g∈([[119],[119],[119],kN]:List (List UInt8)),g.length<=1000000 by decide)
   have cC:=HI.out.below (ab wr (.cells #[.string kd] 9)) hb
   have bu:=gy.new cC (c6.out.alloc _) hb [[119],[119],[119],kN]
   obtain⟨gb,cr⟩:∃ gb,wr.heap.size+1=gb:=⟨_,rfl⟩
   have d6:B+3<=gb:=by have:=HI.out.st.lt (B+3) (.inr rfl);omega
   rw[World.size_alloc] at bu
   rw[cr] at bu ⊢
   skip
   obtain⟨W4,b8⟩:∃ W4,(wr.alloc (.cells #[.string kd] 9)).alloc (.cells #[.string ⟨#[119]⟩,.string ⟨#[119]⟩,.string ⟨#[119]⟩,.string ⟨#[110]⟩] 9)=W4:=⟨_,rfl⟩
   have ct:gy w (λj=>((j<B\/j=B+1)\/j=B+3)\/j=gb) bg B s gb [[119],[119],[119],kN] nf K W4:=b8 ▸ bu
   rw[b8]
   have cS:=zh ct
   clear bu ct cC b8 cr
   go_loopw [13] (λs13 wx=>∃ (m F:Nat) (s':Ta),s13=.int .i64 (m:Int)/\Hid (gy w (λj=>((j<B\/j=B+1)\/j=B+3)\/j=gb) bg B s' gb [[119],[119],[119],kN] nf K wx)/\Hid ((cY [[119],[119],[119],kN] true F (1-m) s').bind (bR (K.drop (k+1)))=T)/\1-m+s'.rest.length<=F/\m+s'.rest.length<=1000001) (λ_ wx=>restW B wx)
   case atStart=>exact⟨0,1+s.rest.length,s,rfl,cS,cT,by omega,by have:=HI.out.sz.1;omega⟩
   obtain⟨m,F,s',rfl,HR,bq,hF,hm⟩:=hrel
   obtain⟨A5,c5,q1,-⟩:=HR.out.ri.st.left
   have q0:wr.cell? ⟨B,0,none⟩=some (.slice A5 s'.rest.length c5):=by rw[cell_of_row _ _ 0 _ _ (0,0) q1];rfl
   have cN:=zh HR.out.ri.st.restW
   clear q1
   by_cases b5:m<1\/(true=true/\0<s'.rest.length)
   ·have ca:=bq.out
    rw[lm (by rcases b5 with h|h;exact .inl (by omega);exact .inr h) hF] at ca
    have cL:=zh ca
    clear ca bq
    by_cases eo:m<1
    ·have i7:(m:Int)<1:=by omega
     skip
     go_wp2_with fail
     go_loopw [61] (λs61 wy=>∃ (j:Nat) (s2:Ta),j<=4/\s61=.int .i64 (j:Int)/\Hid (gy w (λj=>((j<B\/j=B+1)\/j=B+3)\/j=gb) bg B s2 gb [[119],[119],[119],kN] nf K wy)/\Hid (((bo (([[119],[119],[119],kN]:List (List UInt8)).drop j) s2).bind (cY [[119],[119],[119],kN] true (F-1) (1-m-1))).bind (bR (K.drop (k+1)))=T)/\s2.rest.length+j=s'.rest.length) (λs61 _=>4-(intOf s61).toNat)
     case atStart=>exact⟨0,s',by omega,rfl,HR,cL,by omega⟩
     obtain⟨j,s2,hj,rfl,aa,am,c9⟩:=hrel
     by_cases bj:j<4
     ·have ij:(j:Int)<4:=by omega
      obtain⟨b',o',gw,e',cq,a0,qj⟩:=di aa.out.grp (k:=j) (by show j<4;exact bj)
      cases e'
      rw[Nat.zero_add] at qj
      obtain⟨gk,aF⟩:∃ gk,([[119],[119],[119],kN]:List (List UInt8))[j]?=some gk:=⟨_,List.getElem?_eq_getElem (by show j<4;exact bj)⟩
      have bi:gw=⟨gk.toArray⟩:=by
       unfold aP at a0
       rw[List.getElem?_map,aF] at a0
       exact (Option.some.inj a0).symm
      have bw:bo (([[119],[119],[119],kN]:List (List UInt8)).drop j) s2=if (ba gk s2).2 then bo (([[119],[119],[119],kN]:List (List UInt8)).drop (j+1)) (ba gk s2).1 else none:=by
       obtain⟨bt,cx⟩:=List.getElem?_eq_some_iff.1 aF
       rw[List.drop_eq_getElem_cons bt,cx]
       rfl
      have bc:=zh (j6 gw wr _ B (B+2) s2 aa.out.ri.st aa.out.ri.sz (by rw[bi,aO];exact cI.out gk (List.mem_of_getElem? aF)) bg aa.out.ri.gl (λj hj=>.inl (.inl (.inl (by omega)))))
      have bD:gw.data.toList=gk:=by rw[bi]
      rw[bD] at bc
      have a9:=am.out
      rw[bw] at a9
      obtain⟨ok,bk⟩:∃ ok,(ba gk s2).2=ok:=⟨_,rfl⟩
      rw[bk] at bc a9
      have bf:=zh a9
      have cn:=zh bk
      clear aF a0 bw a9 am bi bD bk
      go_wp2_with fail
      refine bc.out.mono ?_
      rintro e w5 ⟨rfl,bS,bE⟩
      have bv:=aa.out.kx bS (aa.out.ri.sz.take gk) bE (λj hj ds=>.inl (.inl (by omega))) hb (.inr rfl) (.inl (.inr rfl))
      have ad:=zh bv
      clear bS bE bv
      cases ok
      ·have hn:T=none:=by
        have h:=bf.out
        rw[if_neg (by decide)] at h
        exact h.symm
       have bp:=aA (i:=1) (v:=.slice none 0 0) (aA (i:=0) (v:=.slice none 0 0) ad.out.ri.res)
       obtain⟨m0,m1,mf⟩:=ap ad.out.ri.res
       have mf0:=mf 0
       have mf1:=mf 1
       have bm:R (.returned (.tuple #[.agg #[.slice none 0 0,.slice none 0 0],.bool false])) ((w5.setCell ⟨B+1,0,none⟩ (.slice none 0 0)).setCell ⟨B+1,1,none⟩ (.slice none 0 0)):=by
        refine hR.out _ _ ?_
        rw[HP.out,hn]
        have b6:Kx (λj=>j=B+1) w5 ((w5.setCell ⟨B+1,0,none⟩ (.slice none 0 0)).setCell ⟨B+1,1,none⟩ (.slice none 0 0)):=bz (S:=λj=>j=B+1) (bz (S:=λj=>j=B+1) (Kx.refl _ w5) rfl 0 _) rfl 1 _
        exact⟨none,0,none,0,0,0,rfl,⟨World.ownsRow_nil _ _ _ _,World.ownsRow_nil _ _ _ _,rfl,rfl⟩,by rw[HB.out];exact b6.low ad.out.ri.low (λj hj=>by omega) (by have:=(Array.getElem?_eq_some_iff.1 ad.out.ri.res).1;omega)⟩
       have cd:=zh bm
       obtain⟨v0,v1,-⟩:=ap (show ((w5.setCell ⟨B+1,0,none⟩ (.slice none 0 0)).setCell ⟨B+1,1,none⟩ (.slice none 0 0)).heap[B+1]?=some (.cells #[.slice none 0 0,.slice none 0 0] 127 (0,0)) from bp)
       clear hR bm hn bp mf
       go_wp2_with fail
       refine bodyPost_end (v:=.tuple #[.agg #[.slice none 0 0,.slice none 0 0],.bool false]) ?_ rfl cd.out
       simp[results,Tryz.results42,go_sem,v0,v1]
      have ht:=bf.out
      rw[if_pos rfl] at ht
      have cj:=zh ht
      have dd:=iY cn.out
      clear ht bf
      go_wp2_with fail
      exact⟨⟨j+1,(ba gk s2).1,bj,by go_num,ad,cj,by omega⟩,by simp[intOf]<;>omega⟩
     have cA:j=4:=by omega
     subst cA
     have i3:¬ (((4:Nat):Int))<4:=by decide
     have ht:=am.out
     have hd:bo (([[119],[119],[119],kN]:List (List UInt8)).drop 4) s2=some s2:=rfl
     rw[hd] at ht
     have cl:=zh ht
     have bI:restW B wr=s2.rest.length:=aa.out.ri.st.restW
     have cp:=zh bI
     clear ht am hd bI
     go_wp2_with fail
     exact⟨⟨m+1,F-1,s2,by go_num,aa,cl,by omega,by omega⟩,by rw[cp.out,cN.out];omega⟩
    have i7:¬ (m:Int)<1:=by omega
    have i9:(0:Int)<(s'.rest.length:Int):=by omega
    skip
    go_wp2_with fail
    go_loopw [61] (λs61 wy=>∃ (j:Nat) (s2:Ta),j<=4/\s61=.int .i64 (j:Int)/\Hid (gy w (λj=>((j<B\/j=B+1)\/j=B+3)\/j=gb) bg B s2 gb [[119],[119],[119],kN] nf K wy)/\Hid (((bo (([[119],[119],[119],kN]:List (List UInt8)).drop j) s2).bind (cY [[119],[119],[119],kN] true (F-1) (1-m-1))).bind (bR (K.drop (k+1)))=T)/\s2.rest.length+j=s'.rest.length) (λs61 _=>4-(intOf s61).toNat)
    case atStart=>exact⟨0,s',by omega,rfl,HR,cL,by omega⟩
    obtain⟨j,s2,hj,rfl,aa,am,c9⟩:=hrel
    by_cases bj:j<4
    ·have ij:(j:Int)<4:=by omega
     obtain⟨b',o',gw,e',cq,a0,qj⟩:=di aa.out.grp (k:=j) (by show j<4;exact bj)
     cases e'
     rw[Nat.zero_add] at qj
     obtain⟨gk,aF⟩:∃ gk,([[119],[119],[119],kN]:List (List UInt8))[j]?=some gk:=⟨_,List.getElem?_eq_getElem (by show j<4;exact bj)⟩
     have bi:gw=⟨gk.toArray⟩:=by
      unfold aP at a0
      rw[List.getElem?_map,aF] at a0
      exact (Option.some.inj a0).symm
     have bw:bo (([[119],[119],[119],kN]:List (List UInt8)).drop j) s2=if (ba gk s2).2 then bo (([[119],[119],[119],kN]:List (List UInt8)).drop (j+1)) (ba gk s2).1 else none:=by
      obtain⟨bt,cx⟩:=List.getElem?_eq_some_iff.1 aF
      rw[List.drop_eq_getElem_cons bt,cx]
      rfl
     have bc:=zh (j6 gw wr _ B (B+2) s2 aa.out.ri.st aa.out.ri.sz (by rw[bi,aO];exact cI.out gk (List.mem_of_getElem? aF)) bg aa.out.ri.gl (λj hj=>.inl (.inl (.inl (by omega)))))
     have bD:gw.data.toList=gk:=by rw[bi]
     rw[bD] at bc
     have a9:=am.out
     rw[bw] at a9
     obtain⟨ok,bk⟩:∃ ok,(ba gk s2).2=ok:=⟨_,rfl⟩
     rw[bk] at bc a9
     have bf:=zh a9
     have cn:=zh bk
     clear aF a0 bw a9 am bi bD bk
     go_wp2_with fail
     refine bc.out.mono ?_
     rintro e w5 ⟨rfl,bS,bE⟩
     have bv:=aa.out.kx bS (aa.out.ri.sz.take gk) bE (λj hj ds=>.inl (.inl (by omega))) hb (.inr rfl) (.inl (.inr rfl))
     have ad:=zh bv
     clear bS bE bv
     cases ok
     ·have hn:T=none:=by
       have h:=bf.out
       rw[if_neg (by decide)] at h
       exact h.symm
      have bp:=aA (i:=1) (v:=.slice none 0 0) (aA (i:=0) (v:=.slice none 0 0) ad.out.ri.res)
      obtain⟨m0,m1,mf⟩:=ap ad.out.ri.res
      have mf0:=mf 0
      have mf1:=mf 1
      have bm:R (.returned (.tuple #[.agg #[.slice none 0 0,.slice none 0 0],.bool false])) ((w5.setCell ⟨B+1,0,none⟩ (.slice none 0 0)).setCell ⟨B+1,1,none⟩ (.slice none 0 0)):=by
       refine hR.out _ _ ?_
       rw[HP.out,hn]
       have b6:Kx (λj=>j=B+1) w5 ((w5.setCell ⟨B+1,0,none⟩ (.slice none 0 0)).setCell ⟨B+1,1,none⟩ (.slice none 0 0)):=bz (S:=λj=>j=B+1) (bz (S:=λj=>j=B+1) (Kx.refl _ w5) rfl 0 _) rfl 1 _
       exact⟨none,0,none,0,0,0,rfl,⟨World.ownsRow_nil _ _ _ _,World.ownsRow_nil _ _ _ _,rfl,rfl⟩,by rw[HB.out];exact b6.low ad.out.ri.low (λj hj=>by omega) (by have:=(Array.getElem?_eq_some_iff.1 ad.out.ri.res).1;omega)⟩
      have cd:=zh bm
      obtain⟨v0,v1,-⟩:=ap (show ((w5.setCell ⟨B+1,0,none⟩ (.slice none 0 0)).setCell ⟨B+1,1,none⟩ (.slice none 0 0)).heap[B+1]?=some (.cells #[.slice none 0 0,.slice none 0 0] 127 (0,0)) from bp)
      clear hR bm hn bp mf
      go_wp2_with fail
      refine bodyPost_end (v:=.tuple #[.agg #[.slice none 0 0,.slice none 0 0],.bool false]) ?_ rfl cd.out
      simp[results,Tryz.results42,go_sem,v0,v1]
     have ht:=bf.out
     rw[if_pos rfl] at ht
     have cj:=zh ht
     have dd:=iY cn.out
     clear ht bf
     go_wp2_with fail
     exact⟨⟨j+1,(ba gk s2).1,bj,by go_num,ad,cj,by omega⟩,by simp[intOf]<;>omega⟩
    have cA:j=4:=by omega
    subst cA
    have i3:¬ (((4:Nat):Int))<4:=by decide
    have ht:=am.out
    have hd:bo (([[119],[119],[119],kN]:List (List UInt8)).drop 4) s2=some s2:=rfl
    rw[hd] at ht
    have cl:=zh ht
    have bI:restW B wr=s2.rest.length:=aa.out.ri.st.restW
    have cp:=zh bI
    clear ht am hd bI
    go_wp2_with fail
    exact⟨⟨m+1,F-1,s2,by go_num,aa,cl,by omega,by omega⟩,by rw[cp.out,cN.out];omega⟩
   have i7:¬ (m:Int)<1:=by omega
   have i8:¬ (true=true/\0<s'.rest.length):=λh=>b5 (.inr h)
   have b9:=bq.out
   rw[show 1-m=0 by omega,kB i8] at b9
   have cV:=zh b9
   have i9:¬ (0:Int)<(s'.rest.length:Int):=by have:¬ 0<s'.rest.length:=λh=>i8 ⟨rfl,h⟩;omega
   clear b5 i8 b9 bq
   go_wp2_with fail
   exact⟨⟨k+1,s',dq,by go_num,zh (HR.out.ri.less (λj hj=>.inl hj) (λj _ bt=>.inl (.inl bt))),cV,zh HR.out.fld⟩,by simp[intOf]<;>omega⟩
  skip
  have b7:=cO.out
  rw[show lN kk=[kk] by unfold lN;rw[if_neg c1,if_neg c2,if_neg c3],show jm kk=false by unfold jm;rw[decide_eq_false c1,decide_eq_false c2,decide_eq_false c3];rfl,show fx kk=1 by unfold fx;rw[if_neg c1]] at b7
  have cT:=zh b7
  have e1:(kd.toList==[110,42])=false:=by rw[ci,beq_eq_false_iff_ne];exact c1
  have e2:(kd.toList==[110,43])=false:=by rw[ci,beq_eq_false_iff_ne];exact c2
  have e3:(kd.toList==[112,111,115,116])=false:=by rw[ci,beq_eq_false_iff_ne];exact c3
  have cI:=zh (show ∀ g∈([kk]:List (List UInt8)),g.length<=1000000 from λg hg=>by
   rw[List.mem_singleton] at hg
   subst hg
   have:=eg.out
   omega)
  have en:kd=⟨kk.toArray⟩:=li e6.out
  have e7:=zh en
  clear ci b7 cO c1 c2 c3 en
  go_wp2_with fail
  have cC:=HI.out
  have bu:=gy.new cC c6.out hb [kk]
  obtain⟨gb,cr⟩:∃ gb,wr.heap.size=gb:=⟨_,rfl⟩
  have d6:B+3<=gb:=by have:=HI.out.st.lt (B+3) (.inr rfl);omega
  skip
  rw[cr] at bu ⊢
  rw[e7.out]
  obtain⟨W4,b8⟩:∃ W4,wr.alloc (.cells #[.string ⟨kk.toArray⟩] 9)=W4:=⟨_,rfl⟩
  have ct:gy w (λj=>((j<B\/j=B+1)\/j=B+3)\/j=gb) bg B s gb [kk] nf K W4:=b8 ▸ bu
  rw[b8]
  have cS:=zh ct
  clear bu ct cC b8 cr
  go_loopw [13] (λs13 wx=>∃ (m F:Nat) (s':Ta),s13=.int .i64 (m:Int)/\Hid (gy w (λj=>((j<B\/j=B+1)\/j=B+3)\/j=gb) bg B s' gb [kk] nf K wx)/\Hid ((cY [kk] false F (1-m) s').bind (bR (K.drop (k+1)))=T)/\1-m+s'.rest.length<=F/\m+s'.rest.length<=1000001) (λ_ wx=>restW B wx)
  case atStart=>exact⟨0,1+s.rest.length,s,rfl,cS,cT,by omega,by have:=HI.out.sz.1;omega⟩
  obtain⟨m,F,s',rfl,HR,bq,hF,hm⟩:=hrel
  obtain⟨A5,c5,q1,-⟩:=HR.out.ri.st.left
  have q0:wr.cell? ⟨B,0,none⟩=some (.slice A5 s'.rest.length c5):=by rw[cell_of_row _ _ 0 _ _ (0,0) q1];rfl
  have cN:=zh HR.out.ri.st.restW
  clear q1
  by_cases b5:m<1\/(false=true/\0<s'.rest.length)
  ·have ca:=bq.out
   rw[lm (by rcases b5 with h|h;exact .inl (by omega);exact .inr h) hF] at ca
   have cL:=zh ca
   clear ca bq
   have eo:m<1:=by
    rcases b5 with h|h
    ·exact h
    exact absurd h.1 (by decide)
   have i7:(m:Int)<1:=by omega
   skip
   go_wp2_with fail
   go_loopw [61] (λs61 wy=>∃ (j:Nat) (s2:Ta),j<=1/\s61=.int .i64 (j:Int)/\Hid (gy w (λj=>((j<B\/j=B+1)\/j=B+3)\/j=gb) bg B s2 gb [kk] nf K wy)/\Hid (((bo (([kk]:List (List UInt8)).drop j) s2).bind (cY [kk] false (F-1) (1-m-1))).bind (bR (K.drop (k+1)))=T)/\s2.rest.length+j=s'.rest.length) (λs61 _=>1-(intOf s61).toNat)
   case atStart=>exact⟨0,s',by omega,rfl,HR,cL,by omega⟩
   obtain⟨j,s2,hj,rfl,aa,am,c9⟩:=hrel
   by_cases bj:j<1
   ·have ij:(j:Int)<1:=by omega
    obtain⟨b',o',gw,e',cq,a0,qj⟩:=di aa.out.grp (k:=j) (by show j<1;exact bj)
    cases e'
    rw[Nat.zero_add] at qj
    obtain⟨gk,aF⟩:∃ gk,([kk]:List (List UInt8))[j]?=some gk:=⟨_,List.getElem?_eq_getElem (by show j<1;exact bj)⟩
    have bi:gw=⟨gk.toArray⟩:=by
     unfold aP at a0
     rw[List.getElem?_map,aF] at a0
     exact (Option.some.inj a0).symm
    have bw:bo (([kk]:List (List UInt8)).drop j) s2=if (ba gk s2).2 then bo (([kk]:List (List UInt8)).drop (j+1)) (ba gk s2).1 else none:=by
     obtain⟨bt,cx⟩:=List.getElem?_eq_some_iff.1 aF
     rw[List.drop_eq_getElem_cons bt,cx]
     rfl
    have bc:=zh (j6 gw wr _ B (B+2) s2 aa.out.ri.st aa.out.ri.sz (by rw[bi,aO];exact cI.out gk (List.mem_of_getElem? aF)) bg aa.out.ri.gl (λj hj=>.inl (.inl (.inl (by omega)))))
    have bD:gw.data.toList=gk:=by rw[bi]
    rw[bD] at bc
    have a9:=am.out
    rw[bw] at a9
    obtain⟨ok,bk⟩:∃ ok,(ba gk s2).2=ok:=⟨_,rfl⟩
    rw[bk] at bc a9
    have bf:=zh a9
    have cn:=zh bk
    clear aF a0 bw a9 am bi bD bk
    go_wp2_with fail
    refine bc.out.mono ?_
    rintro e w5 ⟨rfl,bS,bE⟩
    have bv:=aa.out.kx bS (aa.out.ri.sz.take gk) bE (λj hj ds=>.inl (.inl (by omega))) hb (.inr rfl) (.inl (.inr rfl))
    have ad:=zh bv
    clear bS bE bv
    cases ok
    ·have hn:T=none:=by
      have h:=bf.out
      rw[if_neg (by decide)] at h
      exact h.symm
     have bp:=aA (i:=1) (v:=.slice none 0 0) (aA (i:=0) (v:=.slice none 0 0) ad.out.ri.res)
     obtain⟨m0,m1,mf⟩:=ap ad.out.ri.res
     have mf0:=mf 0
     have mf1:=mf 1
     have bm:R (.returned (.tuple #[.agg #[.slice none 0 0,.slice none 0 0],.bool false])) ((w5.setCell ⟨B+1,0,none⟩ (.slice none 0 0)).setCell ⟨B+1,1,none⟩ (.slice none 0 0)):=by
      refine hR.out _ _ ?_
      rw[HP.out,hn]
      have b6:Kx (λj=>j=B+1) w5 ((w5.setCell ⟨B+1,0,none⟩ (.slice none 0 0)).setCell ⟨B+1,1,none⟩ (.slice none 0 0)):=bz (S:=λj=>j=B+1) (bz (S:=λj=>j=B+1) (Kx.refl _ w5) rfl 0 _) rfl 1 _
      exact⟨none,0,none,0,0,0,rfl,⟨World.ownsRow_nil _ _ _ _,World.ownsRow_nil _ _ _ _,rfl,rfl⟩,by rw[HB.out];exact b6.low ad.out.ri.low (λj hj=>by omega) (by have:=(Array.getElem?_eq_some_iff.1 ad.out.ri.res).1;omega)⟩
     have cd:=zh bm
     obtain⟨v0,v1,-⟩:=ap (show ((w5.setCell ⟨B+1,0,none⟩ (.slice none 0 0)).setCell ⟨B+1,1,none⟩ (.slice none 0 0)).heap[B+1]?=some (.cells #[.slice none 0 0,.slice none 0 0] 127 (0,0)) from bp)
     clear hR bm hn bp mf
     go_wp2_with fail
     refine bodyPost_end (v:=.tuple #[.agg #[.slice none 0 0,.slice none 0 0],.bool false]) ?_ rfl cd.out
     simp[results,Tryz.results42,go_sem,v0,v1]
    have ht:=bf.out
    rw[if_pos rfl] at ht
    have cj:=zh ht
    have dd:=iY cn.out
    clear ht bf
    go_wp2_with fail
    exact⟨⟨j+1,(ba gk s2).1,bj,by go_num,ad,cj,by omega⟩,by simp[intOf]<;>omega⟩
   have cA:j=1:=by omega
   subst cA
   have i3:¬ (((1:Nat):Int))<1:=by decide
   have ht:=am.out
   have hd:bo (([kk]:List (List UInt8)).drop 1) s2=some s2:=rfl
   rw[hd] at ht
   have cl:=zh ht
   have bI:restW B wr=s2.rest.length:=aa.out.ri.st.restW
   have cp:=zh bI
   clear ht am hd bI
   go_wp2_with fail
   exact⟨⟨m+1,F-1,s2,by go_num,aa,cl,by omega,by omega⟩,by rw[cp.out,cN.out];omega⟩
  have i7:¬ (m:Int)<1:=by omega
  have i8:¬ (false=true/\0<s'.rest.length):=λh=>b5 (.inr h)
  have b9:=bq.out
  rw[show 1-m=0 by omega,kB i8] at b9
  have cV:=zh b9
  skip
  clear b5 i8 b9 bq
  go_wp2_with fail
  exact⟨⟨k+1,s',dq,by go_num,zh (HR.out.ri.less (λj hj=>.inl hj) (λj _ bt=>.inl (.inl bt))),cV,zh HR.out.fld⟩,by simp[intOf]<;>omega⟩
 have fc:k=nf:=by omega
 subst fc
 have i1:¬ (k:Int)<(k:Int):=by omega
 have eI:T=some s:=by
  rw[← d3.out,List.drop_of_length_le (by rw[HN.out];exact Nat.le_refl _)]
  rfl
 obtain⟨A5,c5,q1,-⟩:=HI.out.st.left
 obtain⟨A1,c1,A2,c2,r1,r2,r3,r4,r5⟩:=HI.out.st.got
 have q0:wr.cell? ⟨B,0,none⟩=some (.slice A5 s.rest.length c5):=by rw[cell_of_row _ _ 0 _ _ (0,0) q1];rfl
 obtain⟨p0,p1,-⟩:=ap r1
 obtain⟨m0,m1,mf⟩:=ap HI.out.res
 have mf0:=mf 0
 have mf1:=mf 1
 have bp:=aA (i:=1) (v:=.slice A2 s.ns.length c2) (aA (i:=0) (v:=.slice A1 s.ws.length c1) HI.out.res)
 obtain⟨W9,dt⟩:∃ W9,((wr.setCell ⟨B+1,0,none⟩ (.slice A1 s.ws.length c1)).setCell ⟨B+1,1,none⟩ (.slice A2 s.ns.length c2)).drew=W9:=⟨_,rfl⟩
 have e4:W9.heap[B+1]?=some (.cells #[.slice A1 s.ws.length c1,.slice A2 s.ns.length c2] 127 (0,0)):=by
  rw[← dt]
  exact bp
 obtain⟨v0,v1,-⟩:=ap e4
 have b6:Kx (λj=>j=B+1) wr W9:=by
  rw[← dt]
  exact (bz (S:=λj=>j=B+1) (bz (S:=λj=>j=B+1) (Kx.refl _ wr) rfl 0 _) rfl 1 _).drewN 1
 have bm:R (.returned (.tuple #[.agg #[.slice A1 s.ws.length c1,.slice A2 s.ns.length c2],.bool (decide (s.rest.length=0))])) W9:=by
  refine hR.out _ _ ?_
  rw[HP.out,eI]
  have o1:=aH (w:=W9) r2 (λg hg=>b6.block g (by obtain⟨C,hC⟩:=a8 r2 hg;exact (Array.getElem?_eq_some_iff.1 hC).1) (cZ HI.out.res r2 (by decide) g hg))
  have o2:=aH (w:=W9) r4 (λg hg=>b6.block g (by obtain⟨C,hC⟩:=a8 r4 hg;exact (Array.getElem?_eq_some_iff.1 hC).1) (cZ HI.out.res r4 (by decide) g hg))
  exact⟨A1,c1,A2,c2,_,_,rfl,⟨vq o1 (λg hg=>Nat.le_of_not_lt λhl=>r3 g hg (.inl (.inl (by have:=HB.out;omega)))),vq o2 (λg hg=>Nat.le_of_not_lt λhl=>r5 g hg (.inl (.inl (by have:=HB.out;omega)))),rfl,rfl⟩,by rw[HB.out];exact b6.low HI.out.low (λj hj=>by omega) (by have:=(Array.getElem?_eq_some_iff.1 HI.out.res).1;omega)⟩
 have cd:=zh bm
 have e8:=zh dt
 have et:((s.rest.length:Int)==0)=decide (s.rest.length=0):=by
  rw[Bool.eq_iff_iff,beq_iff_eq,decide_eq_true_eq]
  omega
 have fa:=zh et
 have p0':wr.cell? ⟨B+1+1,0,none⟩=some (.slice A1 s.ws.length c1):=p0
 have p1':wr.cell? ⟨B+1+1,1,none⟩=some (.slice A2 s.ns.length c2):=p1
 clear hR bm q1 r1 r2 r3 r4 r5 mf eI p0 p1 bp e4 b6 dt et
 go_wp2_with fail
 go_region
 rw[e8.out,fa.out]
 go_wp2
 refine bodyPost_end (v:=.tuple #[.agg #[.slice A1 s.ws.length c1,.slice A2 s.ns.length c2],.bool (decide (s.rest.length=0))]) ?_ rfl cd.out
 simp[results,Tryz.results42,go_sem,v0,v1]
end
end Go.Proofs.YtgbnicokglpdbaaGreatDoor
