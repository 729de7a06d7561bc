/-
  house.read: the words of a line by a form; conditions: sizes, the form is ASCII, the tables lie below a block.
-/
import Derived.Test.YtjibohkeapdalaaGreatDoorAf
namespace Go.Proofs.YtjibohkeapdalaaGreatDoor
set_option maxHeartbeats 8000000
set_option maxRecDepth 8000
section
open Go.RowKit Go.Shelf
theorem RSt.newPr{W:World}{Pr:Nat->Prop}{pw pa:Nat}{s:Ta}(h:RSt W Pr pw pa s)(o:Obj):RSt (W.alloc o) (λj=>Pr j\/j=W.heap.size) pw pa s:=by
 have hb:=h.below (below_new W o)
 obtain⟨A,c,q1,q2,q3,q4⟩:=hb.left
 obtain⟨A',c',q1',_⟩:=h.left
 obtain⟨A1,c1,A2,c2,r1,r2,r3,r4,r5⟩:=h.got
 have hpw:=(Array.getElem?_eq_some_iff.1 q1').1
 have hpa:=(Array.getElem?_eq_some_iff.1 r1).1
 have k2:∀ g,(Value.slice A1 s.ws.length c1).ownBlock=some g->g<W.heap.size:=λg hg=>by obtain⟨C,hC⟩:=own_blk r2 hg;exact (Array.getElem?_eq_some_iff.1 hC).1
 have k4:∀ g,(Value.slice A2 s.ns.length c2).ownBlock=some g->g<W.heap.size:=λg hg=>by obtain⟨C,hC⟩:=own_blk r4 hg;exact (Array.getElem?_eq_some_iff.1 hC).1
 refine⟨λe=>?_,λe=>?_,h.ne,λj hj=>?_,⟨A,c,q1,q2,q3,λa h1 h2=>⟨.inl (q4 a h1 h2).1,(q4 a h1 h2).2⟩⟩,A1,c1,A2,c2,(heap_alloc_old W o hpa).trans r1,r2.alloc o,λg hg e=>?_,r4.alloc o,λg hg e=>?_⟩
 ·rcases e with e|e
  ·exact h.npw e
  ·omega
 ·rcases e with e|e
  ·exact h.npa e
  ·omega
 ·rcases hj with hj|hj
  ·exact hb.lt j hj
  ·simp;omega
 ·rcases e with e|e
  ·exact r3 g hg e
  ·have:=k2 g hg;omega
 ·rcases e with e|e
  ·exact r5 g hg e
  ·have:=k4 g hg;omega
theorem RSt.less{W:World}{Pr Qr:Nat->Prop}{pw pa:Nat}{s:Ta}(h:RSt W Pr pw pa s)(hq:∀ j,Qr j->Pr j)(hr:∀ j,Pr j->j<pw->Qr j):RSt W Qr pw pa s:=by
 obtain⟨A,c,q1,q2,q3,q4⟩:=h.left
 obtain⟨A1,c1,A2,c2,r1,r2,r3,r4,r5⟩:=h.got
 exact⟨λe=>h.npw (hq _ e),λe=>h.npa (hq _ e),h.ne,λj hj=>h.lt j (hq _ hj),⟨A,c,q1,q2,q3,λa h1 h2=>⟨hr _ (q4 a h1 h2).1 (q4 a h1 h2).2,(q4 a h1 h2).2⟩⟩,A1,c1,A2,c2,r1,r2,λg hg e=>r3 g hg (hq _ e),r4,λg hg e=>r5 g hg (hq _ e)⟩
def restW(pw:Nat)(W:World):Nat:=
 match W.cell? ⟨pw,0,none⟩ with
 |some (.slice _ n _)=>n
 |_=>0
theorem RSt.restW{W:World}{Pr:Nat->Prop}{pw pa:Nat}{s:Ta}(h:RSt W Pr pw pa s):restW pw W=s.rest.length:=by
 obtain⟨A,c,q1,_⟩:=h.left
 have q0:W.cell? ⟨pw,0,none⟩=some (.slice A s.rest.length c):=by rw[cell_of_row _ _ 0 _ _ (0,0) q1];rfl
 unfold Go.Proofs.YtjibohkeapdalaaGreatDoor.restW
 rw[q0]
structure RdI(w:World)(Pr:Nat->Prop)(bg:Nat)(B:Nat)(s:Ta)(W:World):Prop where
 st:RSt W Pr B (B+2) s
 sz:TaZ s
 low:Below B w W
 gl:Gl bg W
 res:W.heap[B+1]?=some (.cells #[.slice none 0 0,.slice none 0 0] 182 (0,0))
theorem RdI.kx{w W W':World}{Pr:Nat->Prop}{bg B:Nat}{s s':Ta}(h:RdI w Pr bg B s W)(hst:RSt W' Pr B (B+2) s')(hz:TaZ s')(hk:Kx (λj=>¬ Pr j) W W')(hB:∀ j,j<=B+1->j≠B->Pr j)(hb:bg<=B):RdI w Pr bg B s' W':=
 ⟨hst,hz,hk.low h.low (λj hj=>Nat.le_of_not_lt λhl=>hj (hB j (by omega) (by omega))) (Nat.le_of_lt (by have:=(Array.getElem?_eq_some_iff.1 h.res).1;omega)),
  h.gl.kx hk (λj hj=>Nat.le_of_not_lt λhl=>hj (hB j (by omega) (by omega))) (by have:=(Array.getElem?_eq_some_iff.1 h.res).1;omega),
  (hk.block _ (Array.getElem?_eq_some_iff.1 h.res).1 (λhn=>hn (hB _ (by omega) (by omega)))).trans h.res⟩
theorem RdI.below{w W W':World}{Pr:Nat->Prop}{bg B:Nat}{s:Ta}(h:RdI w Pr bg B s W)(k:Below W.heap.size W W')(hb:bg<=B):RdI w Pr bg B s W':=
 have hs:=(Array.getElem?_eq_some_iff.1 h.res).1
 ⟨h.st.below k,h.sz,h.low.trans (k.mono (by omega)),h.gl.on (k.mono (by omega)),(k.block _ hs).trans h.res⟩
theorem RdI.newPr{w W:World}{Pr:Nat->Prop}{bg B:Nat}{s:Ta}(h:RdI w Pr bg B s W)(o:Obj)(hb:bg<=B):RdI w (λj=>Pr j\/j=W.heap.size) bg B s (W.alloc o):=
 have h2:=h.below (below_new W o) hb
 ⟨h.st.newPr o,h2.sz,h2.low,h2.gl,h2.res⟩
theorem RdI.less{w W:World}{Pr Qr:Nat->Prop}{bg B:Nat}{s:Ta}(h:RdI w Pr bg B s W)(hq:∀ j,Qr j->Pr j)(hr:∀ j,Pr j->j<B->Qr j):RdI w Qr bg B s W:=⟨h.st.less hq hr,h.sz,h.low,h.gl,h.res⟩
structure RdG(w:World)(Pr:Nat->Prop)(bg B:Nat)(s:Ta)(gb:Nat)(G:List (List UInt8))(nf:Nat)(K:List (List UInt8))(W:World):Prop where
 ri:RdI w Pr bg B s W
 grp:SlE strE 1 W (some ⟨gb,0,none⟩) G.length (strL G)
 fld:SlE strE 1 W (some ⟨B+3,0,none⟩) nf (strL K)
theorem RdG.new{w W:World}{Pr:Nat->Prop}{bg B nf:Nat}{s:Ta}{K:List (List UInt8)}(h:RdI w Pr bg B s W)(hf:SlE strE 1 W (some ⟨B+3,0,none⟩) nf (strL K))(hb:bg<=B)(G:List (List UInt8)) :
 RdG w (λj=>Pr j\/j=W.heap.size) bg B s W.heap.size G nf K (W.alloc (.cells ((strL G).map Value.string).toArray 9)):=
 ⟨h.newPr _ hb,by have:=str_new W (strL G);unfold strL at this ⊢;rw[List.length_map] at this;exact this,hf.alloc _⟩
theorem RdG.kx{w W W':World}{Pr:Nat->Prop}{bg B gb nf:Nat}{s s':Ta}{G K:List (List UInt8)}(h:RdG w Pr bg B s gb G nf K W)(hst:RSt W' Pr B (B+2) s')(hz:TaZ s')(hk:Kx (λj=>¬ Pr j) W W')(hB:∀ j,j<=B+1->j≠B->Pr j)(hb:bg<=B)(h1:Pr gb)(h2:Pr (B+3)):RdG w Pr bg B s' gb G nf K W':=
 ⟨h.ri.kx hst hz hk hB hb,
  h.grp.low (λa hn ha=>by cases ha;exact hk.block _ (by obtain⟨b',o',e',hb',_⟩:=h.grp.2.2 hn;cases e';exact hb') (λhn=>hn h1)) hk.size,
  h.fld.low (λa hn ha=>by cases ha;exact hk.block _ (by obtain⟨b',o',e',hb',_⟩:=h.fld.2.2 hn;cases e';exact hb') (λhn=>hn h2)) hk.size⟩
theorem loopK_end{G:List (List UInt8)}{M:Bool}{F:Nat}{s:Ta}(h:¬ (M=true/\0<s.rest.length)):loopK G M F 0 s=some s:=by
 cases F with
 |zero=>rfl
 |succ F =>
  unfold loopK
  rw[if_neg]
  rintro (h'|h')
  ·exact absurd h' (by decide)
  ·exact h h'
theorem loopK_step{G:List (List UInt8)}{M:Bool}{F L:Nat}{s:Ta}(h:0<L\/(M=true/\0<s.rest.length))(hF:L+s.rest.length<=F):loopK G M F L s=(takeG G s).bind (loopK G M (F-1) (L-1)):=by
 cases F with
 |zero=>omega
 |succ F =>
  unfold loopK
  rw[if_pos h]
  rfl
structure ArgsW(B:Nat)(W:World)(A1:Option Addr)(n1 c1:Nat)(A2:Option Addr)(n2 c2:Nat)(ws:List (List UInt8))(ns:List Int):Prop where
 o1:W.ownsRow B 9 1 (.slice A1 n1 c1) n1 ((strL ws).flatMap strE)
 o2:W.ownsRow B 3 1 (.slice A2 n2 c2) n2 (ns.flatMap intE)
 l1:n1=ws.length
 l2:n2=ns.length
theorem own_raise{W:World}{B e sz n:Nat}{v:Value}{xs:List Value}(h:W.ownsRow 0 e sz v n xs)(hg:∀ g,v.ownBlock=some g->B<=g):W.ownsRow B e sz v n xs:=by
 refine⟨h.1,?_⟩
 rcases h.2 with h0|⟨g,c,cur,hv,h1,h2,h3⟩
 ·exact .inl h0
 ·subst hv
  exact .inr ⟨g,c,cur,rfl,hg g (by simp[Value.ownBlock]),h2,h3⟩
theorem own_cap{W:World}{B e sz n m c:Nat}{A:Option Addr}{xs:List Value}(h:W.ownsRow B e sz (.slice A n c) m xs):n<=c/\c<=maxLen:=by
 rcases h.2 with⟨hv,hk0⟩|⟨g,cc,cur,hv,_,_,hle,hmx,_⟩
 ·simp only[Value.slice.injEq] at hv
  omega
 ·simp only[Value.slice.injEq] at hv
  omega
section
variable{B B':Nat}{W w:World}{A1 A2:Option Addr}{n1 c1 n2 c2:Nat}{ws:List (List UInt8)}{ns:List Int}{S:Nat->Prop}
theorem ArgsW.s1(h:ArgsW B W A1 n1 c1 A2 n2 c2 ws ns):SlE strE 1 W A1 n1 (strL ws):=SlE.of_own h.o1 (by unfold strL;rw[List.length_map];exact h.l1)
theorem ArgsW.s2(h:ArgsW B W A1 n1 c1 A2 n2 c2 ws ns):SlE intE 1 W A2 n2 ns:=SlE.of_own h.o2 h.l2
theorem ArgsW.kx(h:ArgsW B W A1 n1 c1 A2 n2 c2 ws ns)(k:Kx S W w)(hs:∀ j,S j->j<B):ArgsW B w A1 n1 c1 A2 n2 c2 ws ns:=
 ⟨own_heap h.o1 (λg hg=>k.block g (own_lt h.o1 hg) (λe=>by have:=hs g e;have:=(h.o1.lt g hg).1;omega)),own_heap h.o2 (λg hg=>k.block g (own_lt h.o2 hg) (λe=>by have:=hs g e;have:=(h.o2.lt g hg).1;omega)),h.l1,h.l2⟩
theorem ArgsW.below(h:ArgsW B W A1 n1 c1 A2 n2 c2 ws ns)(k:Below W.heap.size W w):ArgsW B w A1 n1 c1 A2 n2 c2 ws ns:=h.kx (S:=λ_=>False) (kx_of_below k) (λ_ e=>e.elim)
theorem ArgsW.mono(h:ArgsW B W A1 n1 c1 A2 n2 c2 ws ns)(hB:B'<=B):ArgsW B' W A1 n1 c1 A2 n2 c2 ws ns:=⟨own_mono h.o1 hB,own_mono h.o2 hB,h.l1,h.l2⟩
end
theorem hread_any(form:ByteArray)(A:Option Addr)(n c:Nat)(words:List (List UInt8))(w:World)(hX:SlE strE 1 w A n (strL words))(hc:n<=c)(hz:TaZ ⟨words,[],[]⟩)(hfs:form.size<=1000)(ha:∀ (j:Nat) b,form.data.toList[j]?=some b->b.toNat<128)(hk:∀ k∈Lib.fields form.data.toList,k.length<=1000)(hkl:(Lib.fields form.data.toList).length<=1000)(bg:Nat)(hg:Gl bg w)(hb:bg<=w.heap.size) :
 Calls Tryz.prog 67 #[.string form,.slice A n c] w λe w'=>∃ A1 c1 A2 c2 n1 n2,e=.returned (.tuple #[.agg #[.slice A1 n1 c1,.slice A2 n2 c2],.bool (readP form.data.toList words).2.2])/\ArgsW w.heap.size w' A1 n1 c1 A2 n2 c2 (readP form.data.toList words).1 (readP form.data.toList words).2.1/\Below w.heap.size w w':=by
 refine calls_cps ?_
 intro R hR
 have HX:=zh hX
 have HZ:=zh hz
 have HG:=zh hg
 have Hn:=zh hX.1
 have HK:=zh hk
 obtain⟨B,hB⟩:∃ B,w.heap.size=B:=⟨_,rfl⟩
 have HB:=zh hB
 rw[hB] at hb
 clear hX hz hg hB hk
 go_enter Tryz.func67,Tryz.ntmps67
 go_wp2_with fail
 rw[HB.out]
 obtain⟨W1,hW1⟩:∃ W1,(((w.alloc (.cells #[.slice A n c] 173)).alloc (.cells #[.slice none 0 0,.slice none 0 0] 182)).alloc (.cells #[.slice none 0 0,.slice none 0 0] 182))=W1:=⟨_,rfl⟩
 have hsz1:W1.heap.size=B+3:=by rw[← hW1];simp;have:=HB.out;omega
 have h0:=heap_alloc_new w (.cells #[.slice A n c] 173)
 have h1:=heap_alloc_new (w.alloc (.cells #[.slice A n c] 173)) (.cells #[.slice none 0 0,.slice none 0 0] 182)
 have h2:=heap_alloc_new ((w.alloc (.cells #[.slice A n c] 173)).alloc (.cells #[.slice none 0 0,.slice none 0 0] 182)) (.cells #[.slice none 0 0,.slice none 0 0] 182)
 have b0:=below_new w (.cells #[.slice A n c] 173)
 have b1:=below_new (w.alloc (.cells #[.slice A n c] 173)) (.cells #[.slice none 0 0,.slice none 0 0] 182)
 have b2:=below_new ((w.alloc (.cells #[.slice A n c] 173)).alloc (.cells #[.slice none 0 0,.slice none 0 0] 182)) (.cells #[.slice none 0 0,.slice none 0 0] 182)
 have eB:=HB.out
 rw[hW1] at h2 b2 ⊢
 simp only[World.size_alloc,eB] at h0 h1 h2 b0 b1 b2
 have k0:W1.heap[B]?=_:=(b2.block B (by omega)).trans ((b1.block B (by omega)).trans h0)
 have k1:W1.heap[B+1]?=_:=(b2.block (B+1) (by omega)).trans h1
 have hlow:Below B w W1:=b0.trans ((b1.mono (by omega)).trans (b2.mono (by omega)))
 have hA:∀ a,0<n->A=some a->a.block<B:=λa hn ha=>by
  obtain⟨b',o',e',hb',_⟩:=HX.out.2.2 hn
  rw[ha] at e'
  cases e'
  show b'<B
  omega
 have HF:=zh (fields_any form W1 bg (HG.out.on (hlow.mono hb)) (by omega) ha)
 have HW:=zh (show ∀ w2,Below W1.heap.size W1 w2->W1.heap.size<w2.heap.size->RdI w (λj=>(j<B\/j=B+1)\/j=B+3) bg B ⟨words,[],[]⟩ w2 from λw2 hb2 hs2=>by
  have hn:=HX.out.1
  have e1:n=words.length:=by rw[hn];unfold strL;rw[List.length_map]
  refine⟨⟨by simp,by omega,by omega,λj hj=>by have:=hb2.size;omega,⟨A,c,?_,?_,by dsimp only;omega,λa h1 h2=>?_⟩,none,0,none,0,?_,World.ownsRow_nil _ _ _ _,λg hg=>by simp[Value.ownBlock] at hg,World.ownsRow_nil _ _ _ _,λg hg=>by simp[Value.ownBlock] at hg⟩,HZ.out,hlow.trans (hb2.mono (by omega)),HG.out.on ((hlow.mono hb).trans (hb2.mono (by omega))),?_⟩
  ·dsimp only
   rw[← e1]
   exact (hb2.block B (by omega)).trans k0
  ·dsimp only
   rw[← e1]
   exact (HX.out.below (eB ▸ hlow)).below hb2
  ·dsimp only at h1
   have:=hA a (by omega) h2
   exact⟨.inl (.inl this),this⟩
  ·exact (hb2.block (B+2) (by omega)).trans h2
  ·exact (hb2.block (B+1) (by omega)).trans k1)
 have Hsz1:=zh hsz1
 clear h0 h1 h2 b0 b1 b2 k0 k1 hlow hA hsz1 hW1 ha
 obtain⟨K,hK⟩:∃ K,Lib.fields form.data.toList=K:=⟨_,rfl⟩
 rw[hK] at HF HK hkl
 obtain⟨T,hT⟩:∃ T,readK K ⟨words,[],[]⟩=T:=⟨_,rfl⟩
 have HT:=zh hT
 have HP:=zh (show readP form.data.toList words=finP T by
  unfold readP
  rw[hK,hT])
 clear hK hT
 refine HF.out.mono ?_
 rintro e w2 ⟨nf,cf,rfl,hxf,hsf,hbf⟩
 have hnf:nf=K.length:=by rw[hxf.1];unfold strL;rw[List.length_map]
 have hnf2:nf<=1000:=by omega
 have HN:=zh hnf
 rw[Hsz1.out] at hxf
 have HXF:=zh hxf
 have HI2:=zh (HW.out w2 hbf hsf)
 clear hxf hnf hsf hbf
 go_wp2_with fail
 rw[Hsz1.out]
 go_loopw [20] (λs20 wr=>∃ (k:Nat) (s:Ta),k<=nf/\s20=.int .i64 (k:Int)/\Hid (RdI w (λj=>(j<B\/j=B+1)\/j=B+3) bg B s wr)/\Hid (readK (K.drop k) s=T)/\Hid (SlE strE 1 wr (some ⟨B+3,0,none⟩) nf (strL K))) (λs20 _=>nf-(intOf s20).toNat)
 case atStart=>exact⟨0,_,Nat.zero_le _,rfl,HI2,HT,HXF⟩
 case round =>
  obtain⟨k,s,hk,rfl,HI,HTk,HXf⟩:=hrel
  by_cases hlt:k<nf
  ·obtain⟨b',o',kd,e',hb',hkd,q0⟩:=strs_at HXf.out hlt
   cases e'
   rw[Nat.zero_add] at q0
   have i1:(k:Int)<(nf:Int):=by omega
   have hkl2:k<K.length:=by have:=HN.out;omega
   have hkd2:kd=⟨K[k].toArray⟩:=by
    unfold strL at hkd
    rw[List.getElem?_map,List.getElem?_eq_getElem hkl2] at hkd
    exact (Option.some.inj hkd).symm
   obtain⟨kk,hkk⟩:∃ kk,K[k]=kk:=⟨_,rfl⟩
   have hstep:readK (K.drop k) s=(loopK (grpK kk) (moreK kk) (leastK kk+s.rest.length) (leastK kk) s).bind (readK (K.drop (k+1))):=by
    rw[List.drop_eq_getElem_cons hkl2,hkk]
    rfl
   rw[hkk] at hkd2
   have hTk:=HTk.out
   rw[hstep] at hTk
   have HTk2:=zh hTk
   have HKK:=zh (HK.out kk (by rw[← hkk];exact List.getElem_mem hkl2))
   clear hstep hTk HTk hkk hkd
   have hkt:kd.toList=kk:=by rw[hkd2,Lib.toList_data]
   have hkds:kd.size<=1000:=by
    rw[ba_size,hkd2]
    exact HKK.out
   have HKd:=zh (show kd.data.toList=kk by rw[hkd2])
   clear hkd2
   by_cases c1:kk=kS
   ·skip
    subst c1
    have hT4:=HTk2.out
    rw[show grpK kS=[kN] by decide,show moreK kS=true by decide,show leastK kS=0 by decide] at hT4
    have HT4:=zh hT4
    have e1:(kd.toList==[110,42])=true:=by rw[hkt];decide
    clear hkt hT4 HTk2
    go_wp2_with fail
    have HGs:=zh (show ∀ g∈([kN]:List (List UInt8)),g.length<=1000000 by decide)
    have hri:=HI.out.below (below_new wr (.cells #[.string kd] 9)) hb
    have hgr:=RdG.new hri (HXf.out.alloc _) hb [kN]
    obtain⟨gb,hgb⟩:∃ gb,wr.heap.size+1=gb:=⟨_,rfl⟩
    have hgb3:B+3<=gb:=by have:=HI.out.st.lt (B+3) (.inr rfl);omega
    rw[World.size_alloc] at hgr
    rw[hgb] at hgr ⊢
    skip
    obtain⟨W4,hW4⟩:∃ W4,(wr.alloc (.cells #[.string kd] 9)).alloc (.cells #[.string ⟨#[110]⟩] 9)=W4:=⟨_,rfl⟩
    have hgr4:RdG w (λj=>((j<B\/j=B+1)\/j=B+3)\/j=gb) bg B s gb [kN] nf K W4:=hW4 ▸ hgr
    rw[hW4]
    have HG4:=zh hgr4
    clear hgr hgr4 hri hW4 hgb
    go_loopw [13] (λs13 wx=>∃ (m F:Nat) (s':Ta),s13=.int .i64 (m:Int)/\Hid (RdG w (λj=>((j<B\/j=B+1)\/j=B+3)\/j=gb) bg B s' gb [kN] nf K wx)/\Hid ((loopK [kN] true F (0-m) s').bind (readK (K.drop (k+1)))=T)/\0-m+s'.rest.length<=F/\m+s'.rest.length<=1000001) (λ_ wx=>restW B wx)
    case atStart=>exact⟨0,0+s.rest.length,s,rfl,HG4,HT4,by omega,by have:=HI.out.sz.1;omega⟩
    case round =>
     obtain⟨m,F,s',rfl,HR,HTm,hF,hm⟩:=hrel
     obtain⟨A5,c5,q1,-⟩:=HR.out.ri.st.left
     have q0:wr.cell? ⟨B,0,none⟩=some (.slice A5 s'.rest.length c5):=by rw[cell_of_row _ _ 0 _ _ (0,0) q1];rfl
     have Hr0:=zh HR.out.ri.st.restW
     clear q1
     by_cases hcond:m<0\/(true=true/\0<s'.rest.length)
     ·have htr:=HTm.out
      rw[loopK_step (by rcases hcond with h|h;exact .inl (by omega);exact .inr h) hF] at htr
      have HTr:=zh htr
      clear htr HTm
      ·have i7:¬ (m:Int)<0:=by omega
       have i9:(0:Int)<(s'.rest.length:Int):=by omega
       skip
       go_wp2_with fail
       go_loopw [61] (λs61 wy=>∃ (j:Nat) (s2:Ta),j<=1/\s61=.int .i64 (j:Int)/\Hid (RdG w (λj=>((j<B\/j=B+1)\/j=B+3)\/j=gb) bg B s2 gb [kN] nf K wy)/\Hid (((takeG (([kN]:List (List UInt8)).drop j) s2).bind (loopK [kN] true (F-1) (0-m-1))).bind (readK (K.drop (k+1)))=T)/\s2.rest.length+j=s'.rest.length) (λs61 _=>1-(intOf s61).toNat)
       case atStart=>exact⟨0,s',by omega,rfl,HR,HTr,by omega⟩
       case round =>
        obtain⟨j,s2,hj,rfl,HR2,HT2,hl2⟩:=hrel
        by_cases hlj:j<1
        ·have ij:(j:Int)<1:=by omega
         obtain⟨b',o',gw,e',hb',hgw,qj⟩:=strs_at HR2.out.grp (k:=j) (by show j<1;exact hlj)
         cases e'
         rw[Nat.zero_add] at qj
         obtain⟨gk,hgk⟩:∃ gk,([kN]:List (List UInt8))[j]?=some gk:=⟨_,List.getElem?_eq_getElem (by show j<1;exact hlj)⟩
         have hgw2:gw=⟨gk.toArray⟩:=by
          unfold strL at hgw
          rw[List.getElem?_map,hgk] at hgw
          exact (Option.some.inj hgw).symm
         have hdrop:takeG (([kN]:List (List UInt8)).drop j) s2=if (takeP gk s2).2 then takeG (([kN]:List (List UInt8)).drop (j+1)) (takeP gk s2).1 else none:=by
          obtain⟨hj2,hj3⟩:=List.getElem?_eq_some_iff.1 hgk
          rw[List.drop_eq_getElem_cons hj2,hj3]
          rfl
         have HTK:=zh (take_any gw wr _ B (B+2) s2 HR2.out.ri.st HR2.out.ri.sz (by rw[hgw2,ba_size];exact HGs.out gk (List.mem_of_getElem? hgk)) bg HR2.out.ri.gl (λj hj=>.inl (.inl (.inl (by omega)))))
         have hgwS:gw.data.toList=gk:=by rw[hgw2]
         rw[hgwS] at HTK
         have ht2:=HT2.out
         rw[hdrop] at ht2
         obtain⟨ok,hok⟩:∃ ok,(takeP gk s2).2=ok:=⟨_,rfl⟩
         rw[hok] at HTK ht2
         have Ht2:=zh ht2
         have Hok:=zh hok
         clear hgk hgw hdrop ht2 HT2 hgw2 hgwS hok
         go_wp2_with fail
         refine HTK.out.mono ?_
         rintro e w5 ⟨rfl,hst5,hk5⟩
         have hR5:=HR2.out.kx hst5 (HR2.out.ri.sz.take gk) hk5 (λj hj hne=>.inl (.inl (by omega))) hb (.inr rfl) (.inl (.inr rfl))
         have HR5:=zh hR5
         clear hst5 hk5 hR5
         cases ok
         ·have hn:T=none:=by
           have h:=Ht2.out
           rw[if_neg (by decide)] at h
           exact h.symm
          have hw9:=hset (i:=1) (v:=.slice none 0 0) (hset (i:=0) (v:=.slice none 0 0) HR5.out.ri.res)
          obtain⟨m0,m1,mf⟩:=cells2 HR5.out.ri.res
          have mf0:=mf 0
          have mf1:=mf 1
          have hpost:R (.returned (.tuple #[.agg #[.slice none 0 0,.slice none 0 0],.bool false])) ((w5.setCell ⟨B+1,0,none⟩ (.slice none 0 0)).setCell ⟨B+1,1,none⟩ (.slice none 0 0)):=by
           refine hR.out _ _ ?_
           rw[HP.out,hn]
           have hk9:Kx (λj=>j=B+1) w5 ((w5.setCell ⟨B+1,0,none⟩ (.slice none 0 0)).setCell ⟨B+1,1,none⟩ (.slice none 0 0)):=kx_set (S:=λj=>j=B+1) (kx_set (S:=λj=>j=B+1) (Kx.refl _ w5) rfl 0 _) rfl 1 _
           exact⟨none,0,none,0,0,0,rfl,⟨World.ownsRow_nil _ _ _ _,World.ownsRow_nil _ _ _ _,rfl,rfl⟩,by rw[HB.out];exact hk9.low HR5.out.ri.low (λj hj=>by omega) (by have:=(Array.getElem?_eq_some_iff.1 HR5.out.ri.res).1;omega)⟩
          have HPost:=zh hpost
          obtain⟨v0,v1,-⟩:=cells2 (show ((w5.setCell ⟨B+1,0,none⟩ (.slice none 0 0)).setCell ⟨B+1,1,none⟩ (.slice none 0 0)).heap[B+1]?=some (.cells #[.slice none 0 0,.slice none 0 0] 182 (0,0)) from hw9)
          clear hR hpost hn hw9 mf
          go_wp2_with fail
          refine bodyPost_end (v:=.tuple #[.agg #[.slice none 0 0,.slice none 0 0],.bool false]) ?_ rfl HPost.out
          simp[results,Tryz.results67,go_sem,v0,v1]
         ·have ht:=Ht2.out
          rw[if_pos rfl] at ht
          have HT5:=zh ht
          have hl5:=take_less Hok.out
          clear ht Ht2
          go_wp2_with fail
          exact⟨⟨j+1,(takeP gk s2).1,hlj,by go_num,HR5,HT5,by omega⟩,by simp[intOf]<;>omega⟩
        ·have hjn:j=1:=by omega
         subst hjn
         have i3:¬ (((1:Nat):Int))<1:=by decide
         have ht:=HT2.out
         have hd:takeG (([kN]:List (List UInt8)).drop 1) s2=some s2:=rfl
         rw[hd] at ht
         have HT6:=zh ht
         have hrest:restW B wr=s2.rest.length:=HR2.out.ri.st.restW
         have Hrest:=zh hrest
         clear ht HT2 hd hrest
         go_wp2_with fail
         exact⟨⟨m+1,F-1,s2,by go_num,HR2,HT6,by omega,by omega⟩,by rw[Hrest.out,Hr0.out];omega⟩
     ·have i7:¬ (m:Int)<0:=by omega
      have i8:¬ (true=true/\0<s'.rest.length):=λh=>hcond (.inr h)
      have hte:=HTm.out
      rw[show 0-m=0 by omega,loopK_end i8] at hte
      have HTe:=zh hte
      have i9:¬ (0:Int)<(s'.rest.length:Int):=by have:¬ 0<s'.rest.length:=λh=>i8 ⟨rfl,h⟩;omega
      clear hcond i8 hte HTm
      go_wp2_with fail
      exact⟨⟨k+1,s',hlt,by go_num,zh (HR.out.ri.less (λj hj=>.inl hj) (λj _ hj2=>.inl (.inl hj2))),HTe,zh HR.out.fld⟩,by simp[intOf]<;>omega⟩
   by_cases c2:kk=kP
   ·skip
    subst c2
    have hT4:=HTk2.out
    rw[show grpK kP=[kN] by decide,show moreK kP=true by decide,show leastK kP=1 by decide] at hT4
    have HT4:=zh hT4
    have e1:(kd.toList==[110,42])=false:=by rw[hkt];decide
    have e2:(kd.toList==[110,43])=true:=by rw[hkt];decide
    clear hkt hT4 HTk2
    go_wp2_with fail
    have HGs:=zh (show ∀ g∈([kN]:List (List UInt8)),g.length<=1000000 by decide)
    have hri:=HI.out.below (below_new wr (.cells #[.string kd] 9)) hb
    have hgr:=RdG.new hri (HXf.out.alloc _) hb [kN]
    obtain⟨gb,hgb⟩:∃ gb,wr.heap.size+1=gb:=⟨_,rfl⟩
    have hgb3:B+3<=gb:=by have:=HI.out.st.lt (B+3) (.inr rfl);omega
    rw[World.size_alloc] at hgr
    rw[hgb] at hgr ⊢
    skip
    obtain⟨W4,hW4⟩:∃ W4,(wr.alloc (.cells #[.string kd] 9)).alloc (.cells #[.string ⟨#[110]⟩] 9)=W4:=⟨_,rfl⟩
    have hgr4:RdG w (λj=>((j<B\/j=B+1)\/j=B+3)\/j=gb) bg B s gb [kN] nf K W4:=hW4 ▸ hgr
    rw[hW4]
    have HG4:=zh hgr4
    clear hgr hgr4 hri hW4 hgb
    go_loopw [13] (λs13 wx=>∃ (m F:Nat) (s':Ta),s13=.int .i64 (m:Int)/\Hid (RdG w (λj=>((j<B\/j=B+1)\/j=B+3)\/j=gb) bg B s' gb [kN] nf K wx)/\Hid ((loopK [kN] true F (1-m) s').bind (readK (K.drop (k+1)))=T)/\1-m+s'.rest.length<=F/\m+s'.rest.length<=1000001) (λ_ wx=>restW B wx)
    case atStart=>exact⟨0,1+s.rest.length,s,rfl,HG4,HT4,by omega,by have:=HI.out.sz.1;omega⟩
    case round =>
     obtain⟨m,F,s',rfl,HR,HTm,hF,hm⟩:=hrel
     obtain⟨A5,c5,q1,-⟩:=HR.out.ri.st.left
     have q0:wr.cell? ⟨B,0,none⟩=some (.slice A5 s'.rest.length c5):=by rw[cell_of_row _ _ 0 _ _ (0,0) q1];rfl
     have Hr0:=zh HR.out.ri.st.restW
     clear q1
     by_cases hcond:m<1\/(true=true/\0<s'.rest.length)
     ·have htr:=HTm.out
      rw[loopK_step (by rcases hcond with h|h;exact .inl (by omega);exact .inr h) hF] at htr
      have HTr:=zh htr
      clear htr HTm
      by_cases hmL:m<1
      ·have i7:(m:Int)<1:=by omega
       skip
       go_wp2_with fail
       go_loopw [61] (λs61 wy=>∃ (j:Nat) (s2:Ta),j<=1/\s61=.int .i64 (j:Int)/\Hid (RdG w (λj=>((j<B\/j=B+1)\/j=B+3)\/j=gb) bg B s2 gb [kN] nf K wy)/\Hid (((takeG (([kN]:List (List UInt8)).drop j) s2).bind (loopK [kN] true (F-1) (1-m-1))).bind (readK (K.drop (k+1)))=T)/\s2.rest.length+j=s'.rest.length) (λs61 _=>1-(intOf s61).toNat)
       case atStart=>exact⟨0,s',by omega,rfl,HR,HTr,by omega⟩
       case round =>
        obtain⟨j,s2,hj,rfl,HR2,HT2,hl2⟩:=hrel
        by_cases hlj:j<1
        ·have ij:(j:Int)<1:=by omega
         obtain⟨b',o',gw,e',hb',hgw,qj⟩:=strs_at HR2.out.grp (k:=j) (by show j<1;exact hlj)
         cases e'
         rw[Nat.zero_add] at qj
         obtain⟨gk,hgk⟩:∃ gk,([kN]:List (List UInt8))[j]?=some gk:=⟨_,List.getElem?_eq_getElem (by show j<1;exact hlj)⟩
         have hgw2:gw=⟨gk.toArray⟩:=by
          unfold strL at hgw
          rw[List.getElem?_map,hgk] at hgw
          exact (Option.some.inj hgw).symm
         have hdrop:takeG (([kN]:List (List UInt8)).drop j) s2=if (takeP gk s2).2 then takeG (([kN]:List (List UInt8)).drop (j+1)) (takeP gk s2).1 else none:=by
          obtain⟨hj2,hj3⟩:=List.getElem?_eq_some_iff.1 hgk
          rw[List.drop_eq_getElem_cons hj2,hj3]
          rfl
         have HTK:=zh (take_any gw wr _ B (B+2) s2 HR2.out.ri.st HR2.out.ri.sz (by rw[hgw2,ba_size];exact HGs.out gk (List.mem_of_getElem? hgk)) bg HR2.out.ri.gl (λj hj=>.inl (.inl (.inl (by omega)))))
         have hgwS:gw.data.toList=gk:=by rw[hgw2]
         rw[hgwS] at HTK
         have ht2:=HT2.out
         rw[hdrop] at ht2
         obtain⟨ok,hok⟩:∃ ok,(takeP gk s2).2=ok:=⟨_,rfl⟩
         rw[hok] at HTK ht2
         have Ht2:=zh ht2
         have Hok:=zh hok
         clear hgk hgw hdrop ht2 HT2 hgw2 hgwS hok
         go_wp2_with fail
         refine HTK.out.mono ?_
         rintro e w5 ⟨rfl,hst5,hk5⟩
         have hR5:=HR2.out.kx hst5 (HR2.out.ri.sz.take gk) hk5 (λj hj hne=>.inl (.inl (by omega))) hb (.inr rfl) (.inl (.inr rfl))
         have HR5:=zh hR5
         clear hst5 hk5 hR5
         cases ok
         ·have hn:T=none:=by
           have h:=Ht2.out
           rw[if_neg (by decide)] at h
           exact h.symm
          have hw9:=hset (i:=1) (v:=.slice none 0 0) (hset (i:=0) (v:=.slice none 0 0) HR5.out.ri.res)
          obtain⟨m0,m1,mf⟩:=cells2 HR5.out.ri.res
          have mf0:=mf 0
          have mf1:=mf 1
          have hpost:R (.returned (.tuple #[.agg #[.slice none 0 0,.slice none 0 0],.bool false])) ((w5.setCell ⟨B+1,0,none⟩ (.slice none 0 0)).setCell ⟨B+1,1,none⟩ (.slice none 0 0)):=by
           refine hR.out _ _ ?_
           rw[HP.out,hn]
           have hk9:Kx (λj=>j=B+1) w5 ((w5.setCell ⟨B+1,0,none⟩ (.slice none 0 0)).setCell ⟨B+1,1,none⟩ (.slice none 0 0)):=kx_set (S:=λj=>j=B+1) (kx_set (S:=λj=>j=B+1) (Kx.refl _ w5) rfl 0 _) rfl 1 _
           exact⟨none,0,none,0,0,0,rfl,⟨World.ownsRow_nil _ _ _ _,World.ownsRow_nil _ _ _ _,rfl,rfl⟩,by rw[HB.out];exact hk9.low HR5.out.ri.low (λj hj=>by omega) (by have:=(Array.getElem?_eq_some_iff.1 HR5.out.ri.res).1;omega)⟩
          have HPost:=zh hpost
          obtain⟨v0,v1,-⟩:=cells2 (show ((w5.setCell ⟨B+1,0,none⟩ (.slice none 0 0)).setCell ⟨B+1,1,none⟩ (.slice none 0 0)).heap[B+1]?=some (.cells #[.slice none 0 0,.slice none 0 0] 182 (0,0)) from hw9)
          clear hR hpost hn hw9 mf
          go_wp2_with fail
          refine bodyPost_end (v:=.tuple #[.agg #[.slice none 0 0,.slice none 0 0],.bool false]) ?_ rfl HPost.out
          simp[results,Tryz.results67,go_sem,v0,v1]
         ·have ht:=Ht2.out
          rw[if_pos rfl] at ht
          have HT5:=zh ht
          have hl5:=take_less Hok.out
          clear ht Ht2
          go_wp2_with fail
          exact⟨⟨j+1,(takeP gk s2).1,hlj,by go_num,HR5,HT5,by omega⟩,by simp[intOf]<;>omega⟩
        ·have hjn:j=1:=by omega
         subst hjn
         have i3:¬ (((1:Nat):Int))<1:=by decide
         have ht:=HT2.out
         have hd:takeG (([kN]:List (List UInt8)).drop 1) s2=some s2:=rfl
         rw[hd] at ht
         have HT6:=zh ht
         have hrest:restW B wr=s2.rest.length:=HR2.out.ri.st.restW
         have Hrest:=zh hrest
         clear ht HT2 hd hrest
         go_wp2_with fail
         exact⟨⟨m+1,F-1,s2,by go_num,HR2,HT6,by omega,by omega⟩,by rw[Hrest.out,Hr0.out];omega⟩
      ·have i7:¬ (m:Int)<1:=by omega
       have i9:(0:Int)<(s'.rest.length:Int):=by omega
       skip
       go_wp2_with fail
       go_loopw [61] (λs61 wy=>∃ (j:Nat) (s2:Ta),j<=1/\s61=.int .i64 (j:Int)/\Hid (RdG w (λj=>((j<B\/j=B+1)\/j=B+3)\/j=gb) bg B s2 gb [kN] nf K wy)/\Hid (((takeG (([kN]:List (List UInt8)).drop j) s2).bind (loopK [kN] true (F-1) (1-m-1))).bind (readK (K.drop (k+1)))=T)/\s2.rest.length+j=s'.rest.length) (λs61 _=>1-(intOf s61).toNat)
       case atStart=>exact⟨0,s',by omega,rfl,HR,HTr,by omega⟩
       case round =>
        obtain⟨j,s2,hj,rfl,HR2,HT2,hl2⟩:=hrel
        by_cases hlj:j<1
        ·have ij:(j:Int)<1:=by omega
         obtain⟨b',o',gw,e',hb',hgw,qj⟩:=strs_at HR2.out.grp (k:=j) (by show j<1;exact hlj)
         cases e'
         rw[Nat.zero_add] at qj
         obtain⟨gk,hgk⟩:∃ gk,([kN]:List (List UInt8))[j]?=some gk:=⟨_,List.getElem?_eq_getElem (by show j<1;exact hlj)⟩
         have hgw2:gw=⟨gk.toArray⟩:=by
          unfold strL at hgw
          rw[List.getElem?_map,hgk] at hgw
          exact (Option.some.inj hgw).symm
         have hdrop:takeG (([kN]:List (List UInt8)).drop j) s2=if (takeP gk s2).2 then takeG (([kN]:List (List UInt8)).drop (j+1)) (takeP gk s2).1 else none:=by
          obtain⟨hj2,hj3⟩:=List.getElem?_eq_some_iff.1 hgk
          rw[List.drop_eq_getElem_cons hj2,hj3]
          rfl
         have HTK:=zh (take_any gw wr _ B (B+2) s2 HR2.out.ri.st HR2.out.ri.sz (by rw[hgw2,ba_size];exact HGs.out gk (List.mem_of_getElem? hgk)) bg HR2.out.ri.gl (λj hj=>.inl (.inl (.inl (by omega)))))
         have hgwS:gw.data.toList=gk:=by rw[hgw2]
         rw[hgwS] at HTK
         have ht2:=HT2.out
         rw[hdrop] at ht2
         obtain⟨ok,hok⟩:∃ ok,(takeP gk s2).2=ok:=⟨_,rfl⟩
         rw[hok] at HTK ht2
         have Ht2:=zh ht2
         have Hok:=zh hok
         clear hgk hgw hdrop ht2 HT2 hgw2 hgwS hok
         go_wp2_with fail
         refine HTK.out.mono ?_
         rintro e w5 ⟨rfl,hst5,hk5⟩
         have hR5:=HR2.out.kx hst5 (HR2.out.ri.sz.take gk) hk5 (λj hj hne=>.inl (.inl (by omega))) hb (.inr rfl) (.inl (.inr rfl))
         have HR5:=zh hR5
         clear hst5 hk5 hR5
         cases ok
         ·have hn:T=none:=by
           have h:=Ht2.out
           rw[if_neg (by decide)] at h
           exact h.symm
          have hw9:=hset (i:=1) (v:=.slice none 0 0) (hset (i:=0) (v:=.slice none 0 0) HR5.out.ri.res)
          obtain⟨m0,m1,mf⟩:=cells2 HR5.out.ri.res
          have mf0:=mf 0
          have mf1:=mf 1
          have hpost:R (.returned (.tuple #[.agg #[.slice none 0 0,.slice none 0 0],.bool false])) ((w5.setCell ⟨B+1,0,none⟩ (.slice none 0 0)).setCell ⟨B+1,1,none⟩ (.slice none 0 0)):=by
           refine hR.out _ _ ?_
           rw[HP.out,hn]
           have hk9:Kx (λj=>j=B+1) w5 ((w5.setCell ⟨B+1,0,none⟩ (.slice none 0 0)).setCell ⟨B+1,1,none⟩ (.slice none 0 0)):=kx_set (S:=λj=>j=B+1) (kx_set (S:=λj=>j=B+1) (Kx.refl _ w5) rfl 0 _) rfl 1 _
           exact⟨none,0,none,0,0,0,rfl,⟨World.ownsRow_nil _ _ _ _,World.ownsRow_nil _ _ _ _,rfl,rfl⟩,by rw[HB.out];exact hk9.low HR5.out.ri.low (λj hj=>by omega) (by have:=(Array.getElem?_eq_some_iff.1 HR5.out.ri.res).1;omega)⟩
          have HPost:=zh hpost
          obtain⟨v0,v1,-⟩:=cells2 (show ((w5.setCell ⟨B+1,0,none⟩ (.slice none 0 0)).setCell ⟨B+1,1,none⟩ (.slice none 0 0)).heap[B+1]?=some (.cells #[.slice none 0 0,.slice none 0 0] 182 (0,0)) from hw9)
          clear hR hpost hn hw9 mf
          go_wp2_with fail
          refine bodyPost_end (v:=.tuple #[.agg #[.slice none 0 0,.slice none 0 0],.bool false]) ?_ rfl HPost.out
          simp[results,Tryz.results67,go_sem,v0,v1]
         ·have ht:=Ht2.out
          rw[if_pos rfl] at ht
          have HT5:=zh ht
          have hl5:=take_less Hok.out
          clear ht Ht2
          go_wp2_with fail
          exact⟨⟨j+1,(takeP gk s2).1,hlj,by go_num,HR5,HT5,by omega⟩,by simp[intOf]<;>omega⟩
        ·have hjn:j=1:=by omega
         subst hjn
         have i3:¬ (((1:Nat):Int))<1:=by decide
         have ht:=HT2.out
         have hd:takeG (([kN]:List (List UInt8)).drop 1) s2=some s2:=rfl
         rw[hd] at ht
         have HT6:=zh ht
         have hrest:restW B wr=s2.rest.length:=HR2.out.ri.st.restW
         have Hrest:=zh hrest
         clear ht HT2 hd hrest
         go_wp2_with fail
         exact⟨⟨m+1,F-1,s2,by go_num,HR2,HT6,by omega,by omega⟩,by rw[Hrest.out,Hr0.out];omega⟩
     ·have i7:¬ (m:Int)<1:=by omega
      have i8:¬ (true=true/\0<s'.rest.length):=λh=>hcond (.inr h)
      have hte:=HTm.out
      rw[show 1-m=0 by omega,loopK_end i8] at hte
      have HTe:=zh hte
      have i9:¬ (0:Int)<(s'.rest.length:Int):=by have:¬ 0<s'.rest.length:=λh=>i8 ⟨rfl,h⟩;omega
      clear hcond i8 hte HTm
      go_wp2_with fail
      exact⟨⟨k+1,s',hlt,by go_num,zh (HR.out.ri.less (λj hj=>.inl hj) (λj _ hj2=>.inl (.inl hj2))),HTe,zh HR.out.fld⟩,by simp[intOf]<;>omega⟩
   by_cases c3:kk=kPost
   ·skip
    subst c3
    have hT4:=HTk2.out
    rw[show grpK kPost=[[119],[119],[119],kN] by decide,show moreK kPost=true by decide,show leastK kPost=1 by decide] at hT4
    have HT4:=zh hT4
    have e1:(kd.toList==[110,42])=false:=by rw[hkt];decide
    have e2:(kd.toList==[110,43])=false:=by rw[hkt];decide
    have e3:(kd.toList==[112,111,115,116])=true:=by rw[hkt];decide
    clear hkt hT4 HTk2
    go_wp2_with fail
    have HGs:=zh (show ∀ g∈([[119],[119],[119],kN]:List (List UInt8)),g.length<=1000000 by decide)
    have hri:=HI.out.below (below_new wr (.cells #[.string kd] 9)) hb
    have hgr:=RdG.new hri (HXf.out.alloc _) hb [[119],[119],[119],kN]
    obtain⟨gb,hgb⟩:∃ gb,wr.heap.size+1=gb:=⟨_,rfl⟩
    have hgb3:B+3<=gb:=by have:=HI.out.st.lt (B+3) (.inr rfl);omega
    rw[World.size_alloc] at hgr
    rw[hgb] at hgr ⊢
    skip
    obtain⟨W4,hW4⟩:∃ W4,(wr.alloc (.cells #[.string kd] 9)).alloc (.cells #[.string ⟨#[119]⟩,.string ⟨#[119]⟩,.string ⟨#[119]⟩,.string ⟨#[110]⟩] 9)=W4:=⟨_,rfl⟩
    have hgr4:RdG w (λj=>((j<B\/j=B+1)\/j=B+3)\/j=gb) bg B s gb [[119],[119],[119],kN] nf K W4:=hW4 ▸ hgr
    rw[hW4]
    have HG4:=zh hgr4
    clear hgr hgr4 hri hW4 hgb
    go_loopw [13] (λs13 wx=>∃ (m F:Nat) (s':Ta),s13=.int .i64 (m:Int)/\Hid (RdG w (λj=>((j<B\/j=B+1)\/j=B+3)\/j=gb) bg B s' gb [[119],[119],[119],kN] nf K wx)/\Hid ((loopK [[119],[119],[119],kN] true F (1-m) s').bind (readK (K.drop (k+1)))=T)/\1-m+s'.rest.length<=F/\m+s'.rest.length<=1000001) (λ_ wx=>restW B wx)
    case atStart=>exact⟨0,1+s.rest.length,s,rfl,HG4,HT4,by omega,by have:=HI.out.sz.1;omega⟩
    case round =>
     obtain⟨m,F,s',rfl,HR,HTm,hF,hm⟩:=hrel
     obtain⟨A5,c5,q1,-⟩:=HR.out.ri.st.left
     have q0:wr.cell? ⟨B,0,none⟩=some (.slice A5 s'.rest.length c5):=by rw[cell_of_row _ _ 0 _ _ (0,0) q1];rfl
     have Hr0:=zh HR.out.ri.st.restW
     clear q1
     by_cases hcond:m<1\/(true=true/\0<s'.rest.length)
     ·have htr:=HTm.out
      rw[loopK_step (by rcases hcond with h|h;exact .inl (by omega);exact .inr h) hF] at htr
      have HTr:=zh htr
      clear htr HTm
      by_cases hmL:m<1
      ·have i7:(m:Int)<1:=by omega
       skip
       go_wp2_with fail
       go_loopw [61] (λs61 wy=>∃ (j:Nat) (s2:Ta),j<=4/\s61=.int .i64 (j:Int)/\Hid (RdG w (λj=>((j<B\/j=B+1)\/j=B+3)\/j=gb) bg B s2 gb [[119],[119],[119],kN] nf K wy)/\Hid (((takeG (([[119],[119],[119],kN]:List (List UInt8)).drop j) s2).bind (loopK [[119],[119],[119],kN] true (F-1) (1-m-1))).bind (readK (K.drop (k+1)))=T)/\s2.rest.length+j=s'.rest.length) (λs61 _=>4-(intOf s61).toNat)
       case atStart=>exact⟨0,s',by omega,rfl,HR,HTr,by omega⟩
       case round =>
        obtain⟨j,s2,hj,rfl,HR2,HT2,hl2⟩:=hrel
        by_cases hlj:j<4
        ·have ij:(j:Int)<4:=by omega
         obtain⟨b',o',gw,e',hb',hgw,qj⟩:=strs_at HR2.out.grp (k:=j) (by show j<4;exact hlj)
         cases e'
         rw[Nat.zero_add] at qj
         obtain⟨gk,hgk⟩:∃ gk,([[119],[119],[119],kN]:List (List UInt8))[j]?=some gk:=⟨_,List.getElem?_eq_getElem (by show j<4;exact hlj)⟩
         have hgw2:gw=⟨gk.toArray⟩:=by
          unfold strL at hgw
          rw[List.getElem?_map,hgk] at hgw
          exact (Option.some.inj hgw).symm
         have hdrop:takeG (([[119],[119],[119],kN]:List (List UInt8)).drop j) s2=if (takeP gk s2).2 then takeG (([[119],[119],[119],kN]:List (List UInt8)).drop (j+1)) (takeP gk s2).1 else none:=by
          obtain⟨hj2,hj3⟩:=List.getElem?_eq_some_iff.1 hgk
          rw[List.drop_eq_getElem_cons hj2,hj3]
          rfl
         have HTK:=zh (take_any gw wr _ B (B+2) s2 HR2.out.ri.st HR2.out.ri.sz (by rw[hgw2,ba_size];exact HGs.out gk (List.mem_of_getElem? hgk)) bg HR2.out.ri.gl (λj hj=>.inl (.inl (.inl (by omega)))))
         have hgwS:gw.data.toList=gk:=by rw[hgw2]
         rw[hgwS] at HTK
         have ht2:=HT2.out
         rw[hdrop] at ht2
         obtain⟨ok,hok⟩:∃ ok,(takeP gk s2).2=ok:=⟨_,rfl⟩
         rw[hok] at HTK ht2
         have Ht2:=zh ht2
         have Hok:=zh hok
         clear hgk hgw hdrop ht2 HT2 hgw2 hgwS hok
         go_wp2_with fail
         refine HTK.out.mono ?_
         rintro e w5 ⟨rfl,hst5,hk5⟩
         have hR5:=HR2.out.kx hst5 (HR2.out.ri.sz.take gk) hk5 (λj hj hne=>.inl (.inl (by omega))) hb (.inr rfl) (.inl (.inr rfl))
         have HR5:=zh hR5
         clear hst5 hk5 hR5
         cases ok
         ·have hn:T=none:=by
           have h:=Ht2.out
           rw[if_neg (by decide)] at h
           exact h.symm
          have hw9:=hset (i:=1) (v:=.slice none 0 0) (hset (i:=0) (v:=.slice none 0 0) HR5.out.ri.res)
          obtain⟨m0,m1,mf⟩:=cells2 HR5.out.ri.res
          have mf0:=mf 0
          have mf1:=mf 1
          have hpost:R (.returned (.tuple #[.agg #[.slice none 0 0,.slice none 0 0],.bool false])) ((w5.setCell ⟨B+1,0,none⟩ (.slice none 0 0)).setCell ⟨B+1,1,none⟩ (.slice none 0 0)):=by
           refine hR.out _ _ ?_
           rw[HP.out,hn]
           have hk9:Kx (λj=>j=B+1) w5 ((w5.setCell ⟨B+1,0,none⟩ (.slice none 0 0)).setCell ⟨B+1,1,none⟩ (.slice none 0 0)):=kx_set (S:=λj=>j=B+1) (kx_set (S:=λj=>j=B+1) (Kx.refl _ w5) rfl 0 _) rfl 1 _
           exact⟨none,0,none,0,0,0,rfl,⟨World.ownsRow_nil _ _ _ _,World.ownsRow_nil _ _ _ _,rfl,rfl⟩,by rw[HB.out];exact hk9.low HR5.out.ri.low (λj hj=>by omega) (by have:=(Array.getElem?_eq_some_iff.1 HR5.out.ri.res).1;omega)⟩
          have HPost:=zh hpost
          obtain⟨v0,v1,-⟩:=cells2 (show ((w5.setCell ⟨B+1,0,none⟩ (.slice none 0 0)).setCell ⟨B+1,1,none⟩ (.slice none 0 0)).heap[B+1]?=some (.cells #[.slice none 0 0,.slice none 0 0] 182 (0,0)) from hw9)
          clear hR hpost hn hw9 mf
          go_wp2_with fail
          refine bodyPost_end (v:=.tuple #[.agg #[.slice none 0 0,.slice none 0 0],.bool false]) ?_ rfl HPost.out
          simp[results,Tryz.results67,go_sem,v0,v1]
         ·have ht:=Ht2.out
          rw[if_pos rfl] at ht
          have HT5:=zh ht
          have hl5:=take_less Hok.out
          clear ht Ht2
          go_wp2_with fail
          exact⟨⟨j+1,(takeP gk s2).1,hlj,by go_num,HR5,HT5,by omega⟩,by simp[intOf]<;>omega⟩
        ·have hjn:j=4:=by omega
         subst hjn
         have i3:¬ (((4:Nat):Int))<4:=by decide
         have ht:=HT2.out
         have hd:takeG (([[119],[119],[119],kN]:List (List UInt8)).drop 4) s2=some s2:=rfl
         rw[hd] at ht
         have HT6:=zh ht
         have hrest:restW B wr=s2.rest.length:=HR2.out.ri.st.restW
         have Hrest:=zh hrest
         clear ht HT2 hd hrest
         go_wp2_with fail
         exact⟨⟨m+1,F-1,s2,by go_num,HR2,HT6,by omega,by omega⟩,by rw[Hrest.out,Hr0.out];omega⟩
      ·have i7:¬ (m:Int)<1:=by omega
       have i9:(0:Int)<(s'.rest.length:Int):=by omega
       skip
       go_wp2_with fail
       go_loopw [61] (λs61 wy=>∃ (j:Nat) (s2:Ta),j<=4/\s61=.int .i64 (j:Int)/\Hid (RdG w (λj=>((j<B\/j=B+1)\/j=B+3)\/j=gb) bg B s2 gb [[119],[119],[119],kN] nf K wy)/\Hid (((takeG (([[119],[119],[119],kN]:List (List UInt8)).drop j) s2).bind (loopK [[119],[119],[119],kN] true (F-1) (1-m-1))).bind (readK (K.drop (k+1)))=T)/\s2.rest.length+j=s'.rest.length) (λs61 _=>4-(intOf s61).toNat)
       case atStart=>exact⟨0,s',by omega,rfl,HR,HTr,by omega⟩
       case round =>
        obtain⟨j,s2,hj,rfl,HR2,HT2,hl2⟩:=hrel
        by_cases hlj:j<4
        ·have ij:(j:Int)<4:=by omega
         obtain⟨b',o',gw,e',hb',hgw,qj⟩:=strs_at HR2.out.grp (k:=j) (by show j<4;exact hlj)
         cases e'
         rw[Nat.zero_add] at qj
         obtain⟨gk,hgk⟩:∃ gk,([[119],[119],[119],kN]:List (List UInt8))[j]?=some gk:=⟨_,List.getElem?_eq_getElem (by show j<4;exact hlj)⟩
         have hgw2:gw=⟨gk.toArray⟩:=by
          unfold strL at hgw
          rw[List.getElem?_map,hgk] at hgw
          exact (Option.some.inj hgw).symm
         have hdrop:takeG (([[119],[119],[119],kN]:List (List UInt8)).drop j) s2=if (takeP gk s2).2 then takeG (([[119],[119],[119],kN]:List (List UInt8)).drop (j+1)) (takeP gk s2).1 else none:=by
          obtain⟨hj2,hj3⟩:=List.getElem?_eq_some_iff.1 hgk
          rw[List.drop_eq_getElem_cons hj2,hj3]
          rfl
         have HTK:=zh (take_any gw wr _ B (B+2) s2 HR2.out.ri.st HR2.out.ri.sz (by rw[hgw2,ba_size];exact HGs.out gk (List.mem_of_getElem? hgk)) bg HR2.out.ri.gl (λj hj=>.inl (.inl (.inl (by omega)))))
         have hgwS:gw.data.toList=gk:=by rw[hgw2]
         rw[hgwS] at HTK
         have ht2:=HT2.out
         rw[hdrop] at ht2
         obtain⟨ok,hok⟩:∃ ok,(takeP gk s2).2=ok:=⟨_,rfl⟩
         rw[hok] at HTK ht2
         have Ht2:=zh ht2
         have Hok:=zh hok
         clear hgk hgw hdrop ht2 HT2 hgw2 hgwS hok
         go_wp2_with fail
         refine HTK.out.mono ?_
         rintro e w5 ⟨rfl,hst5,hk5⟩
         have hR5:=HR2.out.kx hst5 (HR2.out.ri.sz.take gk) hk5 (λj hj hne=>.inl (.inl (by omega))) hb (.inr rfl) (.inl (.inr rfl))
         have HR5:=zh hR5
         clear hst5 hk5 hR5
         cases ok
         ·have hn:T=none:=by
           have h:=Ht2.out
           rw[if_neg (by decide)] at h
           exact h.symm
          have hw9:=hset (i:=1) (v:=.slice none 0 0) (hset (i:=0) (v:=.slice none 0 0) HR5.out.ri.res)
          obtain⟨m0,m1,mf⟩:=cells2 HR5.out.ri.res
          have mf0:=mf 0
          have mf1:=mf 1
          have hpost:R (.returned (.tuple #[.agg #[.slice none 0 0,.slice none 0 0],.bool false])) ((w5.setCell ⟨B+1,0,none⟩ (.slice none 0 0)).setCell ⟨B+1,1,none⟩ (.slice none 0 0)):=by
           refine hR.out _ _ ?_
           rw[HP.out,hn]
           have hk9:Kx (λj=>j=B+1) w5 ((w5.setCell ⟨B+1,0,none⟩ (.slice none 0 0)).setCell ⟨B+1,1,none⟩ (.slice none 0 0)):=kx_set (S:=λj=>j=B+1) (kx_set (S:=λj=>j=B+1) (Kx.refl _ w5) rfl 0 _) rfl 1 _
           exact⟨none,0,none,0,0,0,rfl,⟨World.ownsRow_nil _ _ _ _,World.ownsRow_nil _ _ _ _,rfl,rfl⟩,by rw[HB.out];exact hk9.low HR5.out.ri.low (λj hj=>by omega) (by have:=(Array.getElem?_eq_some_iff.1 HR5.out.ri.res).1;omega)⟩
          have HPost:=zh hpost
          obtain⟨v0,v1,-⟩:=cells2 (show ((w5.setCell ⟨B+1,0,none⟩ (.slice none 0 0)).setCell ⟨B+1,1,none⟩ (.slice none 0 0)).heap[B+1]?=some (.cells #[.slice none 0 0,.slice none 0 0] 182 (0,0)) from hw9)
          clear hR hpost hn hw9 mf
          go_wp2_with fail
          refine bodyPost_end (v:=.tuple #[.agg #[.slice none 0 0,.slice none 0 0],.bool false]) ?_ rfl HPost.out
          simp[results,Tryz.results67,go_sem,v0,v1]
         ·have ht:=Ht2.out
          rw[if_pos rfl] at ht
          have HT5:=zh ht
          have hl5:=take_less Hok.out
          clear ht Ht2
          go_wp2_with fail
          exact⟨⟨j+1,(takeP gk s2).1,hlj,by go_num,HR5,HT5,by omega⟩,by simp[intOf]<;>omega⟩
        ·have hjn:j=4:=by omega
         subst hjn
         have i3:¬ (((4:Nat):Int))<4:=by decide
         have ht:=HT2.out
         have hd:takeG (([[119],[119],[119],kN]:List (List UInt8)).drop 4) s2=some s2:=rfl
         rw[hd] at ht
         have HT6:=zh ht
         have hrest:restW B wr=s2.rest.length:=HR2.out.ri.st.restW
         have Hrest:=zh hrest
         clear ht HT2 hd hrest
         go_wp2_with fail
         exact⟨⟨m+1,F-1,s2,by go_num,HR2,HT6,by omega,by omega⟩,by rw[Hrest.out,Hr0.out];omega⟩
     ·have i7:¬ (m:Int)<1:=by omega
      have i8:¬ (true=true/\0<s'.rest.length):=λh=>hcond (.inr h)
      have hte:=HTm.out
      rw[show 1-m=0 by omega,loopK_end i8] at hte
      have HTe:=zh hte
      have i9:¬ (0:Int)<(s'.rest.length:Int):=by have:¬ 0<s'.rest.length:=λh=>i8 ⟨rfl,h⟩;omega
      clear hcond i8 hte HTm
      go_wp2_with fail
      exact⟨⟨k+1,s',hlt,by go_num,zh (HR.out.ri.less (λj hj=>.inl hj) (λj _ hj2=>.inl (.inl hj2))),HTe,zh HR.out.fld⟩,by simp[intOf]<;>omega⟩
   ·skip
    have hT4:=HTk2.out
    rw[show grpK kk=[kk] by unfold grpK;rw[if_neg c1,if_neg c2,if_neg c3],show moreK kk=false by unfold moreK;rw[decide_eq_false c1,decide_eq_false c2,decide_eq_false c3];rfl,show leastK kk=1 by unfold leastK;rw[if_neg c1]] at hT4
    have HT4:=zh hT4
    have e1:(kd.toList==[110,42])=false:=by rw[hkt,beq_eq_false_iff_ne];exact c1
    have e2:(kd.toList==[110,43])=false:=by rw[hkt,beq_eq_false_iff_ne];exact c2
    have e3:(kd.toList==[112,111,115,116])=false:=by rw[hkt,beq_eq_false_iff_ne];exact c3
    have HGs:=zh (show ∀ g∈([kk]:List (List UInt8)),g.length<=1000000 from λg hg=>by
     rw[List.mem_singleton] at hg
     subst hg
     have:=HKK.out
     omega)
    have hkd3:kd=⟨kk.toArray⟩:=ba_of HKd.out
    have HKd3:=zh hkd3
    clear hkt hT4 HTk2 c1 c2 c3 hkd3
    go_wp2_with fail
    have hri:=HI.out
    have hgr:=RdG.new hri HXf.out hb [kk]
    obtain⟨gb,hgb⟩:∃ gb,wr.heap.size=gb:=⟨_,rfl⟩
    have hgb3:B+3<=gb:=by have:=HI.out.st.lt (B+3) (.inr rfl);omega
    skip
    rw[hgb] at hgr ⊢
    rw[HKd3.out]
    obtain⟨W4,hW4⟩:∃ W4,wr.alloc (.cells #[.string ⟨kk.toArray⟩] 9)=W4:=⟨_,rfl⟩
    have hgr4:RdG w (λj=>((j<B\/j=B+1)\/j=B+3)\/j=gb) bg B s gb [kk] nf K W4:=hW4 ▸ hgr
    rw[hW4]
    have HG4:=zh hgr4
    clear hgr hgr4 hri hW4 hgb
    go_loopw [13] (λs13 wx=>∃ (m F:Nat) (s':Ta),s13=.int .i64 (m:Int)/\Hid (RdG w (λj=>((j<B\/j=B+1)\/j=B+3)\/j=gb) bg B s' gb [kk] nf K wx)/\Hid ((loopK [kk] false F (1-m) s').bind (readK (K.drop (k+1)))=T)/\1-m+s'.rest.length<=F/\m+s'.rest.length<=1000001) (λ_ wx=>restW B wx)
    case atStart=>exact⟨0,1+s.rest.length,s,rfl,HG4,HT4,by omega,by have:=HI.out.sz.1;omega⟩
    case round =>
     obtain⟨m,F,s',rfl,HR,HTm,hF,hm⟩:=hrel
     obtain⟨A5,c5,q1,-⟩:=HR.out.ri.st.left
     have q0:wr.cell? ⟨B,0,none⟩=some (.slice A5 s'.rest.length c5):=by rw[cell_of_row _ _ 0 _ _ (0,0) q1];rfl
     have Hr0:=zh HR.out.ri.st.restW
     clear q1
     by_cases hcond:m<1\/(false=true/\0<s'.rest.length)
     ·have htr:=HTm.out
      rw[loopK_step (by rcases hcond with h|h;exact .inl (by omega);exact .inr h) hF] at htr
      have HTr:=zh htr
      clear htr HTm
      have hmL:m<1:=by
       rcases hcond with h|h
       ·exact h
       ·exact absurd h.1 (by decide)
      have i7:(m:Int)<1:=by omega
      skip
      go_wp2_with fail
      go_loopw [61] (λs61 wy=>∃ (j:Nat) (s2:Ta),j<=1/\s61=.int .i64 (j:Int)/\Hid (RdG w (λj=>((j<B\/j=B+1)\/j=B+3)\/j=gb) bg B s2 gb [kk] nf K wy)/\Hid (((takeG (([kk]:List (List UInt8)).drop j) s2).bind (loopK [kk] false (F-1) (1-m-1))).bind (readK (K.drop (k+1)))=T)/\s2.rest.length+j=s'.rest.length) (λs61 _=>1-(intOf s61).toNat)
      case atStart=>exact⟨0,s',by omega,rfl,HR,HTr,by omega⟩
      case round =>
       obtain⟨j,s2,hj,rfl,HR2,HT2,hl2⟩:=hrel
       by_cases hlj:j<1
       ·have ij:(j:Int)<1:=by omega
        obtain⟨b',o',gw,e',hb',hgw,qj⟩:=strs_at HR2.out.grp (k:=j) (by show j<1;exact hlj)
        cases e'
        rw[Nat.zero_add] at qj
        obtain⟨gk,hgk⟩:∃ gk,([kk]:List (List UInt8))[j]?=some gk:=⟨_,List.getElem?_eq_getElem (by show j<1;exact hlj)⟩
        have hgw2:gw=⟨gk.toArray⟩:=by
         unfold strL at hgw
         rw[List.getElem?_map,hgk] at hgw
         exact (Option.some.inj hgw).symm
        have hdrop:takeG (([kk]:List (List UInt8)).drop j) s2=if (takeP gk s2).2 then takeG (([kk]:List (List UInt8)).drop (j+1)) (takeP gk s2).1 else none:=by
         obtain⟨hj2,hj3⟩:=List.getElem?_eq_some_iff.1 hgk
         rw[List.drop_eq_getElem_cons hj2,hj3]
         rfl
        have HTK:=zh (take_any gw wr _ B (B+2) s2 HR2.out.ri.st HR2.out.ri.sz (by rw[hgw2,ba_size];exact HGs.out gk (List.mem_of_getElem? hgk)) bg HR2.out.ri.gl (λj hj=>.inl (.inl (.inl (by omega)))))
        have hgwS:gw.data.toList=gk:=by rw[hgw2]
        rw[hgwS] at HTK
        have ht2:=HT2.out
        rw[hdrop] at ht2
        obtain⟨ok,hok⟩:∃ ok,(takeP gk s2).2=ok:=⟨_,rfl⟩
        rw[hok] at HTK ht2
        have Ht2:=zh ht2
        have Hok:=zh hok
        clear hgk hgw hdrop ht2 HT2 hgw2 hgwS hok
        go_wp2_with fail
        refine HTK.out.mono ?_
        rintro e w5 ⟨rfl,hst5,hk5⟩
        have hR5:=HR2.out.kx hst5 (HR2.out.ri.sz.take gk) hk5 (λj hj hne=>.inl (.inl (by omega))) hb (.inr rfl) (.inl (.inr rfl))
        have HR5:=zh hR5
        clear hst5 hk5 hR5
        cases ok
        ·have hn:T=none:=by
          have h:=Ht2.out
          rw[if_neg (by decide)] at h
          exact h.symm
         have hw9:=hset (i:=1) (v:=.slice none 0 0) (hset (i:=0) (v:=.slice none 0 0) HR5.out.ri.res)
         obtain⟨m0,m1,mf⟩:=cells2 HR5.out.ri.res
         have mf0:=mf 0
         have mf1:=mf 1
         have hpost:R (.returned (.tuple #[.agg #[.slice none 0 0,.slice none 0 0],.bool false])) ((w5.setCell ⟨B+1,0,none⟩ (.slice none 0 0)).setCell ⟨B+1,1,none⟩ (.slice none 0 0)):=by
          refine hR.out _ _ ?_
          rw[HP.out,hn]
          have hk9:Kx (λj=>j=B+1) w5 ((w5.setCell ⟨B+1,0,none⟩ (.slice none 0 0)).setCell ⟨B+1,1,none⟩ (.slice none 0 0)):=kx_set (S:=λj=>j=B+1) (kx_set (S:=λj=>j=B+1) (Kx.refl _ w5) rfl 0 _) rfl 1 _
          exact⟨none,0,none,0,0,0,rfl,⟨World.ownsRow_nil _ _ _ _,World.ownsRow_nil _ _ _ _,rfl,rfl⟩,by rw[HB.out];exact hk9.low HR5.out.ri.low (λj hj=>by omega) (by have:=(Array.getElem?_eq_some_iff.1 HR5.out.ri.res).1;omega)⟩
         have HPost:=zh hpost
         obtain⟨v0,v1,-⟩:=cells2 (show ((w5.setCell ⟨B+1,0,none⟩ (.slice none 0 0)).setCell ⟨B+1,1,none⟩ (.slice none 0 0)).heap[B+1]?=some (.cells #[.slice none 0 0,.slice none 0 0] 182 (0,0)) from hw9)
         clear hR hpost hn hw9 mf
         go_wp2_with fail
         refine bodyPost_end (v:=.tuple #[.agg #[.slice none 0 0,.slice none 0 0],.bool false]) ?_ rfl HPost.out
         simp[results,Tryz.results67,go_sem,v0,v1]
        ·have ht:=Ht2.out
         rw[if_pos rfl] at ht
         have HT5:=zh ht
         have hl5:=take_less Hok.out
         clear ht Ht2
         go_wp2_with fail
         exact⟨⟨j+1,(takeP gk s2).1,hlj,by go_num,HR5,HT5,by omega⟩,by simp[intOf]<;>omega⟩
       ·have hjn:j=1:=by omega
        subst hjn
        have i3:¬ (((1:Nat):Int))<1:=by decide
        have ht:=HT2.out
        have hd:takeG (([kk]:List (List UInt8)).drop 1) s2=some s2:=rfl
        rw[hd] at ht
        have HT6:=zh ht
        have hrest:restW B wr=s2.rest.length:=HR2.out.ri.st.restW
        have Hrest:=zh hrest
        clear ht HT2 hd hrest
        go_wp2_with fail
        exact⟨⟨m+1,F-1,s2,by go_num,HR2,HT6,by omega,by omega⟩,by rw[Hrest.out,Hr0.out];omega⟩
     ·have i7:¬ (m:Int)<1:=by omega
      have i8:¬ (false=true/\0<s'.rest.length):=λh=>hcond (.inr h)
      have hte:=HTm.out
      rw[show 1-m=0 by omega,loopK_end i8] at hte
      have HTe:=zh hte
      skip
      clear hcond i8 hte HTm
      go_wp2_with fail
      exact⟨⟨k+1,s',hlt,by go_num,zh (HR.out.ri.less (λj hj=>.inl hj) (λj _ hj2=>.inl (.inl hj2))),HTe,zh HR.out.fld⟩,by simp[intOf]<;>omega⟩
  ·have hkn:k=nf:=by omega
   subst hkn
   have i1:¬ (k:Int)<(k:Int):=by omega
   have hts:T=some s:=by
    rw[← HTk.out,List.drop_of_length_le (by rw[HN.out];exact Nat.le_refl _)]
    rfl
   obtain⟨A5,c5,q1,-⟩:=HI.out.st.left
   obtain⟨A1,c1,A2,c2,r1,r2,r3,r4,r5⟩:=HI.out.st.got
   have q0:wr.cell? ⟨B,0,none⟩=some (.slice A5 s.rest.length c5):=by rw[cell_of_row _ _ 0 _ _ (0,0) q1];rfl
   obtain⟨p0,p1,-⟩:=cells2 r1
   obtain⟨m0,m1,mf⟩:=cells2 HI.out.res
   have mf0:=mf 0
   have mf1:=mf 1
   have hw9:=hset (i:=1) (v:=.slice A2 s.ns.length c2) (hset (i:=0) (v:=.slice A1 s.ws.length c1) HI.out.res)
   obtain⟨W9,hW9⟩:∃ W9,((wr.setCell ⟨B+1,0,none⟩ (.slice A1 s.ws.length c1)).setCell ⟨B+1,1,none⟩ (.slice A2 s.ns.length c2)).drew=W9:=⟨_,rfl⟩
   have hw9':W9.heap[B+1]?=some (.cells #[.slice A1 s.ws.length c1,.slice A2 s.ns.length c2] 182 (0,0)):=by
    rw[← hW9]
    exact hw9
   obtain⟨v0,v1,-⟩:=cells2 hw9'
   have hk9:Kx (λj=>j=B+1) wr W9:=by
    rw[← hW9]
    exact (kx_set (S:=λj=>j=B+1) (kx_set (S:=λj=>j=B+1) (Kx.refl _ wr) rfl 0 _) rfl 1 _).drewN 1
   have hpost:R (.returned (.tuple #[.agg #[.slice A1 s.ws.length c1,.slice A2 s.ns.length c2],.bool (decide (s.rest.length=0))])) W9:=by
    refine hR.out _ _ ?_
    rw[HP.out,hts]
    have o1:=own_heap (w:=W9) r2 (λg hg=>hk9.block g (by obtain⟨C,hC⟩:=own_blk r2 hg;exact (Array.getElem?_eq_some_iff.1 hC).1) (own_nea HI.out.res r2 (by decide) g hg))
    have o2:=own_heap (w:=W9) r4 (λg hg=>hk9.block g (by obtain⟨C,hC⟩:=own_blk r4 hg;exact (Array.getElem?_eq_some_iff.1 hC).1) (own_nea HI.out.res r4 (by decide) g hg))
    exact⟨A1,c1,A2,c2,_,_,rfl,⟨own_raise o1 (λg hg=>Nat.le_of_not_lt λhl=>r3 g hg (.inl (.inl (by have:=HB.out;omega)))),own_raise o2 (λg hg=>Nat.le_of_not_lt λhl=>r5 g hg (.inl (.inl (by have:=HB.out;omega)))),rfl,rfl⟩,by rw[HB.out];exact hk9.low HI.out.low (λj hj=>by omega) (by have:=(Array.getElem?_eq_some_iff.1 HI.out.res).1;omega)⟩
   have HPost:=zh hpost
   have HW9:=zh hW9
   have hrl:((s.rest.length:Int)==0)=decide (s.rest.length=0):=by
    rw[Bool.eq_iff_iff,beq_iff_eq,decide_eq_true_eq]
    omega
   have Hrl:=zh hrl
   have p0':wr.cell? ⟨B+1+1,0,none⟩=some (.slice A1 s.ws.length c1):=p0
   have p1':wr.cell? ⟨B+1+1,1,none⟩=some (.slice A2 s.ns.length c2):=p1
   clear hR hpost q1 r1 r2 r3 r4 r5 mf hts p0 p1 hw9 hw9' hk9 hW9 hrl
   go_wp2_with fail
   go_region
   rw[HW9.out,Hrl.out]
   go_wp2
   refine bodyPost_end (v:=.tuple #[.agg #[.slice A1 s.ws.length c1,.slice A2 s.ns.length c2],.bool (decide (s.rest.length=0))]) ?_ rfl HPost.out
   simp[results,Tryz.results67,go_sem,v0,v1]
end
end Go.Proofs.YtjibohkeapdalaaGreatDoor
