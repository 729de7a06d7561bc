/-
Lines of a word and some numbers; conditions: those of each theorem.
-/
import Derived.Test.YtgbnicokglpdbaaGreatDoorAj
namespace Go.Proofs.YtgbnicokglpdbaaGreatDoor
set_option maxHeartbeats 8000000
set_option maxRecDepth 8000
section
section
open Go.RowKit Go.Shelf
def dg(nm:List UInt8)(ns:List Nat):List UInt8:=nm++ns.flatMap λ(n:Nat)=>32 :: Lib.itoa (n:Int)
def fW(ns:List Nat):List (List UInt8):=ns.map λ(n:Nat)=>Lib.itoa (n:Int)
def sS(nm:List UInt8):Bool:=nm.all λc=>decide (c≠32/\c≠10)
theorem oz{nm:List UInt8}(h:sS nm=true):∀ c∈nm,c≠32/\c≠10:=λc hc=>by
 have:=List.all_eq_true.1 h c hc
 simpa using this
theorem nT:∀ (ns:List Nat) (nm:List UInt8),(∀ c∈nm,c≠32/\c≠10)->cB (dg nm ns)=nm :: fW ns
 |[],nm,h=>by
  show cB (nm++[])=[nm]
  rw[List.append_nil]
  exact oI nm λc hc=>(h c hc).1
 |n :: r,nm,h=>by
  show cB (nm++(32 :: Lib.itoa (n:Int)++r.flatMap λ(n:Nat)=>32 :: Lib.itoa (n:Int)))=_
  rw[List.cons_append,jZ nm _ (λc hc=>(h c hc).1)]
  have:=nT r (Lib.itoa (n:Int)) (nR _)
  unfold dg at this
  rw[this]
  rfl
theorem re{ns:List Nat}{nm:List UInt8}(h:∀ c∈nm,c≠32/\c≠10):bP (dg nm ns)=dg nm ns:=by
 refine sk λc hc=>?_
 rcases List.mem_append.1 hc with hc|hc
 ·exact (h c hc).2
 obtain⟨n,-,hc⟩:=List.mem_flatMap.1 hc
 rcases List.mem_cons.1 hc with rfl|hc
 ·decide
 exact (nR _ c hc).2
theorem xE{ns:List Nat}{nm:List UInt8}(h:∀ c∈nm,c≠32/\c≠10)(h0:nm≠[])(hn:∀ n∈ns,n<1000000000000):[] ∉ cB (dg nm ns):=by
 rw[nT ns nm h]
 intro hm
 rcases List.mem_cons.1 hm with hm|hm
 ·exact h0 hm.symm
 obtain⟨n,c3,he⟩:=List.mem_map.1 hm
 have h1:=(ji n (hn n c3)).1
 rw[← nQ,he] at h1
 exact absurd h1 (by decide)
theorem nS{nm:List UInt8}:∀ (ns:List Nat),(∀ n∈ns,n<1000000000000)->(dg nm ns).length<=nm.length+13*ns.length
 |[],_=>by simp[dg]
 |n :: r,h=>by
  have h1:=nS (nm:=nm) r λx hx=>h x (List.mem_cons_of_mem _ hx)
  have h2:=(ji n (h n List.mem_cons_self)).2
  rw[← nQ] at h2
  unfold dg at h1 ⊢
  rw[List.flatMap_cons,List.length_append,List.length_append,List.length_cons,List.length_cons]
  rw[List.length_append] at h1
  omega
def dw(ns:List Nat):List Int:=ns.map λ(n:Nat)=>(n:Int)
theorem oF:∀ (ns:List Nat) (a:List (List UInt8)) (acc:List Int),(∀ n∈ns,n<1000000000000)->bR (List.replicate ns.length kN) ⟨fW ns,a,acc⟩=some ⟨[],a,acc++dw ns⟩
 |[],a,acc,_=>by simp[bR,fW,dw]
 |n :: r,a,acc,h=>by
  rw[List.length_cons,List.replicate_succ,fF (by decide) (by decide) (by decide),gY]
  show (if (ce (Lib.itoa (n:Int))).isSome=true then bR (List.replicate r.length kN) ⟨fW r,a,acc++[(ce (Lib.itoa (n:Int))).getD 0]⟩ else none)=_
  rw[gE n (h n List.mem_cons_self),if_pos (show (some (n:Int)).isSome=true from rfl)]
  have:=oF r a (acc++[(n:Int)]) λx hx=>h x (List.mem_cons_of_mem _ hx)
  show bR _ ⟨fW r,a,acc++[(n:Int)]⟩=_
  rw[this]
  simp[dw]
theorem ve:∀ (ns:List Nat) (F L:Nat) (a:List (List UInt8)) (acc:List Int),(∀ n∈ns,n<1000000000000)->L<=ns.length->ns.length<=F->cY [kN] true F L ⟨fW ns,a,acc⟩=some ⟨[],a,acc++dw ns⟩
 |[],F,L,a,acc,_,hL,_=>by
  have h0:L=0:=by simpa using hL
  subst h0
  rw[kB (by simp[fW])]
  simp[fW,dw]
 |n :: r,F,L,a,acc,h,hL,hF=>by
  match F,hF with
  |0,hF=>simp at hF
  |F+1,hF =>
   rw[cY,if_pos (.inr ⟨rfl,by simp[fW]⟩),bo,gY]
   show (if (ce (Lib.itoa (n:Int))).isSome=true then bo [] ⟨fW r,a,acc++[(ce (Lib.itoa (n:Int))).getD 0]⟩ else none).bind _=_
   rw[gE n (h n List.mem_cons_self),if_pos (show (some (n:Int)).isSome=true from rfl),bo,Option.bind_some]
   have:=ve r F (L-1) a (acc++[(n:Int)]) (λx hx=>h x (List.mem_cons_of_mem _ hx)) (by rw[List.length_cons] at hL;omega) (by rw[List.length_cons] at hF;omega)
   show cY [kN] true F (L-1) ⟨fW r,a,acc++[(n:Int)]⟩=_
   rw[this]
   simp[dw]
theorem kH{fo:List UInt8}{ns:List Nat}(h:∀ n∈ns,n<1000000000000)(hf:Lib.fields fo=List.replicate ns.length kN):aD fo (fW ns)=([],dw ns,true):=by
 unfold aD
 rw[hf,oF ns [] [] h]
 simp[jK]
theorem lr(w:World)(h:Nat)(hm:w.cell? ⟨h,0,none⟩=some (.bool true))(hl:h<w.heap.size)(s:ByteArray)(c:UInt8)(nm fo:List UInt8)(f:FuncId)(ns:List Nat)(hs:bP s.data.toList=dg (c :: nm) ns)(cT:s.size<=1000000)(hn:∀ n∈ns,n<1000000000000)(cS:ns.length<=20)(cO:nm.length<=20)(ca:sS (c :: nm)=true)(hc:c≠35)(cA:c :: nm≠[116,114,121])(i:Nat)(hi:ff[i]?=some (c :: nm,fo,f))(cn:((ff.take i).any λx=>decide (x.1=c :: nm))=false)
 (cr:fo.length<=1000) (cl:(fo.all λb=>decide (b.toNat<128))=true) (cp:((Lib.fields fo).all λk=>decide (k.length<=1000))=true) (cq:(Lib.fields fo).length<=1000) (eg:∀ args w,(callFunc f args).run Tryz.prog w=.ok (.enter f args) w) (bg:Nat) (hg:Gl bg w) (hb:bg<=w.heap.size) (Q:List UInt8->World->Prop) (cd:aD fo (fW ns)=([],dw ns,true))
 (cC:∀ W A1 c1 n1 A2 c2 n2,Below w.heap.size w W->cU w.heap.size W A1 n1 c1 A2 n2 c2 [] (dw ns)->Calls Tryz.prog f #[.pointer (some ⟨h,0,none⟩),.agg #[.slice A1 n1 c1,.slice A2 n2 c2]] W λe w'=>∃ v,e=.returned v/\kK bg Q v w') :
 Calls Tryz.prog 7 #[.pointer (some ⟨h,0,none⟩),.string s] w λe w'=>∃ t,e=.returned (.string ⟨t.toArray⟩)/\Q t w':=by
 have hp:=oz ca
 have cx:=nS (nm:=c :: nm) ns hn
 rw[List.length_cons] at cx
 have e1:=hs
 refine iO w h hm hl s (by omega) c nm fo f (fW ns) ?_ ?_ ?_ hc cA i hi cn cr cl cp cq eg bg hg hb Q ?_ ?_
 ·rw[e1,nT ns _ hp]
 ·rw[e1];exact xE hp (by simp) hn
 ·rw[e1];omega
 ·intro hz
  rw[cd] at hz
  cases hz
 intro _ W A1 c1 n1 A2 c2 n2 hW hA
 rw[cd] at hA
 exact cC W A1 c1 n1 A2 c2 n2 hW hA
theorem pE(w:World)(h:Nat)(hm:w.cell? ⟨h,0,none⟩=some (.bool true))(hl:h<w.heap.size)(s:ByteArray)(c:UInt8)(nm fo:List UInt8)(f:FuncId)(ns:List Nat)(hs:s.data.toList=dg (c :: nm) ns)(hn:∀ n∈ns,n<1000000000000)(cS:ns.length<=20)(cO:nm.length<=20)(ca:sS (c :: nm)=true)(hc:c≠35)(cA:c :: nm≠[116,114,121])(i:Nat)(hi:ff[i]?=some (c :: nm,fo,f))(cn:((ff.take i).any λx=>decide (x.1=c :: nm))=false)
 (cr:fo.length<=1000) (cl:(fo.all λb=>decide (b.toNat<128))=true) (cp:((Lib.fields fo).all λk=>decide (k.length<=1000))=true) (cq:(Lib.fields fo).length<=1000) (eg:∀ args w,(callFunc f args).run Tryz.prog w=.ok (.enter f args) w) (bg:Nat) (hg:Gl bg w) (hb:bg<=w.heap.size) (Q:List UInt8->World->Prop) (cd:aD fo (fW ns)=([],dw ns,true))
 (cC:∀ W A1 c1 n1 A2 c2 n2,Below w.heap.size w W->cU w.heap.size W A1 n1 c1 A2 n2 c2 [] (dw ns)->Calls Tryz.prog f #[.pointer (some ⟨h,0,none⟩),.agg #[.slice A1 n1 c1,.slice A2 n2 c2]] W λe w'=>∃ v,e=.returned v/\kK bg Q v w') :
 Calls Tryz.prog 7 #[.pointer (some ⟨h,0,none⟩),.string s] w λe w'=>∃ t,e=.returned (.string ⟨t.toArray⟩)/\Q t w':=by
 have hp:=oz ca
 have cx:=nS (nm:=c :: nm) ns hn
 rw[List.length_cons] at cx
 have cT:=aO s
 rw[hs] at cT
 exact lr w h hm hl s c nm fo f ns (by rw[hs,re hp]) (by omega) hn cS cO ca hc cA i hi cn cr cl cp cq eg bg hg hb Q cd cC
theorem tL{s:ByteArray}{nm:List UInt8}{ns:List Nat}(hs:s.data.toList=ao nm (dw ns)++[10])(ca:sS nm=true):bP s.data.toList=dg nm ns:=by
 have hr:ao nm (dw ns)=dg nm ns:=by unfold ao dg dw;rw[List.flatMap_map]
 have h:=re (ns:=ns) (oz ca)
 rw[hs,hr]
 unfold bP at h ⊢
 rw[List.takeWhile_append,h,if_pos rfl]
 simp
end
end
section
section
open Go.RowKit Go.Shelf
structure HB(W:World)(F:Nat->Prop)(h:Nat)(C:Array Value):Prop where
 own:F h
 box:W.heap[h]?=some (.cells C 63 (0,0))
 made:C[0]?=some (.bool true)
 sz:C.size=15
theorem HB.lt{W:World}{F:Nat->Prop}{h:Nat}{C:Array Value}(hh:HB W F h C):h<W.heap.size:=(Array.getElem?_eq_some_iff.1 hh.box).1
theorem HB.below{W w:World}{F:Nat->Prop}{h:Nat}{C:Array Value}(hh:HB W F h C)(k:Below W.heap.size W w):HB w F h C:=⟨hh.own,(k.block _ hh.lt).trans hh.box,hh.made,hh.sz⟩
theorem HB.at{W:World}{F:Nat->Prop}{h:Nat}{C:Array Value}(hh:HB W F h C){i:Nat}{v:Value}(hi:C[i]?=some v):W.cell? ⟨h,i,none⟩=some v/\W.frozen? ⟨h,i,none⟩=false:=
 ⟨by rw[cell_of_row _ _ i _ _ (0,0) hh.box];exact hi,by simp[World.frozen?,hh.box]⟩
theorem HB.set{W:World}{F:Nat->Prop}{h:Nat}{C:Array Value}(hh:HB W F h C){i:Nat}(hi:i≠0)(v:Value):HB (W.setCell ⟨h,i,none⟩ v) F h (C.setIfInBounds i v):=
 ⟨hh.own,aA hh.box,by rw[Array.getElem?_setIfInBounds_ne hi];exact hh.made,by simp[hh.sz]⟩
structure ft(W:World)(F:Nat->Prop)(A:Option Addr)(n c:Nat)(l:List Int):Prop where
 sl:ag ak 1 W A n l
 cap:n<=c/\c<=9223372036854775807
 ty:∀ a,0<n->A=some a->F a.block/\∃ C,W.heap[a.block]?=some (.cells C 3 (0,0))
theorem ft.keep{W w:World}{F:Nat->Prop}{A:Option Addr}{n c:Nat}{l:List Int}(h:ft W F A n c l)(hs:W.heap.size<=w.heap.size)(hk:∀ (j:Nat) (C:Array Value),W.heap[j]?=some (.cells C 3 (0,0))->w.heap[j]?=W.heap[j]?):ft w F A n c l:=by
 refine⟨⟨h.sl.1,h.sl.2.1,λhn=>?_⟩,h.cap,λa hn ha=>?_⟩
 ·obtain⟨b,o,hA,hb,hc⟩:=h.sl.2.2 hn
  obtain⟨-,C,hC⟩:=h.ty _ hn hA
  exact⟨b,o,hA,Nat.lt_of_lt_of_le hb hs,λj u hu=>(World.cell?_of_block (w:=W) (a:=⟨b,o+j,none⟩) (hk b C hC)).trans (hc j u hu)⟩
 obtain⟨h1,C,hC⟩:=h.ty a hn ha
 exact⟨h1,C,(hk _ C hC).trans hC⟩
theorem ft.below{W w:World}{F:Nat->Prop}{A:Option Addr}{n c:Nat}{l:List Int}(h:ft W F A n c l)(k:Below W.heap.size W w):ft w F A n c l:=
 h.keep k.size λj _ hC=>k.block j (Array.getElem?_eq_some_iff.1 hC).1
theorem ft.of_own{W:World}{F:Nat->Prop}{A:Option Addr}{n c B:Nat}{l:List Int}(h:W.ownsRow B 3 1 (.slice A n c) n (l.flatMap ak))(hn:n=l.length)(hF:∀ g,(Value.slice A n c).ownBlock=some g->F g):ft W F A n c l:=by
 refine⟨ag.of_own h hn,?_,λa _ ha=>?_⟩
 ·obtain⟨A0,c0,e,h1,h2,-⟩:=dK h
  simp only[Value.slice.injEq,true_and] at e
  rw[e.2]
  exact⟨h1,h2⟩
 subst ha
 have hg:(Value.slice (some a) n c).ownBlock=some a.block:=rfl
 exact⟨hF _ hg,a8 h hg⟩
theorem EI:au Tryz.prog 27 3 1 8:=au.of (z:=.int .i64 0) Tryz.underlying27 (by kernel_rfl) rfl (by omega)
theorem oH{W w1 w2:World}{F:Nat->Prop}{h i n c c' sz:Nat}{C:Array Value}{A A':Option Addr}{t:TypeId}{xs ys:List Value}(hu:Up W F)(hh:HB W F h C)(hi:i≠0)(hb:Below W.heap.size W w1)(hC:C[i]?=some (.slice A n c))(ht:t≠63)(hF:∀ g,(Value.slice A n c).ownBlock=some g->F g)(ho:W.ownsRow 0 t sz (.slice A n c) n xs)
 (c5:w2.ownsRow 0 t sz (.slice A' (n+1) c') (n+1) (xs++ys)) (hg:w1.grownBy w2 (Value.slice A n c).ownBlock) (hl:(Value.slice A' (n+1) c').ownBlock=(Value.slice A n c).ownBlock\/(Value.slice A' (n+1) c').ownBlock=some w1.heap.size) :
 (w2.cell? ⟨h,i,none⟩=some (.slice A n c)/\w2.frozen? ⟨h,i,none⟩=false)/\HB (w2.setCell ⟨h,i,none⟩ (.slice A' (n+1) c')) F h (C.setIfInBounds i (.slice A' (n+1) c'))/\(w2.setCell ⟨h,i,none⟩ (.slice A' (n+1) c')).ownsRow 0 t sz (.slice A' (n+1) c') (n+1) (xs++ys)/\(∀ g,(Value.slice A' (n+1) c').ownBlock=some g->F g)/\
  Kx (λj=>j=h\/(Value.slice A n c).ownBlock=some j) W (w2.setCell ⟨h,i,none⟩ (.slice A' (n+1) c')):=by
 have c4:=cZ (a:=h) hh.box ho ht
 have cN:Kx (λj=>(Value.slice A n c).ownBlock=some j) W w2:=((Kx.refl _ W).below hb).grown hg (λj hj=>.inl hj)
 have q1:=(cN.block h hh.lt (λe=>c4 h e rfl)).trans hh.box
 have h2:HB w2 F h C:=⟨hh.own,q1,hh.made,hh.sz⟩
 refine⟨h2.at hC,h2.set hi _,gF c5 q1 ht,λg ct=>?_,(cN.mono (λj e=>.inr e)).trans (aI w2 h i _) (λj _ e=>.inl e)⟩
 rcases hl with e|e
 ·exact hF g (e ▸ ct)
 rw[e] at ct
 cases ct
 exact hu _ hb.size
structure Kt(T:TypeId->Prop)(W w:World):Prop where
 sz:W.heap.size<=w.heap.size
 kp:∀ (j:Nat) (D:Array Value) (t:TypeId),W.heap[j]?=some (.cells D t (0,0))->¬ T t->w.heap[j]?=W.heap[j]?
theorem Kt.of_kx{T:TypeId->Prop}{S:Nat->Prop}{W w:World}(k:Kx S W w)(h:∀ j,S j->∀ D t,W.heap[j]?=some (.cells D t (0,0))->T t):Kt T W w:=
 ⟨k.size,λj D t hD hT=>k.block j (Array.getElem?_eq_some_iff.1 hD).1 λhj=>hT (h j hj D t hD)⟩
theorem Kt.of_below{T:TypeId->Prop}{W w:World}(k:Below W.heap.size W w):Kt T W w:=⟨k.size,λj _ _ hD _=>k.block j (Array.getElem?_eq_some_iff.1 hD).1⟩
theorem ql{W:World}{j:Nat}{C D:Array Value}{t u:TypeId}(h:W.heap[j]?=some (.cells C u (0,0)))(hD:W.heap[j]?=some (.cells D t (0,0))):t=u:=by
 rw[h] at hD
 simp only[Option.some.injEq,Obj.cells.injEq] at hD
 exact hD.2.1.symm
theorem ft.kt{T:TypeId->Prop}{W w:World}{F:Nat->Prop}{A:Option Addr}{n c:Nat}{l:List Int}(h:ft W F A n c l)(k:Kt T W w)(ht:¬ T 3):ft w F A n c l:=
 h.keep k.sz λj C hC=>k.kp j C _ hC ht
theorem Jz{T:TypeId->Prop}{W w:World}{e:TypeId}{sz n:Nat}{v:Value}{xs:List Value}(h:W.ownsRow 0 e sz v n xs)(k:Kt T W w)(ht:¬ T e):w.ownsRow 0 e sz v n xs:=
 aH h λg hg=>by
  obtain⟨D,hD⟩:=a8 h hg
  exact k.kp g D e hD ht
theorem Il(W:World)(F:Nat->Prop):ft W F none 0 0 []:=⟨⟨rfl,rfl,λh=>absurd h (by omega)⟩,⟨by omega,by omega⟩,λ_ h=>absurd h (by omega)⟩
theorem p7(W:World):gu [] (.iface 292 (.slice none 0 0)) W:=.inr ⟨none,0,0,[],rfl,⟨rfl,rfl,λh=>absurd h (by omega)⟩,by omega,by omega,by decide,rfl⟩
theorem iw{C:Array Value}{i j:Nat}{v:Value}(h:i≠j):(C.setIfInBounds i v)[j]?=C[j]?:=Array.getElem?_setIfInBounds_ne h
theorem J6{C:Array Value}{i:Nat}{v:Value}(h:C.size=15)(hi:i<15):(C.setIfInBounds i v)[i]?=some v:=Array.getElem?_setIfInBounds_self_of_lt (by omega)
theorem ef{wd:List UInt8}{l:List Int}(h:∀ x∈l,bF x):(ao wd l).length<=wd.length+22*l.length:=by
 unfold ao
 rw[List.length_append]
 have:(l.flatMap λx=>32 :: Lib.itoa x).length<=22*l.length:=by
  induction l with
  |nil=>simp
  |cons a l ih =>
   have h1:=Lib.itoa_length_le a (h a List.mem_cons_self).1 (h a List.mem_cons_self).2
   have h2:=ih λx hx=>h x (List.mem_cons_of_mem _ hx)
   rw[List.flatMap_cons,List.length_append,List.length_cons,List.length_cons]
   omega
 omega
theorem zG{W:World}{b:Nat}{l1 l2:List UInt8}(h:ag bW 1 W (some ⟨b,0,none⟩) 2 [⟨l1.toArray⟩,⟨l2.toArray⟩])(h1:l1.length<=1000000)(h2:l2.length<=1000000):gu (aS [l1,l2]) (.iface 292 (.slice (some ⟨b,0,none⟩) 2 2)) W:=
 .inr ⟨_,2,2,_,rfl,h,by omega,by omega,by simp[aS];omega,rfl⟩
theorem uB{W:World}{b:Nat}{l1 l2 l3:List UInt8}(h:ag bW 1 W (some ⟨b,0,none⟩) 3 [⟨l1.toArray⟩,⟨l2.toArray⟩,⟨l3.toArray⟩])(h1:l1.length<=1000000)(h2:l2.length<=1000000)(h3:l3.length<=1000000):gu (aS [l1,l2,l3]) (.iface 292 (.slice (some ⟨b,0,none⟩) 3 3)) W:=
 .inr ⟨_,3,3,_,rfl,h,by omega,by omega,by simp[aS];omega,rfl⟩
end
end
section
section
open Go.RowKit Go.Shelf
theorem uT:au Tryz.prog 22 37 2 16:=au.of (z:=.agg #[.int .i64 0,.int .i64 0]) Tryz.underlying22 (by kernel_rfl) rfl (by omega)
theorem CM(w:World)(F:Nat->Prop)(h:Nat)(C:Array Value)(hh:HB w F h C)(hu:Up w F)(A:Option Addr)(n c:Nat)(xs:List Value)(hC:C[6]?=some (.slice A n c))(ho:w.ownsRow 0 37 2 (.slice A n c) n xs)(hF:∀ g,(Value.slice A n c).ownBlock=some g->F g)(hn:n<64)(x0:Int)(x1:Int) :
 Calls Tryz.prog 195 #[.pointer (some ⟨h,6,none⟩),.int .i64 64,.agg #[.int .i64 x0,.int .i64 x1]] w λe w'=>∃ A' c',e=.returned (.iface 292 (.slice none 0 0))/\HB w' F h (C.setIfInBounds 6 (.slice A' (n+1) c'))/\
  w'.ownsRow 0 37 2 (.slice A' (n+1) c') (n+1) (xs++[.int .i64 x0,.int .i64 x1])/\(∀ g,(Value.slice A' (n+1) c').ownBlock=some g->F g)/\Kx (λj=>j=h\/(Value.slice A n c).ownBlock=some j) w w':=by
 refine ae ?_
 intro R hR
 obtain⟨w1,ad⟩:∃ w1,w.alloc (.cells #[.int .i64 x0,.int .i64 x1] 37)=w1:=⟨_,rfl⟩
 have hbx:=heap_alloc_new w (.cells #[.int .i64 x0,.int .i64 x1] 37)
 have aa:=ab w (.cells #[.int .i64 x0,.int .i64 x1] 37)
 rw[ad] at hbx aa
 have bc:=zh ad
 have a0:=zh aa
 obtain⟨d0,d1,-⟩:=ap hbx
 obtain⟨k5,-⟩:=(hh.below aa).at hC
 have Hr:=zh hR.out
 have HH:=zh hh
 have HU:=zh hu
 have bj:=zh ho
 have bE:=zh hF
 have HC:=zh hC
 have i1:¬ (n:Int)>=64:=by omega
 clear hR ad hbx aa hh hu ho hF hC
 go_enter Tryz.func195,Tryz.ntmps195
 go_upto_region 1 with fail
 rw[bc.out]
 go_upto_region 3 with fail
 have bf:Below w.heap.size w (w1.alloc (.cells #[.int .i64 x0,.int .i64 x1] 37)).drew:=(a0.out.alloc a0.out.size _).drew
 have b6:=zh (ai bj.out bf)
 have b8:=zh (Sl.drew (Sl.new w1 #[.int .i64 x0,.int .i64 x1] 37 2 1 rfl))
 have b9:=zh (show ∀ u∈[Value.int .i64 x0,.int .i64 x1],u.oneCell'=true from by intro u hu;simp at hu;rcases hu with rfl|rfl<;>rfl)
 have HM:=zh (λ(A':Option Addr) (c':Nat) (w2:World) h1 h2 h3=>oH (i:=6) (A:=A) (c:=c) (A':=A') (c':=c') (w2:=w2) (ys:=[.int .i64 x0,.int .i64 x1]) HU.out HH.out (by decide) bf HC.out (by decide) bE.out bj.out h1 h2 h3)
 have k12:=(World.cell?_alloc_lt w1 (.cells #[.int .i64 x0,.int .i64 x1] 37) ⟨h,6,none⟩ (Nat.lt_of_lt_of_le HH.out.lt a0.out.size)).trans k5
 clear bf
 go_region_law ((refine er rfl (.tmp 17) (.tmp 19) 22 rfl uT 0 (.slice A n c) n _ ?_ b6.out (some ⟨w1.heap.size,0,none⟩) 1 1 [.int .i64 x0,.int .i64 x1] ?_ b8.out b9.out (by unfold maxLen;omega) (by omega) (Nat.zero_le _) ?_;(· (simp[Act.eval]));(· (simp[Act.eval]));intro A7 c7 w7 bu bm bt;obtain⟨⟨tc,tf⟩,bp,bv,bk,bq⟩:=HM.out A7 c7 w7 bu bm bt;have bS:=zh bp;have b5:=zh bq;have b7:=zh bv;have bI:=zh bk;clear bu bm bt bp bq bv bk))
 all_goals
  have hf:=Hr.out (.returned (.iface 292 (.slice none 0 0))) _ ⟨A7,c7,rfl,bS.out,b7.out,bI.out,b5.out⟩
  have a9:=zh hf
  clear hf Hr
  go_wp2
  exact a9.out
theorem se:au Tryz.prog 23 41 2 16:=au.of (z:=.agg #[.int .i64 0,.int .i64 0]) Tryz.underlying23 (by kernel_rfl) rfl (by omega)
theorem Be(w:World)(F:Nat->Prop)(h:Nat)(C:Array Value)(hh:HB w F h C)(hu:Up w F)(A:Option Addr)(n c:Nat)(xs:List Value)(hC:C[7]?=some (.slice A n c))(ho:w.ownsRow 0 41 2 (.slice A n c) n xs)(hF:∀ g,(Value.slice A n c).ownBlock=some g->F g)(hn:n<64)(x0:Int)(x1:Int) :
 Calls Tryz.prog 196 #[.pointer (some ⟨h,7,none⟩),.int .i64 64,.agg #[.int .i64 x0,.int .i64 x1]] w λe w'=>∃ A' c',e=.returned (.iface 292 (.slice none 0 0))/\HB w' F h (C.setIfInBounds 7 (.slice A' (n+1) c'))/\
  w'.ownsRow 0 41 2 (.slice A' (n+1) c') (n+1) (xs++[.int .i64 x0,.int .i64 x1])/\(∀ g,(Value.slice A' (n+1) c').ownBlock=some g->F g)/\Kx (λj=>j=h\/(Value.slice A n c).ownBlock=some j) w w':=by
 refine ae ?_
 intro R hR
 obtain⟨w1,ad⟩:∃ w1,w.alloc (.cells #[.int .i64 x0,.int .i64 x1] 41)=w1:=⟨_,rfl⟩
 have hbx:=heap_alloc_new w (.cells #[.int .i64 x0,.int .i64 x1] 41)
 have aa:=ab w (.cells #[.int .i64 x0,.int .i64 x1] 41)
 rw[ad] at hbx aa
 have bc:=zh ad
 have a0:=zh aa
 obtain⟨d0,d1,-⟩:=ap hbx
 obtain⟨k5,-⟩:=(hh.below aa).at hC
 have Hr:=zh hR.out
 have HH:=zh hh
 have HU:=zh hu
 have bj:=zh ho
 have bE:=zh hF
 have HC:=zh hC
 have i1:¬ (n:Int)>=64:=by omega
 clear hR ad hbx aa hh hu ho hF hC
 go_enter Tryz.func196,Tryz.ntmps196
 go_upto_region 1 with fail
 rw[bc.out]
 go_upto_region 3 with fail
 have bf:Below w.heap.size w (w1.alloc (.cells #[.int .i64 x0,.int .i64 x1] 41)).drew:=(a0.out.alloc a0.out.size _).drew
 have b6:=zh (ai bj.out bf)
 have b8:=zh (Sl.drew (Sl.new w1 #[.int .i64 x0,.int .i64 x1] 41 2 1 rfl))
 have b9:=zh (show ∀ u∈[Value.int .i64 x0,.int .i64 x1],u.oneCell'=true from by intro u hu;simp at hu;rcases hu with rfl|rfl<;>rfl)
 have HM:=zh (λ(A':Option Addr) (c':Nat) (w2:World) h1 h2 h3=>oH (i:=7) (A:=A) (c:=c) (A':=A') (c':=c') (w2:=w2) (ys:=[.int .i64 x0,.int .i64 x1]) HU.out HH.out (by decide) bf HC.out (by decide) bE.out bj.out h1 h2 h3)
 have k12:=(World.cell?_alloc_lt w1 (.cells #[.int .i64 x0,.int .i64 x1] 41) ⟨h,7,none⟩ (Nat.lt_of_lt_of_le HH.out.lt a0.out.size)).trans k5
 clear bf
 go_region_law ((refine er rfl (.tmp 17) (.tmp 19) 23 rfl se 0 (.slice A n c) n _ ?_ b6.out (some ⟨w1.heap.size,0,none⟩) 1 1 [.int .i64 x0,.int .i64 x1] ?_ b8.out b9.out (by unfold maxLen;omega) (by omega) (Nat.zero_le _) ?_;(· (simp[Act.eval]));(· (simp[Act.eval]));intro A7 c7 w7 bu bm bt;obtain⟨⟨tc,tf⟩,bp,bv,bk,bq⟩:=HM.out A7 c7 w7 bu bm bt;have bS:=zh bp;have b5:=zh bq;have b7:=zh bv;have bI:=zh bk;clear bu bm bt bp bq bv bk))
 all_goals
  have hf:=Hr.out (.returned (.iface 292 (.slice none 0 0))) _ ⟨A7,c7,rfl,bS.out,b7.out,bI.out,b5.out⟩
  have a9:=zh hf
  clear hf Hr
  go_wp2
  exact a9.out
theorem uU:au Tryz.prog 24 43 4 48:=au.of (z:=.agg #[.int .i64 0,.int .i64 0,.int .i64 0,.slice none 0 0]) Tryz.underlying24 (by kernel_rfl) rfl (by omega)
theorem CO(w:World)(F:Nat->Prop)(h:Nat)(C:Array Value)(hh:HB w F h C)(hu:Up w F)(A:Option Addr)(n c:Nat)(xs:List Value)(hC:C[11]?=some (.slice A n c))(ho:w.ownsRow 0 43 4 (.slice A n c) n xs)(hF:∀ g,(Value.slice A n c).ownBlock=some g->F g)(hn:n<32)(x0:Int)(x1:Int)(x2:Int)(x3:Value)(c6:x3.oneCell'=true) :
 Calls Tryz.prog 204 #[.pointer (some ⟨h,11,none⟩),.int .i64 32,.agg #[.int .i64 x0,.int .i64 x1,.int .i64 x2,x3]] w λe w'=>∃ A' c',e=.returned (.iface 292 (.slice none 0 0))/\HB w' F h (C.setIfInBounds 11 (.slice A' (n+1) c'))/\
  w'.ownsRow 0 43 4 (.slice A' (n+1) c') (n+1) (xs++[.int .i64 x0,.int .i64 x1,.int .i64 x2,x3])/\(∀ g,(Value.slice A' (n+1) c').ownBlock=some g->F g)/\Kx (λj=>j=h\/(Value.slice A n c).ownBlock=some j) w w':=by
 refine ae ?_
 intro R hR
 obtain⟨w1,ad⟩:∃ w1,w.alloc (.cells #[.int .i64 x0,.int .i64 x1,.int .i64 x2,x3] 43)=w1:=⟨_,rfl⟩
 have hbx:=heap_alloc_new w (.cells #[.int .i64 x0,.int .i64 x1,.int .i64 x2,x3] 43)
 have aa:=ab w (.cells #[.int .i64 x0,.int .i64 x1,.int .i64 x2,x3] 43)
 rw[ad] at hbx aa
 have bc:=zh ad
 have a0:=zh aa
 obtain⟨d0,d1,d2,d3,-⟩:=an hbx
 obtain⟨k5,-⟩:=(hh.below aa).at hC
 have Hr:=zh hR.out
 have HH:=zh hh
 have HU:=zh hu
 have bj:=zh ho
 have bE:=zh hF
 have HC:=zh hC
 have i1:¬ (n:Int)>=32:=by omega
 clear hR ad hbx aa hh hu ho hF hC
 go_enter Tryz.func204,Tryz.ntmps204
 go_upto_region 1 with fail
 rw[bc.out]
 go_upto_region 3 with fail
 have bf:Below w.heap.size w (w1.alloc (.cells #[.int .i64 x0,.int .i64 x1,.int .i64 x2,x3] 43)).drew:=(a0.out.alloc a0.out.size _).drew
 have b6:=zh (ai bj.out bf)
 have b8:=zh (Sl.drew (Sl.new w1 #[.int .i64 x0,.int .i64 x1,.int .i64 x2,x3] 43 4 1 rfl))
 have b9:=zh (show ∀ u∈[Value.int .i64 x0,.int .i64 x1,.int .i64 x2,x3],u.oneCell'=true from by intro u hu;simp at hu;rcases hu with rfl|rfl|rfl|rfl;(· rfl);(· rfl);(· rfl);exact c6)
 have HM:=zh (λ(A':Option Addr) (c':Nat) (w2:World) h1 h2 h3=>oH (i:=11) (A:=A) (c:=c) (A':=A') (c':=c') (w2:=w2) (ys:=[.int .i64 x0,.int .i64 x1,.int .i64 x2,x3]) HU.out HH.out (by decide) bf HC.out (by decide) bE.out bj.out h1 h2 h3)
 have k12:=(World.cell?_alloc_lt w1 (.cells #[.int .i64 x0,.int .i64 x1,.int .i64 x2,x3] 43) ⟨h,11,none⟩ (Nat.lt_of_lt_of_le HH.out.lt a0.out.size)).trans k5
 clear bf
 go_region_law ((refine er rfl (.tmp 17) (.tmp 19) 24 rfl uU 0 (.slice A n c) n _ ?_ b6.out (some ⟨w1.heap.size,0,none⟩) 1 1 [.int .i64 x0,.int .i64 x1,.int .i64 x2,x3] ?_ b8.out b9.out (by unfold maxLen;omega) (by omega) (Nat.zero_le _) ?_;(· (simp[Act.eval]));(· (simp[Act.eval]));intro A7 c7 w7 bu bm bt;obtain⟨⟨tc,tf⟩,bp,bv,bk,bq⟩:=HM.out A7 c7 w7 bu bm bt;have bS:=zh bp;have b5:=zh bq;have b7:=zh bv;have bI:=zh bk;clear bu bm bt bp bq bv bk))
 all_goals
  have hf:=Hr.out (.returned (.iface 292 (.slice none 0 0))) _ ⟨A7,c7,rfl,bS.out,b7.out,bI.out,b5.out⟩
  have a9:=zh hf
  clear hf Hr
  go_wp2
  exact a9.out
theorem sg:au Tryz.prog 25 94 4 32:=au.of (z:=.agg #[.int .i64 0,.int .i64 0,.int .i64 0,.bool false]) Tryz.underlying25 (by kernel_rfl) rfl (by omega)
theorem Bf(w:World)(F:Nat->Prop)(h:Nat)(C:Array Value)(hh:HB w F h C)(hu:Up w F)(A:Option Addr)(n c:Nat)(xs:List Value)(hC:C[12]?=some (.slice A n c))(ho:w.ownsRow 0 94 4 (.slice A n c) n xs)(hF:∀ g,(Value.slice A n c).ownBlock=some g->F g)(hn:n<16)(x0:Int)(x1:Int)(x2:Int)(x3:Bool) :
 Calls Tryz.prog 206 #[.pointer (some ⟨h,12,none⟩),.int .i64 16,.agg #[.int .i64 x0,.int .i64 x1,.int .i64 x2,.bool x3]] w λe w'=>∃ A' c',e=.returned (.iface 292 (.slice none 0 0))/\HB w' F h (C.setIfInBounds 12 (.slice A' (n+1) c'))/\
  w'.ownsRow 0 94 4 (.slice A' (n+1) c') (n+1) (xs++[.int .i64 x0,.int .i64 x1,.int .i64 x2,.bool x3])/\(∀ g,(Value.slice A' (n+1) c').ownBlock=some g->F g)/\Kx (λj=>j=h\/(Value.slice A n c).ownBlock=some j) w w':=by
 refine ae ?_
 intro R hR
 obtain⟨w1,ad⟩:∃ w1,w.alloc (.cells #[.int .i64 x0,.int .i64 x1,.int .i64 x2,.bool x3] 94)=w1:=⟨_,rfl⟩
 have hbx:=heap_alloc_new w (.cells #[.int .i64 x0,.int .i64 x1,.int .i64 x2,.bool x3] 94)
 have aa:=ab w (.cells #[.int .i64 x0,.int .i64 x1,.int .i64 x2,.bool x3] 94)
 rw[ad] at hbx aa
 have bc:=zh ad
 have a0:=zh aa
 obtain⟨d0,d1,d2,d3,-⟩:=an hbx
 obtain⟨k5,-⟩:=(hh.below aa).at hC
 have Hr:=zh hR.out
 have HH:=zh hh
 have HU:=zh hu
 have bj:=zh ho
 have bE:=zh hF
 have HC:=zh hC
 have i1:¬ (n:Int)>=16:=by omega
 clear hR ad hbx aa hh hu ho hF hC
 go_enter Tryz.func206,Tryz.ntmps206
 go_upto_region 1 with fail
 rw[bc.out]
 go_upto_region 3 with fail
 have bf:Below w.heap.size w (w1.alloc (.cells #[.int .i64 x0,.int .i64 x1,.int .i64 x2,.bool x3] 94)).drew:=(a0.out.alloc a0.out.size _).drew
 have b6:=zh (ai bj.out bf)
 have b8:=zh (Sl.drew (Sl.new w1 #[.int .i64 x0,.int .i64 x1,.int .i64 x2,.bool x3] 94 4 1 rfl))
 have b9:=zh (show ∀ u∈[Value.int .i64 x0,.int .i64 x1,.int .i64 x2,.bool x3],u.oneCell'=true from by intro u hu;simp at hu;rcases hu with rfl|rfl|rfl|rfl<;>rfl)
 have HM:=zh (λ(A':Option Addr) (c':Nat) (w2:World) h1 h2 h3=>oH (i:=12) (A:=A) (c:=c) (A':=A') (c':=c') (w2:=w2) (ys:=[.int .i64 x0,.int .i64 x1,.int .i64 x2,.bool x3]) HU.out HH.out (by decide) bf HC.out (by decide) bE.out bj.out h1 h2 h3)
 have k12:=(World.cell?_alloc_lt w1 (.cells #[.int .i64 x0,.int .i64 x1,.int .i64 x2,.bool x3] 94) ⟨h,12,none⟩ (Nat.lt_of_lt_of_le HH.out.lt a0.out.size)).trans k5
 clear bf
 go_region_law ((refine er rfl (.tmp 17) (.tmp 19) 25 rfl sg 0 (.slice A n c) n _ ?_ b6.out (some ⟨w1.heap.size,0,none⟩) 1 1 [.int .i64 x0,.int .i64 x1,.int .i64 x2,.bool x3] ?_ b8.out b9.out (by unfold maxLen;omega) (by omega) (Nat.zero_le _) ?_;(· (simp[Act.eval]));(· (simp[Act.eval]));intro A7 c7 w7 bu bm bt;obtain⟨⟨tc,tf⟩,bp,bv,bk,bq⟩:=HM.out A7 c7 w7 bu bm bt;have bS:=zh bp;have b5:=zh bq;have b7:=zh bv;have bI:=zh bk;clear bu bm bt bp bq bv bk))
 all_goals
  have hf:=Hr.out (.returned (.iface 292 (.slice none 0 0))) _ ⟨A7,c7,rfl,bS.out,b7.out,bI.out,b5.out⟩
  have a9:=zh hf
  clear hf Hr
  go_wp2
  exact a9.out
end
end
section
section
open Go.RowKit Go.Shelf
theorem Bg(w:World)(F:Nat->Prop)(h:Nat)(C:Array Value)(hh:HB w F h C)(hu:Up w F)(A:Option Addr)(n c:Nat)(xs:List Value)(hC:C[6]?=some (.slice A n c))(ho:w.ownsRow 0 37 2 (.slice A n c) n xs)(hF:∀ g,(Value.slice A n c).ownBlock=some g->F g)(hn:n<64)(B:Nat)(A1:Option Addr)(n1 c1:Nat)(A2:Option Addr)(n2 c2:Nat)(ws:List (List UInt8))(x0 x1:Int)(hA:cU B w A1 n1 c1 A2 n2 c2 ws [x0,x1]) :
 Calls Tryz.prog 105 #[.pointer (some ⟨h,0,none⟩),.agg #[.slice A1 n1 c1,.slice A2 n2 c2]] w λe w'=>∃ A' c',e=.returned (.iface 292 (.slice none 0 0))/\HB w' F h (C.setIfInBounds 6 (.slice A' (n+1) c'))/\
  w'.ownsRow 0 37 2 (.slice A' (n+1) c') (n+1) (xs++[.int .i64 x0,.int .i64 x1])/\(∀ g,(Value.slice A' (n+1) c').ownBlock=some g->F g)/\Kx (λj=>j=h\/(Value.slice A n c).ownBlock=some j) w w':=by
 refine ae ?_
 intro R hR
 have l2:=hA.l2
 simp only[List.length_cons,List.length_nil,Nat.zero_add,Nat.reduceAdd] at l2
 subst l2
 obtain⟨w1,ad⟩:∃ w1,w.alloc (.cells #[.slice A1 n1 c1,.slice A2 2 c2] 127)=w1:=⟨_,rfl⟩
 have hbx:=heap_alloc_new w (.cells #[.slice A1 n1 c1,.slice A2 2 c2] 127)
 have aa:=ab w (.cells #[.slice A1 n1 c1,.slice A2 2 c2] 127)
 rw[ad] at hbx aa
 have bc:=zh ad
 have aF:=hA.below aa
 obtain⟨bi,oi,y0,rfl,cj,bw,p0⟩:=aF.s2.at1 (k:=0) (by omega)
 obtain⟨bi',oi',y1,e1,-,bD,p1⟩:=aF.s2.at1 (k:=1) (by omega)
 cases e1
 simp only[List.getElem?_cons_zero,List.getElem?_cons_succ,Option.some.injEq] at bw bD
 subst bw bD
 rw[Nat.add_zero] at p0
 obtain⟨d0,d1,-⟩:=ap hbx
 have am:Below w.heap.size w w1.drew:=aa.trans ((dp (w:=w1) 1).mono aa.size)
 have HG:=zh (CM w1.drew F h C (hh.below am) (hu.below am) A n c xs hC (ai ho am) hF hn x0 x1)
 have HK:=zh (ar (S:=λj=>j=h\/(Value.slice A n c).ownBlock=some j) am)
 have Hr:=zh hR.out
 clear hR hA aF hbx aa hh ad hu ho am hF hC
 go_enter Tryz.func105,Tryz.ntmps105
 go_upto_region 1 with fail
 rw[bc.out]
 go_still_tail 12,(by kernel_rfl)
 go_wp2_with fail
 refine HG.out.mono ?_
 rintro e w2 ⟨A',c',rfl,h1,h2,h3,h4⟩
 have hf:=Hr.out (.returned (.iface 292 (.slice none 0 0))) w2 ⟨A',c',rfl,h1,h2,h3,HK.out.trans h4 (λ_ _ e=>e)⟩
 have a9:=zh hf
 clear hf h1 h2 h3 h4 Hr
 go_wp2_with fail
 exact a9.out
theorem yS(w:World)(F:Nat->Prop)(h:Nat)(C:Array Value)(hh:HB w F h C)(hu:Up w F)(A:Option Addr)(n c:Nat)(xs:List Value)(hC:C[7]?=some (.slice A n c))(ho:w.ownsRow 0 41 2 (.slice A n c) n xs)(hF:∀ g,(Value.slice A n c).ownBlock=some g->F g)(hn:n<64)(B:Nat)(A1:Option Addr)(n1 c1:Nat)(A2:Option Addr)(n2 c2:Nat)(ws:List (List UInt8))(x0 x1:Int)(hA:cU B w A1 n1 c1 A2 n2 c2 ws [x0,x1]) :
 Calls Tryz.prog 106 #[.pointer (some ⟨h,0,none⟩),.agg #[.slice A1 n1 c1,.slice A2 n2 c2]] w λe w'=>∃ A' c',e=.returned (.iface 292 (.slice none 0 0))/\HB w' F h (C.setIfInBounds 7 (.slice A' (n+1) c'))/\
  w'.ownsRow 0 41 2 (.slice A' (n+1) c') (n+1) (xs++[.int .i64 x0,.int .i64 x1])/\(∀ g,(Value.slice A' (n+1) c').ownBlock=some g->F g)/\Kx (λj=>j=h\/(Value.slice A n c).ownBlock=some j) w w':=by
 refine ae ?_
 intro R hR
 have l2:=hA.l2
 simp only[List.length_cons,List.length_nil,Nat.zero_add,Nat.reduceAdd] at l2
 subst l2
 obtain⟨w1,ad⟩:∃ w1,w.alloc (.cells #[.slice A1 n1 c1,.slice A2 2 c2] 127)=w1:=⟨_,rfl⟩
 have hbx:=heap_alloc_new w (.cells #[.slice A1 n1 c1,.slice A2 2 c2] 127)
 have aa:=ab w (.cells #[.slice A1 n1 c1,.slice A2 2 c2] 127)
 rw[ad] at hbx aa
 have bc:=zh ad
 have aF:=hA.below aa
 obtain⟨bi,oi,y0,rfl,cj,bw,p0⟩:=aF.s2.at1 (k:=0) (by omega)
 obtain⟨bi',oi',y1,e1,-,bD,p1⟩:=aF.s2.at1 (k:=1) (by omega)
 cases e1
 simp only[List.getElem?_cons_zero,List.getElem?_cons_succ,Option.some.injEq] at bw bD
 subst bw bD
 rw[Nat.add_zero] at p0
 obtain⟨d0,d1,-⟩:=ap hbx
 have am:Below w.heap.size w w1.drew:=aa.trans ((dp (w:=w1) 1).mono aa.size)
 have HG:=zh (Be w1.drew F h C (hh.below am) (hu.below am) A n c xs hC (ai ho am) hF hn x0 x1)
 have HK:=zh (ar (S:=λj=>j=h\/(Value.slice A n c).ownBlock=some j) am)
 have Hr:=zh hR.out
 clear hR hA aF hbx aa hh ad hu ho am hF hC
 go_enter Tryz.func106,Tryz.ntmps106
 go_upto_region 1 with fail
 rw[bc.out]
 go_still_tail 12,(by kernel_rfl)
 go_wp2_with fail
 refine HG.out.mono ?_
 rintro e w2 ⟨A',c',rfl,h1,h2,h3,h4⟩
 have hf:=Hr.out (.returned (.iface 292 (.slice none 0 0))) w2 ⟨A',c',rfl,h1,h2,h3,HK.out.trans h4 (λ_ _ e=>e)⟩
 have a9:=zh hf
 clear hf h1 h2 h3 h4 Hr
 go_wp2_with fail
 exact a9.out
end
end
section
section
open Go.RowKit Go.Shelf
theorem yT(w:World)(F:Nat->Prop)(h:Nat)(C:Array Value)(hh:HB w F h C)(hu:Up w F)(A:Option Addr)(n c:Nat)(xs:List Value)(hC:C[12]?=some (.slice A n c))(ho:w.ownsRow 0 94 4 (.slice A n c) n xs)(hF:∀ g,(Value.slice A n c).ownBlock=some g->F g)(hn:n<16)(B:Nat)(A1:Option Addr)(n1 c1:Nat)(A2:Option Addr)(n2 c2:Nat)(u:List UInt8)(x y z:Int)(hA:cU B w A1 n1 c1 A2 n2 c2 [u] [x,y,z]) :
 Calls Tryz.prog 120 #[.pointer (some ⟨h,0,none⟩),.agg #[.slice A1 n1 c1,.slice A2 n2 c2]] w λe w'=>∃ A' c',e=.returned (.iface 292 (.slice none 0 0))/\HB w' F h (C.setIfInBounds 12 (.slice A' (n+1) c'))/\
  w'.ownsRow 0 94 4 (.slice A' (n+1) c') (n+1) (xs++[.int .i64 x,.int .i64 y,.int .i64 z,.bool (decide (u=[116,117,114,110]))])/\(∀ g,(Value.slice A' (n+1) c').ownBlock=some g->F g)/\Kx (λj=>j=h\/(Value.slice A n c).ownBlock=some j) w w':=by
 refine ae ?_
 intro R hR
 have l1:=hA.l1
 have l2:=hA.l2
 simp only[List.length_cons,List.length_nil,Nat.zero_add,Nat.reduceAdd] at l1 l2
 subst l1 l2
 obtain⟨w1,ad⟩:∃ w1,w.alloc (.cells #[.slice A1 1 c1,.slice A2 3 c2] 127)=w1:=⟨_,rfl⟩
 have hbx:=heap_alloc_new w (.cells #[.slice A1 1 c1,.slice A2 3 c2] 127)
 have aa:=ab w (.cells #[.slice A1 1 c1,.slice A2 3 c2] 127)
 rw[ad] at hbx aa
 have bc:=zh ad
 have am:Below w.heap.size w w1.drew:=aa.trans ((dp (w:=w1) 1).mono aa.size)
 have aF:=hA.below aa
 obtain⟨bi,oi,x0,rfl,cj,bw,p0⟩:=aF.s2.at1 (k:=0) (by omega)
 obtain⟨bi',oi',x1,e1,-,bD,p1⟩:=aF.s2.at1 (k:=1) (by omega)
 cases e1
 obtain⟨bi',oi',x2,e1,-,cc,p2⟩:=aF.s2.at1 (k:=2) (by omega)
 cases e1
 obtain⟨bs,os,y0,rfl,c9,ci,r0⟩:=di aF.s1 (k:=0) (by omega)
 simp only[List.getElem?_cons_zero,List.getElem?_cons_succ,Option.some.injEq] at bw bD cc
 subst bw bD cc
 have cV:y0.toList=u:=by
  unfold aP at ci
  simp only[List.map_cons,List.map_nil,List.getElem?_cons_zero,Option.some.injEq] at ci
  rw[← ci,Lib.toList_data]
 rw[Nat.add_zero] at p0 r0
 obtain⟨c0,c1',-⟩:=ap hbx
 have hp:(y0.toList==[116,117,114,110])=decide (u=[116,117,114,110]):=by rw[cV,Bool.eq_iff_iff,beq_iff_eq,decide_eq_true_eq]
 obtain⟨t,ht⟩:∃ t,decide (u=[116,117,114,110])=t:=⟨_,rfl⟩
 rw[ht] at hp hR
 have Hr:=zh hR.out
 have HG:=zh (Bf w1.drew F h C (hh.below am) (hu.below am) A n c xs hC (ai ho am) hF hn x y z t)
 have HK:=zh (ar (S:=λj=>j=h\/(Value.slice A n c).ownBlock=some j) am)
 clear hR hA aF hbx aa am ci cV ht hh hu ad ho hF hC
 go_enter Tryz.func120,Tryz.ntmps120
 go_upto_region 1 with fail
 rw[bc.out]
 go_wp2_with fail
 go_still_tail 18,(by kernel_rfl)
 go_wp2_with fail
 refine HG.out.mono ?_
 rintro e w2 ⟨A',c',rfl,h1,h2,h3,h4⟩
 have hf:=Hr.out _ w2 ⟨A',c',rfl,h1,h2,h3,HK.out.trans h4 (λ_ _ e=>e)⟩
 have a9:=zh hf
 clear hf h1 h2 h3 h4 Hr
 go_wp2_with fail
 exact a9.out
theorem Kc(W:World)(F:Nat->Prop)(A:Option Addr)(n c:Nat)(x0 x1 x2:Int)(l:List Int)(hI:ft W F A n c (x0 :: x1 :: x2 :: l)):∃ A',ft W F A' l.length (c-3) l/\∀ w,(Instr.slice 27 (.slice A n c) (some (.int .i64 3)) none none).run Tryz.prog w=.ok (.slice A' l.length (c-3)) w:=by
 have hn:n=l.length+3:=hI.sl.1
 have dd:=hI.cap
 obtain⟨b,o,rfl,hb,hc⟩:=hI.sl.2.2 (by omega)
 have ht:Tryz.prog.underlying 27=some (.slice (Tryz.prog.elem 27)):=by simp[Program.elem,Tryz.underlying27]
 have he:Tryz.prog.elem 27=3:=by simp[Program.elem,Tryz.underlying27]
 have hz:∀ w,(Go.sizeOf 3).run Tryz.prog w=.ok 1 w:=λw=>by kernel_rfl
 have hr:∀ w,(Instr.slice 27 (.slice (some ⟨b,o,none⟩) n c) (some (.int .i64 3)) none none).run Tryz.prog w=.ok (.slice (if c=3 then some ⟨b,o,none⟩ else some ⟨b,o+3,none⟩) l.length (c-3)) w:=λw=>by
  rw[run_slice_l w 27 _ _ _ ht .i64 _ (by omega) (by omega),he,hz]
  by_cases h3:c=3
  ·simp[Result.andThen,sliced,h3];omega
  simp[Result.andThen,sliced,Addr.add,h3];omega
 refine⟨_,⟨⟨rfl,?_,λh0=>?_⟩,⟨by omega,by omega⟩,λa h0 ha=>?_⟩,hr⟩
 ·have:=hI.sl.2.1
  simp only[List.flatMap_cons,List.length_append,jM] at this
  omega
 ·rw[if_neg (by omega)]
  refine⟨b,o+3,rfl,hb,λj u hj=>?_⟩
  have:=hc (j+3) u (by simpa[ak] using hj)
  rw[show o+3+j=o+(j+3) by omega]
  exact this
 rw[if_neg (by omega)] at ha
 cases ha
 exact hI.ty ⟨b,o,none⟩ (by omega) rfl
theorem Bi(w:World)(F:Nat->Prop)(h:Nat)(C:Array Value)(hh:HB w F h C)(hu:Up w F)(A:Option Addr)(n c:Nat)(xs:List Value)(hC:C[11]?=some (.slice A n c))(ho:w.ownsRow 0 43 4 (.slice A n c) n xs)(hF:∀ g,(Value.slice A n c).ownBlock=some g->F g)(hn:n<32)(B:Nat)(hB:∀ j,B<=j->F j)(A1:Option Addr)(n1 c1:Nat)(A2:Option Addr)(n2 c2:Nat)(ws:List (List UInt8))(x y z:Int)(l:List Int)(hA:cU B w A1 n1 c1 A2 n2 c2 ws (x :: y :: z :: l)) :
 Calls Tryz.prog 117 #[.pointer (some ⟨h,0,none⟩),.agg #[.slice A1 n1 c1,.slice A2 n2 c2]] w λe w'=>∃ A' c' As cs,e=.returned (.iface 292 (.slice none 0 0))/\HB w' F h (C.setIfInBounds 11 (.slice A' (n+1) c'))/\
  w'.ownsRow 0 43 4 (.slice A' (n+1) c') (n+1) (xs++[.int .i64 x,.int .i64 y,.int .i64 z,.slice As l.length cs])/\(∀ g,(Value.slice A' (n+1) c').ownBlock=some g->F g)/\ft w' F As l.length cs l/\Kx (λj=>j=h\/(Value.slice A n c).ownBlock=some j) w w':=by
 refine ae ?_
 intro R hR
 have l2:=hA.l2
 simp only[List.length_cons] at l2
 obtain⟨w1,ad⟩:∃ w1,w.alloc (.cells #[.slice A1 n1 c1,.slice A2 n2 c2] 127)=w1:=⟨_,rfl⟩
 have hbx:=heap_alloc_new w (.cells #[.slice A1 n1 c1,.slice A2 n2 c2] 127)
 have aa:=ab w (.cells #[.slice A1 n1 c1,.slice A2 n2 c2] 127)
 rw[ad] at hbx aa
 have bc:=zh ad
 have aF:=hA.below aa
 have cI:ft w F A2 n2 c2 (x :: y :: z :: l):=ft.of_own hA.o2 hA.l2 (λg hg=>hB g (lV hA.o2 hg))
 obtain⟨As,hI,dk⟩:=Kc w F A2 n2 c2 x y z l cI
 obtain⟨bi,oi,y0,rfl,cj,bw,p0⟩:=aF.s2.at1 (k:=0) (by omega)
 obtain⟨bi',oi',y1,e1,-,bD,p1⟩:=aF.s2.at1 (k:=1) (by omega)
 cases e1
 obtain⟨bi',oi',y2,e1,-,cc,p2⟩:=aF.s2.at1 (k:=2) (by omega)
 cases e1
 simp only[List.getElem?_cons_zero,List.getElem?_cons_succ,Option.some.injEq] at bw bD cc
 subst bw bD cc
 rw[Nat.add_zero] at p0
 obtain⟨d0,d1,-⟩:=ap hbx
 have am:Below w.heap.size w w1.drew:=aa.trans ((dp (w:=w1) 1).mono aa.size)
 have i0:0<n2:=by omega
 have j1:1<n2:=by omega
 have j2:2<n2:=by omega
 have i1:(1:Int)<(n2:Int):=by omega
 have i2:(2:Int)<(n2:Int):=by omega
 have HG:=zh (CO w1.drew F h C (hh.below am) (hu.below am) A n c xs hC (ai ho am) hF hn x y z (.slice As l.length (c2-3)) rfl)
 have HK:=zh (ar (S:=λj=>j=h\/(Value.slice A n c).ownBlock=some j) am)
 have HI:=zh hI
 have HH:=zh hh
 have HO:=zh ho
 have Hr:=zh hR.out
 have c8:=zh l2
 clear hR hA aF hbx aa hh ad hu ho am hF hC hI cI hB l2
 go_enter Tryz.func117,Tryz.ntmps117
 go_upto_region 1 with fail
 rw[bc.out]
 go_upto_region 2 with fail
 go_still_tail 15,(by kernel_rfl)
 go_wp2_with fail
 refine HG.out.mono ?_
 rintro e w2 ⟨A',c',rfl,h1,h2,h3,h4⟩
 have hk:=HK.out.trans h4 (λ_ _ e=>e)
 have cL:ft w2 F As l.length (c2-3) l:=HI.out.keep hk.size λj D hD=>hk.block j (Array.getElem?_eq_some_iff.1 hD).1 λhj=>by
  rcases hj with rfl|hj
  ·exact absurd (ql HH.out.box hD) (by decide)
  obtain⟨E,hE⟩:=a8 HO.out hj
  exact absurd (ql hE hD) (by decide)
 have hf:=Hr.out (.returned (.iface 292 (.slice none 0 0))) w2 ⟨A',c',_,_,rfl,h1,h2,h3,cL,hk⟩
 have a9:=zh hf
 clear hf h1 h2 h3 h4 hk cL Hr
 go_wp2_with fail
 exact a9.out
end
end
end Go.Proofs.YtgbnicokglpdbaaGreatDoor
