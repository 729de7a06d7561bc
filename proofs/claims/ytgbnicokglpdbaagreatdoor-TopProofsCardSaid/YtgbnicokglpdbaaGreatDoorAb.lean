/-
slices; conditions: those of each theorem.
-/
import Derived.Test.YtgbnicokglpdbaaGreatDoorAa
import Derived.Deep.RegionLaw
import Derived.LoopIn
import Derived.LoopNIn
import Derived.OwnWalkIn
import Derived.RangeFuncBound
import Derived.RangeFuncNested
import Derived.Shelf.RegionOpen
namespace Go.Proofs.YtgbnicokglpdbaaGreatDoor
set_option maxHeartbeats 8000000
set_option maxRecDepth 8000
section
section
open Go.RowKit Go.Maps
theorem Jq:(Tryz.prog.info? 189).map (λi=>(i.zero,i.size,i.bytes))=some (some (.agg #[.string ByteArray.empty,.string ByteArray.empty,.string ByteArray.empty,.int .i64 0]),4,56):=by kernel_rfl
theorem CD:au Tryz.prog 110 189 4 56:=au.of (z:=.agg #[.string ByteArray.empty,.string ByteArray.empty,.string ByteArray.empty,.int .i64 0]) Tryz.underlying110 Jq rfl (by omega)
theorem Jo:(Tryz.prog.info? 110).map (λi=>(i.zero,i.size,i.bytes))=some (some (.slice none 0 0),1,24):=by kernel_rfl
theorem Jg:au Tryz.prog 107 110 1 24:=au.of (z:=.slice none 0 0) Tryz.underlying107 Jo rfl (by omega)
theorem AV(w:World)(A:Option Addr)(n c:Nat)(l:List Mv)(hX:ag fk 4 w A n l)(h1:1<=n)(hn:n<=1000) :
 Calls Tryz.prog 171 #[.slice A n c] w λe w'=>∃ A' c',e=.returned (.slice A' n c')/\w'.ownsRow w.heap.size 189 4 (.slice A' n c') n (l.flatMap fk)/\Below w.heap.size w w':=by
 refine ae ?_
 intro R hR
 have Hr:=zh hR.out
 have HX:=zh hX
 obtain⟨b,o,m,rfl,-⟩:=hX.mv_at (k:=0) (by omega)
 have HO:=zh (iU w #[] 189 4 0 w.heap.size rfl (Nat.le_refl _) (by unfold maxLen;omega) rfl)
 have HS:=zh (hX.alloc (.cells #[] 189))
 have gk:=λ(W:World)=>Lib.run_eql_slice_nil (P:=Tryz.prog) W 110 189 (some ⟨b,o,none⟩) n c 0 0 Tryz.underlying110
 clear hR hX
 go_enter Tryz.func171,Tryz.ntmps171
 go_wp2_with (at_builtin;refine ax rfl (.tmp 5) (.tmp 6) _ rfl CD w.heap.size _ _ _ rfl HO.out _ _ _ _ rfl HS.out.2 (De _) (by unfold maxLen;omega) (by omega) (by simp) ?_;intro A2 c2 w2 eg d6 f5;have e5:=zh eg;have ev:=zh d6;clear eg d6 f5)
 have h2:=e5.out
 rw[Nat.zero_add] at h2
 exact Hr.out _ _ ⟨A2,c2,rfl,by simpa using h2,aL (ab w _) HO.out (Nat.le_refl _) (by simp) ev.out⟩
theorem uC(d:Dk)(x:List UInt8):(d.app x).2=0\/(d.app x).2=9/\(d.app x).1=d\/(d.app x).2=11:=by
 unfold Dk.app
 split
 ·exact .inr (.inr rfl)
 split
 ·exact .inr (.inl ⟨rfl,rfl⟩)
 dsimp only
 split
 ·exact .inr (.inr rfl)
 exact .inl rfl
theorem tq(d:Dk):d.sync.2=0\/d.sync.2=11:=by
 unfold Dk.sync
 split
 ·exact .inr rfl
 split
 ·exact .inr rfl
 exact .inl rfl
theorem Gs(b:Bk)(l:List Mv):b.would l=0\/b.would l=1\/b.would l=5\/b.would l=8\/b.would l=10:=by
 unfold Bk.would
 split
 ·exact .inr (.inr (.inr (.inl rfl)))
 split
 ·rcases oG (bM b.E) l (fN l) 0 with h|h|h
  ·exact .inr (.inr (.inl h))
  ·exact .inr (.inr (.inr (.inr h)))
  exact .inl h
 exact .inr (.inl rfl)
structure Bd(W:World)(F:Nat->Prop)(a dk:Nat)(d:Dk)(b:Bk):Prop where
 disk:cJ W F dk d
 book:gj W F a dk b
theorem Bd.below{W w:World}{F:Nat->Prop}{a dk:Nat}{d:Dk}{b:Bk}(h:Bd W F a dk d b)(k:Below W.heap.size W w):Bd w F a dk d b:=⟨h.disk.below k,h.book.below k⟩
theorem z8{W w:World}{F:Nat->Prop}{dk n:Nat}{d:Dk}{v:Value}{xs:List Value}(h:W.ownsRow 0 189 4 v n xs)(hd:cJ W F dk d)(k:Kx (ux W F dk) W w):w.ownsRow 0 189 4 v n xs:=
 aH h λg hg=>by
  obtain⟨C,hC⟩:=a8 h hg
  refine k.block g (Array.getElem?_eq_some_iff.1 hC).1 ?_
  rintro (rfl|⟨_,C2,h2⟩)
  ·obtain⟨_,_,A,c,h2,_,_⟩:=hd
   rw[h2] at hC
   simp only[Option.some.injEq,Obj.cells.injEq] at hC
   exact absurd hC.2.1 (by decide)
  rw[h2] at hC
  simp only[Option.some.injEq,Obj.cells.injEq] at hC
  exact absurd hC.2.1 (by decide)
theorem px{W w:World}{F:Nat->Prop}{dk:Nat}{d:Dk}(hd:cJ W F dk d)(k:Kx (ux W F dk) W w):Kx F W w:=k.mono λj h=>by
 rcases h with rfl|h
 ·exact hd.2.1
 exact h.1
theorem oc{w:World}{B B' e sz n:Nat}{v:Value}{xs:List Value}(h:w.ownsRow B e sz v n xs)(hB:B'<=B):w.ownsRow B' e sz v n xs:=by
 refine⟨h.1,?_⟩
 rcases h.2 with h0|⟨g,c,cur,hv,h1,h2⟩
 ·exact .inl h0
 exact .inr ⟨g,c,cur,hv,Nat.le_trans hB h1,h2⟩
theorem Jl{W w:World}{F:Nat->Prop}{a dk:Nat}{b:Bk}{v:Value}(_:gj W F a dk b)(h:jE W F v b.E)(k:Below W.heap.size W w):jE w F v b.E:=
 h.keep λj _ _ _ hC _=>k.block j (Array.getElem?_eq_some_iff.1 hC).1
theorem DD{P:Program}{a:Act}{w:World}{o:Oper}{f:FuncId}{fn:Func}{args:Array Operand}{ats:Array TypeId}(cA:o.op=.call { callee:=.value (.func f),args,argTypes:=ats })
 (hf : P.funcs[f]? = some fn) (cx : (fn.name == "runtime.NumGoroutine") = false) (hb : fn.body.isNone = false) : (execOp a.eval o).run P w = .ok (.enter f (args.map a.eval)) w := by
 have h1 : ¬ fn.name = "runtime.NumGoroutine" := by simpa using cx
 have h2:¬ fn.body=none:=by cases hx:fn.body<;>simp_all
 unfold execOp
 simp[cA,resolve,Deferred.ofValue,invoke,callFunc,hf,h1,h2,Act.eval]
theorem DR{P:Program}{ops:Array Oper}{o:Oper}{a:Act}{w:World}{K:Act->World->Prop}{Q:Exit->Act->World->Prop}{E:Prop}(hg:o.guard=none)(f:FuncId)(x:Operand)(ts:Array TypeId)
 (cA : o.op = .call { callee := .value (.func f), args := #[x], argTypes := ts }) {fn : Func} (hf : P.funcs[f]? = some fn) (cx : (fn.name == "runtime.NumGoroutine") = false) (hb : fn.body.isNone = false)
 (v:Value) (hx:a.eval x=v) (R:Ending->World->Prop) (hc:Calls P f #[v] w R) (f8:∀ e w',R e w'->∃ r,e=.returned r)
 (hK:∀ r w',R (.returned r) w'->K (a.put o.dst r) w'):if Region.wanted o (yielded ops a.tmps)=true then Oper.wp P o a w K Q else E:=by
 have hw:Region.wanted o (yielded ops a.tmps)=true:=by simp[Region.wanted,hg]
 rw[if_pos hw]
 unfold Oper.wp
 rw[DD cA hf cx hb,Oper.upon_enter]
 have ha:(#[x].map a.eval)=#[v]:=by simp[hx]
 rw[ha]
 refine hc.mono λe w' hr=>?_
 obtain⟨r,rfl⟩:=f8 e w' hr
 exact hK r w' hr
structure Sn(w4 w5:World)(F:Nat->Prop)(A4 A5:Option Addr)(c4 c5 n:Nat)(E:List (List Mv))(l:List Mv)(outer:List Value):Prop where
 bel:Below w4.heap.size w4 w5
 row:w5.ownsRow 0 189 4 (.slice A5 n c5) n (l.flatMap fk)
 rowF:∀ g,(Value.slice A5 n c5).ownBlock=some g->F g
 out:w5.ownsRow 0 110 1 (.slice A4 E.length c4) E.length outer
 outF:∀ g,(Value.slice A4 E.length c4).ownBlock=some g->F g
 inn:∀ (i:Nat) (e:List Mv),E[i]?=some e->∃ Ai ci,outer[i]?=some (.slice Ai e.length ci)/\w5.ownsRow 0 189 4 (.slice Ai e.length ci) e.length (e.flatMap fk)/\∀ g,(Value.slice Ai e.length ci).ownBlock=some g->F g
theorem EM{w5 w6:World}{o:Obj}{F:Nat->Prop}{A4 A5 A6:Option Addr}{c4 c5 c6 n:Nat}{E:List (List Mv)}{l:List Mv}{outer:List Value}(hu:Up w5 F)(o1:w5.ownsRow 0 110 1 (.slice A4 E.length c4) E.length outer)
 (o2:∀ g,(Value.slice A4 E.length c4).ownBlock=some g->F g) (o3:∀ (i:Nat) (e:List Mv),E[i]?=some e->∃ Ai ci,outer[i]?=some (.slice Ai e.length ci)/\w5.ownsRow 0 189 4 (.slice Ai e.length ci) e.length (e.flatMap fk)/\∀ g,(Value.slice Ai e.length ci).ownBlock=some g->F g)
 (e0:w5.ownsRow 0 189 4 (.slice A5 n c5) n (l.flatMap fk)) (eF:∀ g,(Value.slice A5 n c5).ownBlock=some g->F g) (hn:n=l.length)
 (bI:w6.ownsRow 0 110 1 (.slice A6 (E.length+1) c6) (E.length+1) (outer++[.slice A5 n c5])) (bm:(w5.alloc o).grownBy w6 (Value.slice A4 E.length c4).ownBlock)
 (bE:(Value.slice A6 (E.length+1) c6).ownBlock=(Value.slice A4 E.length c4).ownBlock\/(Value.slice A6 (E.length+1) c6).ownBlock=some (w5.alloc o).heap.size):jE w6 F (.slice A6 (E++[l]).length c6) (E++[l]):=by
 subst hn
 have ca:(E++[l]).length=E.length+1:=by simp
 rw[ca]
 have f7:outer.length=E.length:=by simpa using o1.1
 have ec:∀ {v:Value} {n:Nat} {xs:List Value},w5.ownsRow 0 189 4 v n xs->w6.ownsRow 0 189 4 v n xs:=λh=>(h.alloc o).kept bm (pI (h.alloc o) (o1.alloc o) (by decide))
 refine⟨outer++[.slice A5 l.length c5],by rw[ca];exact bI,λg hg=>?_,λi e he=>?_⟩
 ·rcases bE with h|h
  ·exact o2 g (h ▸ hg)
  rw[h] at hg
  cases hg
  exact hu _ (by simp)
 rcases Nat.lt_or_ge i E.length with h|h
 ·rw[List.getElem?_append_left h] at he
  obtain⟨Ai,ci,e1,e2,e3⟩:=o3 i e he
  exact⟨Ai,ci,by rw[List.getElem?_append_left (by omega)];exact e1,ec e2,e3⟩
 have hi:i=E.length:=by
  have:=(List.getElem?_eq_some_iff.1 he).1
  simp at this
  omega
 subst hi
 simp at he
 subst he
 exact⟨A5,c5,by rw[List.getElem?_append_right (by omega),f7];simp,ec e0,eF⟩
theorem dE.set{W:World}{m n:Nat}{f:Pl->Int}(h:dE W m n f){x:Addr}(hx:m≠x.block)(u:Value):dE (W.setCell x u) m n f:=h.keep (Below.heap_setCell W x u m hx)
theorem jE.set{W:World}{F:Nat->Prop}{a i:Nat}{v u:Value}{E:List (List Mv)}{C:Array Value}(h:jE W F v E)(ha:W.heap[a]?=some (.cells C 109 (0,0))):jE (W.setCell ⟨a,i,none⟩ u) F v E:=
 h.keep λj _ C2 ty hC ht=>al λe=>by
  subst e
  rw[ha] at hC
  simp only[Option.some.injEq,Obj.cells.injEq] at hC
  rcases ht with rfl|rfl<;>exact absurd hC.2.1 (by decide)
theorem gj.breaks{w:World}{F:Nat->Prop}{a dk:Nat}{b:Bk}(h:gj w F a dk b):gj (w.setCell ⟨a,3,none⟩ (.bool true)) F a dk ⟨b.E,true⟩:=by
 obtain⟨q0,A,c,mb,n,q1,q2,q3,q4,q5⟩:=h
 refine⟨q0,A,c,mb,n,?_,q2.set q1,q3,q4,q5.set (λe=>?_) _⟩
 ·rw[aA q1]
  rfl
 obtain⟨D,⟨⟨es,clock,hb,_⟩,_⟩,_⟩:=q5
 have e':mb=a:=e
 subst e'
 rw[q1] at hb
 simp at hb
theorem cJ.book_set{w:World}{F:Nat->Prop}{a dk i:Nat}{d:Dk}{C:Array Value}{u:Value}(h:cJ w F dk d)(ha:w.heap[a]?=some (.cells C 109 (0,0))):cJ (w.setCell ⟨a,i,none⟩ u) F dk d:=
 h.kx_ty (aI w a i u) (λC2 h2 e=>by
  subst e
  rw[ha] at h2
  simp only[Option.some.injEq,Obj.cells.injEq] at h2
  exact absurd h2.2.1 (by decide)) (λj C2 h2 e=>by
  subst e
  rw[ha] at h2
  simp only[Option.some.injEq,Obj.cells.injEq] at h2
  exact absurd h2.2.1 (by decide))
theorem cJ.breaks{w:World}{F:Nat->Prop}{a dk:Nat}{d:Dk}{b:Bk}{u:Value}(h:cJ w F dk d)(hb:gj w F a dk b):cJ (w.setCell ⟨a,3,none⟩ u) F dk d:=by
 obtain⟨q0,A,c,mb,n,q1,_⟩:=hb
 exact h.book_set q1
def Gu(W:World)(F:Nat->Prop)(t:TypeId):Nat->Prop:=λj=>F j/\∃ C,W.heap[j]?=some (.cells C t (0,0))
theorem cJ.tyS{W w:World}{F:Nat->Prop}{t:TypeId}{dk:Nat}{d:Dk}(h:cJ W F dk d)(k:Kx (Gu W F t) W w)(h1:t≠103)(h2:t≠5):cJ w F dk d:=
 h.kx_ty k (λC hC hs=>by
  obtain⟨_,C2,h3⟩:=hs
  rw[h3] at hC
  simp only[Option.some.injEq,Obj.cells.injEq] at hC
  exact h1 hC.2.1) (λj C hC hs=>by
  obtain⟨_,C2,h3⟩:=hs
  rw[h3] at hC
  simp only[Option.some.injEq,Obj.cells.injEq] at hC
  exact h2 hC.2.1)
theorem dE.map{W:World}{m n:Nat}{f:Pl->Int}(h:dE W m n f):∃ es clock,W.heap[m]?=some (.map es clock):=by
 obtain⟨D,⟨⟨es,clock,hb,_⟩,_⟩,_⟩:=h
 exact⟨es,clock,hb⟩
theorem dE.tyS{W w:World}{F:Nat->Prop}{t:TypeId}{m n:Nat}{f:Pl->Int}(h:dE W m n f)(k:Kx (Gu W F t) W w):dE w m n f:=
 h.keep (k.block m h.lt λhs=>by
  obtain⟨_,C2,h3⟩:=hs
  obtain⟨es,cl,hm⟩:=h.map
  rw[h3] at hm
  simp at hm)
theorem Iy{W w:World}{F:Nat->Prop}{t e:TypeId}{B sz n:Nat}{v:Value}{xs:List Value}(h:W.ownsRow B e sz v n xs)(k:Kx (Gu W F t) W w)(bf:t≠e):w.ownsRow B e sz v n xs:=
 aH h λg hg=>by
  obtain⟨C,hC⟩:=a8 h hg
  refine k.block g (Array.getElem?_eq_some_iff.1 hC).1 ?_
  rintro⟨_,C2,h3⟩
  rw[h3] at hC
  simp only[Option.some.injEq,Obj.cells.injEq] at hC
  exact bf hC.2.1
theorem gF{W:World}{a i:Nat}{t e:TypeId}{B sz n:Nat}{v u:Value}{xs:List Value}{C:Array Value}(h:W.ownsRow B e sz v n xs)(ha:W.heap[a]?=some (.cells C t (0,0)))(bf:e≠t):(W.setCell ⟨a,i,none⟩ u).ownsRow B e sz v n xs:=
 aH h λg hg=>al (cZ ha h bf g hg)
structure Pe(w4 W7:World)(F:Nat->Prop)(a dk mb n4:Nat)(A:Option Addr)(n c:Nat)(d:Dk)(b:Bk)(l:List Mv):Prop where
 bal:dE W7 mb n4 (bM b.E)
 row:W7.ownsRow 0 189 4 (.slice A n c) n (l.flatMap fk)
 last:∀ {w8:World},dE w8 mb (n4+2*n) (λq=>bM b.E q+cR l q)->Kx (λj=>j=mb) W7 w8->n<=32->Bd w8 F a dk d ⟨b.E++[l],b.br⟩/\Kx F w4 w8
theorem FM{w4 w5 w6:World}{F:Nat->Prop}{a dk mb n4 n:Nat}{A A4 A5 A6:Option Addr}{c c4 c5 c6:Nat}{d:Dk}{b:Bk}{l:List Mv}{outer:List Value}
 (hB:gj w4 F a dk b) (hD:cJ w4 F dk d) (hX:w4.ownsRow 0 189 4 (.slice A n c) n (l.flatMap fk)) (hu:Up w4 F) (_:w4.cell? ⟨a,1,none⟩=some (.slice A4 b.E.length c4)) (hE:jE w4 F (.slice A4 b.E.length c4) b.E) (gg:n4<=64*b.E.length) (f1:dE w4 mb n4 (bM b.E)) (hF:F mb)
 (_:w4.heap[a]?=some (.cells (Co dk mb (.slice A4 b.E.length c4) b) 109 (0,0))) (bt:Sn w4 w5 F A4 A5 c4 c5 n b.E l outer) (hl:n=l.length) (bI:w6.ownsRow 0 110 1 (.slice A6 (b.E.length+1) c6) (b.E.length+1) (outer++[.slice A5 n c5]))
 (bm:(w5.alloc (.cells #[.slice A5 n c5] 110)).grownBy w6 (Value.slice A4 b.E.length c4).ownBlock) (bE:(Value.slice A6 (b.E.length+1) c6).ownBlock=(Value.slice A4 b.E.length c4).ownBlock\/(Value.slice A6 (b.E.length+1) c6).ownBlock=some (w5.alloc (.cells #[.slice A5 n c5] 110)).heap.size)
 (bc:w6.heap[a]?=some (.cells #[.pointer (some ⟨dk,0,none⟩),.slice A4 b.E.length c4,.map (some mb),.bool b.br] 109 (0,0))):Pe w4 (w6.setCell ⟨a,1,none⟩ (.slice A6 (b.E.length+1) c6)) F a dk mb n4 A n c d b l:=by
 obtain⟨o4,o41,o42,_⟩:=hE
 have hk:Kx (Gu w4 F 110) w4 w6:=((ar bt.bel).below (ab w5 _)).grown bm λj hj=>.inl ⟨o42 j hj,a8 o41 hj⟩
 have fu:=EM (hu.below bt.bel) bt.out bt.outF bt.inn bt.row bt.rowF hl bI bm bE
 have b7:=f1.tyS hk
 have bf:mb≠a:=λe=>by
  obtain⟨es,cl,hm⟩:=b7.map
  rw[e,bc] at hm
  simp at hm
 have ca:(b.E++[l]).length=b.E.length+1:=by simp
 refine⟨b7.set bf _,gF (Iy hX hk (by decide)) bc (by decide),fun {w8} h8 k8 hn=>⟨⟨?_,?_⟩,?_⟩⟩
 ·have h7:cJ (w6.setCell ⟨a,1,none⟩ (.slice A6 (b.E.length+1) c6)) F dk d:=(hD.tyS hk (by decide) (by decide)).book_set bc
  refine h7.kx_ty k8 (λC hC e=>?_) (λj C hC e=>?_)
  ·obtain⟨es,cl,hm⟩:=(b7.set bf (.slice A6 (b.E.length+1) c6) (x:=⟨a,1,none⟩)).map
   rw[← e,hC] at hm
   simp at hm
  obtain⟨es,cl,hm⟩:=(b7.set bf (.slice A6 (b.E.length+1) c6) (x:=⟨a,1,none⟩)).map
  rw[← e,hC] at hm
  simp at hm
 ·have dx:=aA (i:=1) (v:=.slice A6 (b.E.length+1) c6) bc
  have fz:=(k8.block a (Array.getElem?_eq_some_iff.1 dx).1 (λe=>bf e.symm)).trans dx
  refine⟨hB.1,A6,c6,mb,n4+2*n,?_,?_,hF,by rw[ca];omega,?_⟩
  ·rw[fz]
   show _=some (Obj.cells (Co dk mb (.slice A6 (b.E++[l]).length c6) ⟨b.E++[l],b.br⟩) _ _)
   rw[ca]
   rfl
  ·refine (fu.set bc).keep λj hj C ty hC _=>k8.block j (Array.getElem?_eq_some_iff.1 hC).1 λe=>?_
   obtain⟨es,cl,hm⟩:=(b7.set bf (.slice A6 (b.E.length+1) c6) (x:=⟨a,1,none⟩)).map
   rw[← e,hC] at hm
   simp at hm
  have e:bM (b.E++[l])=λq=>bM b.E q+cR l q:=funext λq=>uE b.E l q
  show dE w8 mb (n4+2*n) (bM (b.E++[l]))
  rw[e]
  exact h8
 exact ((hk.mono (λj h=>h.1)).trans (aI w6 a 1 _) (λj _ e=>e ▸ hB.1)).trans k8 (λj _ e=>e ▸ hF)
theorem FL(w:World)(F:Nat->Prop)(a dk:Nat)(d:Dk)(b:Bk)(A:Option Addr)(n c:Nat)(l:List Mv)(h:Bd w F a dk d b)(hi:k9 d b)(hX:w.ownsRow 0 189 4 (.slice A n c) n (l.flatMap fk))(hl:n=l.length)(hs:vj l)(hn:n<=9223372036854775807)(hw:b.would l≠0) :
 Calls Tryz.prog 260 #[.pointer (some ⟨a,0,none⟩),.slice A n c] w λe w'=>e=.returned (.int .i64 (b.would l))/\Below w.heap.size w w':=by
 refine ae ?_
 intro R hR
 have HW:=zh (vQ w F a dk d b A n c l h.book hi (ag.of_own hX hl) hs hn)
 have Hr:=zh (λw' hb=>hR.out (.returned (.int .i64 (b.would l))) w' ⟨rfl,hb⟩)
 obtain⟨v,hv⟩:∃ v,b.would l=v:=⟨_,rfl⟩
 rw[hv] at HW Hr hw
 have e1:(v != 0)=true:=by rw[bne_iff_ne];exact hw
 clear hR hX h hw hv hl hi
 go_enter Tryz.func260,Tryz.ntmps260
 go_wp2_with fail
 refine HW.out.mono ?_
 rintro e w' ⟨rfl,hb⟩
 have HB:=zh hb
 clear hb
 go_wp2
 exact Hr.out _ HB.out
theorem ID(w:World)(F:Nat->Prop)(a dk:Nat)(d:Dk)(b:Bk)(A:Option Addr)(n c:Nat)(l:List Mv)(h:Bd w F a dk d b)(hi:k9 d b)(hu:Up w F)(hX:w.ownsRow 0 189 4 (.slice A n c) n (l.flatMap fk))(hl:n=l.length)(hw:b.would l=0) :
 Calls Tryz.prog 260 #[.pointer (some ⟨a,0,none⟩),.slice A n c] w λe w'=>e=.returned (.int .i64 (aN d b l).2.2)/\Bd w' F a dk (aN d b l).1 (aN d b l).2.1/\Kx F w w':=by
 refine ae ?_
 intro R hR
 have hz:eq l=true:=by
  unfold Bk.would at hw
  split at hw
  ·cases hw
  split at hw
  ·assumption
  cases hw
 have hZ:=Dd hz
 have hs:vj l:=λm hm=>by have:=hZ.2 m hm;omega
 have hn:n<=32:=by rw[hl];exact hZ.1
 have f6:1<=n:=by
  unfold eq at hz
  simp only[Bool.and_eq_true,decide_eq_true_eq] at hz
  omega
 have HW:=zh (vQ w F a dk d b A n c l h.book hi (ag.of_own hX hl) hs (by omega))
 rw[hw] at HW
 have ei:aN d b l=if (d.app (aE l)).2=9 then (d,b,9) else
  if (d.app (aE l)).2≠0 then ((d.app (aE l)).1,⟨b.E,true⟩,(d.app (aE l)).2) else
  if ((d.app (aE l)).1.sync).2≠0 then ((d.app (aE l)).1.sync.1,⟨b.E,true⟩,(d.app (aE l)).1.sync.2) else
  ((d.app (aE l)).1.sync.1,⟨b.E++[l],b.br⟩,0):=by
  unfold aN
  rw[if_neg (by rw[hw];decide)]
 have HH:=zh h
 have HX:=zh hX
 have HL:=zh hl
 have HU:=zh hu
 have HZ:=zh hZ
 have HI:=zh hi
 have HP:=zh ei
 clear h hX hl hu hZ hi hz hw hs ei
 go_enter Tryz.func260,Tryz.ntmps260
 go_wp2_with (go_at_call 271;(with_reducible refine HW.out.mono ?_);rintro e w1 ⟨rfl,dz⟩;have bg:=zh dz;clear dz)
 have hh:=HH.out.below bg.out
 obtain⟨A0,c0,mb,n0,d0,d1,d2,d3,_,_,HN,f9,ga,gb⟩:=hh.book.cells
 have dq:=zh (ai HX.out bg.out)
 have HE:Hid (Calls Tryz.prog 315 #[.slice A n c] w1.drew λe w'=>∃ A' m c',e=.returned (.slice A' m c')/\ag eX 1 w' A' m (aE l)/\m<=1400/\Below w1.heap.size w1 w'):=
  zh ((AY A n c l w1.drew (ag.of_own dq.out HL.out) HZ.out).mono λe w' ⟨A',m,c',e1,e2,e3,hb⟩=>⟨A',m,c',e1,e2,e3,⟨hb.os,hb.tape,hb.output,hb.size,hb.block⟩⟩)
 have bv:=zh hh
 clear hh
 have cL:w1.drew.cell? ⟨a,0,none⟩=some (.pointer (some ⟨dk,0,none⟩)):=d0
 go_upto_region 4 with fail
 rcases uC d (aE l) with ha|⟨ha,dt⟩|ha
 ·have HA:=zh ha
  clear ha
  go_region_held3 (λw'=>w'.cell? ⟨a,0,none⟩=some (.pointer (some ⟨dk,0,none⟩)))
   (first
   |exact cL
   |exact hx2
   |exact hx3
   |go_keep)
   (first
   |(go_at_call 315;(with_reducible refine HE.out.mono ?_);rintro e w2 ⟨A2,m2,c2,rfl,bp,cc,ad⟩;have bu:=zh ad;have b6:=zh bp;have bS:=zh (show m2<=1000000 by omega);have b5:=zh ((HU.out.below bg.out).below ad);have aa:=zh (bv.out.below ad);obtain⟨_,_,_,_,hx2,-⟩:=(bv.out.below ad).book.cells;clear bp cc ad)
   |(go_at_call 314;(with_reducible refine (qU w2 F dk d aa.out.disk b5.out A2 m2 c2 (aE l) b6.out bS.out).mono ?_);rw[HA.out];rintro e w3 ⟨rfl,bk,aF⟩;obtain⟨_,_,_,_,hx3,-⟩:=(aa.out.book.disk aa.out.disk aF).cells;have am:=zh bk;have a9:=zh aF;clear bk aF))
  have a0:=zh (aa.out.book.disk aa.out.disk a9.out)
  have fb:=zh (z8 (ai dq.out bu.out) aa.out.disk a9.out)
  have cV:=zh (((ar bg.out).trans (ar (S:=F) bu.out) (λ_ _ h=>h)).trans (px aa.out.disk a9.out) (λ_ _ h=>h))
  clear HE
  rcases tq (d.app (aE l)).1 with hs|hs
  ·have HS:=zh hs
   have HY:=zh (uS w3 F dk _ am.out)
   clear hs
   go_wp2_with (go_at_call 34;(with_reducible refine HY.out.mono ?_);rw[HS.out];rintro e w4 ⟨rfl,b8,b9⟩;have cq:=zh b8;have bi:=zh (b9.mono (T:=ux w3 F dk) λj e=>.inl e);clear b8 b9)
   have cn:=a0.out.disk am.out bi.out
   have cN:=zh cn
   have ds:=zh (z8 fb.out am.out bi.out)
   have c3:=zh (cV.out.trans (px am.out bi.out) (λ_ _ h=>h))
   have dd:=zh (HU.out.kx c3.out)
   obtain⟨A4,c4,mb4,n4,g0,g1,g2,g3,gf,cO,c8,eo,eu,cT⟩:=cn.cells
   have cj:=cn.lt
   have et:Hid (Calls Tryz.prog 171 #[.slice A n c] w4.drew λe w'=>∃ A' c' outer,e=.returned (.slice A' n c')/\w'.cell? ⟨a,1,none⟩=some (.slice A4 b.E.length c4)/\(w'.alloc (.cells #[.slice A' n c'] 110)).cell? ⟨a,1,none⟩=some (.slice A4 b.E.length c4)/\
    Hid (Sn w4 w' F A4 A' c4 c' n b.E l outer)/\Hid ((w'.alloc (.cells #[.slice A' n c'] 110)).ownsRow 0 110 1 (.slice A4 b.E.length c4) b.E.length outer)/\Hid (Sl (w'.alloc (.cells #[.slice A' n c'] 110)) 1 (some ⟨w'.heap.size,0,none⟩) 1 [.slice A' n c'])/\Hid ((w'.alloc (.cells #[.slice A' n c'] 110)).heap[a]?=some (.cells #[.pointer (some ⟨dk,0,none⟩),.slice A4 b.E.length c4,.map (some mb4),.bool b.br] 109 (0,0)))):=
    zh ((AV w4.drew A n c l (ag.of_own ds.out HL.out) f6 (by omega)).mono λe w' ⟨A',c',e1,e2,hb⟩=>by
     have bD:Below w4.heap.size w4 w':=⟨hb.os,hb.tape,hb.output,hb.size,hb.block⟩
     obtain⟨outer,o1,o2,o3⟩:=Jl cN.out cO.out bD
     have q1:=(bD.cell (p:=⟨a,1,none⟩) cj).trans g1
     refine⟨A',c',outer,e1,q1,(World.cell?_alloc_lt w' _ ⟨a,1,none⟩ (Nat.lt_of_lt_of_le cj bD.size)).trans q1,zh ⟨bD,oc e2 (Nat.zero_le _),λg hg=>dd.out g (e2.lt g hg).1,o1,o2,o3⟩,zh (o1.alloc _),zh (Sl.new w' _ _ 1 1 rfl),zh ((heap_alloc_old w' _ (Nat.lt_of_lt_of_le cj bD.size)).trans ((bD.block a cj).trans cT.out))⟩)
   have e7:=zh (show ∀ (e:Ending) (w':World),(∃ A' c' outer,e=.returned (.slice A' n c')/\w'.cell? ⟨a,1,none⟩=some (.slice A4 b.E.length c4)/\(w'.alloc (.cells #[.slice A' n c'] 110)).cell? ⟨a,1,none⟩=some (.slice A4 b.E.length c4)/\
    Hid (Sn w4 w' F A4 A' c4 c' n b.E l outer)/\Hid ((w'.alloc (.cells #[.slice A' n c'] 110)).ownsRow 0 110 1 (.slice A4 b.E.length c4) b.E.length outer)/\Hid (Sl (w'.alloc (.cells #[.slice A' n c'] 110)) 1 (some ⟨w'.heap.size,0,none⟩) 1 [.slice A' n c'])/\Hid ((w'.alloc (.cells #[.slice A' n c'] 110)).heap[a]?=some (.cells #[.pointer (some ⟨dk,0,none⟩),.slice A4 b.E.length c4,.map (some mb4),.bool b.br] 109 (0,0))))->∃ r,e=.returned r from λe w' ⟨A',c',outer,he,_⟩=>⟨_,he⟩)
   have hN:=HI.out.few
   have p1:w4.drew.cell? ⟨a,1,none⟩=some (.slice A4 b.E.length c4):=g1
   clear cn HY HW
   go_upto_region 12 with fail
   go_region_law (first
    |(refine DR rfl 171 (.tmp 41) _ rfl Tryz.func171 (by kernel_rfl) (by kernel_rfl) (.slice A n c) ?_ _ et.out e7.out ?_;(· (simp[Act.eval,Act.put]));rintro r w5 ⟨A5,c5,outer,f2,q1,r1,e9,c9,e8,fa⟩;cases f2)
    |(refine er rfl (.tmp 40) (.tmp 43) 107 rfl Jg 0 (.slice A4 b.E.length c4) b.E.length outer ?_ c9.out (some ⟨w5.heap.size,0,none⟩) 1 1 [.slice A5 n c5] ?_ e8.out (by simp[Value.oneCell']) (by unfold maxLen;omega) (by omega) (Nat.zero_le _) ?_;(· (simp[Act.eval]));(· (simp[Act.eval]));intro A6 c6 w6 bI bm bE;have bc:=iC fa.out c9.out (by decide) bm;obtain⟨t0,s1,t2,t3,tf⟩:=an bc;have tf1:=tf 1;have eI:=zh bc;clear tf bc;have e6:=zh bI;have eB:=zh bm;have e4:=zh bE;clear bI bm bE)
    |fail)
   all_goals
    have cr:=zh (FM cN.out cq.out ds.out dd.out g1 cO.out c8.out eo.out eu.out cT.out e9.out HL.out e6.out eB.out e4.out eI.out)
    clear p1 q1 r1
    go_wp2_with fail
    refine (Jf _ mb4 n4 (bM b.E) A n c l cr.out.bal (by have:=c8.out;omega) HI.out.bal (ag.of_own cr.out.row HL.out) HZ.out).mono ?_
    rintro e w8 ⟨rfl,d4,d7⟩
    have cS:=zh (cr.out.last d4 d7 hn)
    clear d4 d7
    go_wp2
    have hp:=HP.out
    rw[if_neg (by rw[HA.out];decide),if_neg (by rw[HA.out];decide),if_neg (by rw[HS.out];decide)] at hp
    refine hR.out _ _ ?_
    rw[hp]
    exact⟨rfl,cS.out.1,c3.out.trans cS.out.2 (λ_ _ h=>h)⟩
  have HS:=zh hs
  have HY:=zh (uS w3 F dk _ am.out)
  clear hs
  go_wp2_with (go_at_call 34;(with_reducible refine HY.out.mono ?_);rw[HS.out];rintro e w4 ⟨rfl,b8,b9⟩;have cq:=zh b8;have bi:=zh (b9.mono (T:=ux w3 F dk) λj e=>.inl e);obtain⟨_,_,_,_,g0,g1,g2,g3,gf,-⟩:=(a0.out.disk am.out bi.out).cells;have gf':=gf.out 3;clear b8 b9 gf)
  have hp:=HP.out
  rw[if_neg (by rw[HA.out];decide),if_neg (by rw[HA.out];decide),if_pos (by rw[HS.out];decide),HS.out] at hp
  refine hR.out _ _ ?_
  rw[hp]
  exact⟨rfl,⟨cJ.breaks cq.out (a0.out.disk am.out bi.out),(a0.out.disk am.out bi.out).breaks⟩,(cV.out.trans (px am.out bi.out) (λ_ _ h=>h)).trans (aI _ a 3 _) (λj _ e=>e ▸ a0.out.1)⟩
 ·have HA:=zh ha
  have en:=zh dt
  clear ha dt
  go_region_held3 (λw'=>w'.cell? ⟨a,0,none⟩=some (.pointer (some ⟨dk,0,none⟩)))
   (first
   |exact cL
   |exact hx2
   |exact hx3
   |go_keep)
   (first
   |(go_at_call 315;(with_reducible refine HE.out.mono ?_);rintro e w2 ⟨A2,m2,c2,rfl,bp,cc,ad⟩;have bu:=zh ad;have b6:=zh bp;have bS:=zh (show m2<=1000000 by omega);have b5:=zh ((HU.out.below bg.out).below ad);have aa:=zh (bv.out.below ad);obtain⟨_,_,_,_,hx2,-⟩:=(bv.out.below ad).book.cells;clear bp cc ad)
   |(go_at_call 314;(with_reducible refine (qU w2 F dk d aa.out.disk b5.out A2 m2 c2 (aE l) b6.out bS.out).mono ?_);rw[HA.out];rintro e w3 ⟨rfl,bk,aF⟩;obtain⟨_,_,_,_,hx3,-⟩:=(aa.out.book.disk aa.out.disk aF).cells;have am:=zh bk;have a9:=zh aF;clear bk aF))
  have hp:=HP.out
  rw[if_pos HA.out] at hp
  go_wp2
  refine hR.out _ _ ?_
  rw[hp]
  have hd:=am.out
  rw[en.out] at hd
  exact⟨rfl,⟨hd,aa.out.book.disk aa.out.disk a9.out⟩,((ar bg.out).trans (ar (S:=F) bu.out) (λ_ _ h=>h)).trans (px aa.out.disk a9.out) (λ_ _ h=>h)⟩
 have HA:=zh ha
 clear ha
 go_region_held3 (λw'=>w'.cell? ⟨a,0,none⟩=some (.pointer (some ⟨dk,0,none⟩)))
  (first
  |exact cL
  |exact hx2
  |exact hx3
  |go_keep)
  (first
  |(go_at_call 315;(with_reducible refine HE.out.mono ?_);rintro e w2 ⟨A2,m2,c2,rfl,bp,cc,ad⟩;have bu:=zh ad;have b6:=zh bp;have bS:=zh (show m2<=1000000 by omega);have b5:=zh ((HU.out.below bg.out).below ad);have aa:=zh (bv.out.below ad);obtain⟨_,_,_,_,hx2,-⟩:=(bv.out.below ad).book.cells;clear bp cc ad)
  |(go_at_call 314;(with_reducible refine (qU w2 F dk d aa.out.disk b5.out A2 m2 c2 (aE l) b6.out bS.out).mono ?_);rw[HA.out];rintro e w3 ⟨rfl,bk,aF⟩;obtain⟨_,_,_,_,hx3,-⟩:=(aa.out.book.disk aa.out.disk aF).cells;have am:=zh bk;have a9:=zh aF;clear bk aF))
 have a0:=zh (aa.out.book.disk aa.out.disk a9.out)
 obtain⟨_,_,_,_,g0,g1,g2,g3,gf,-⟩:=a0.out.cells
 have gf':=gf.out 3
 have hp:=zh HP.out
 clear gf
 go_wp2
 have hp:=HP.out
 rw[if_neg (by rw[HA.out];decide),if_pos (by rw[HA.out];decide),HA.out] at hp
 refine hR.out _ _ ?_
 rw[hp]
 exact⟨rfl,⟨cJ.breaks am.out a0.out,a0.out.breaks⟩,(((ar bg.out).trans (ar (S:=F) bu.out) (λ_ _ h=>h)).trans (px aa.out.disk a9.out) (λ_ _ h=>h)).trans (aI _ a 3 _) (λj _ e=>e ▸ a0.out.1)⟩
end
end
section
section
open Go.RowKit Go.Maps
theorem Gv(d:Dk):d.act.1.B=d.B/\d.act.1.safe=d.safe:=by
 unfold Dk.act
 split<;>exact⟨rfl,rfl⟩
theorem wH(d:Dk)(h:d.left<1000000000000):d.act.1.left<1000000000000:=by
 unfold Dk.act
 split
 ·exact h
 show d.left-1<_
 omega
theorem wG(d:Dk)(h:d.down=false):d.act.1.down=d.act.2:=by
 unfold Dk.act
 split
 ·exact h
 rfl
theorem rH{b:Bk}{l:List Mv}(h:b.would l=0):b.br=false/\eq l=true/\pP (bM b.E) l=0:=by
 unfold Bk.would at h
 split at h
 ·cases h
 rename_i hb
 split at h
 ·rename_i he
  exact⟨by simpa using hb,he,h⟩
 cases h
theorem k9.post{d:Dk}{b:Bk}(h:k9 d b)(l:List Mv):k9 (aN d b l).1 (aN d b l).2.1:=by
 by_cases hw:b.would l≠0
 ·have e:aN d b l=(d,b,b.would l):=by unfold aN;rw[if_pos hw]
  rw[e]
  exact h
 obtain⟨d5,ct,cC⟩:=rH (Classical.not_not.1 hw)
 obtain⟨t,ht,h1,_⟩:=h.fit
 obtain⟨rfl,cp,ej⟩:=h1 d5
 rw[List.append_nil] at ht
 have hj:jH (b.E++[l]):=h.jour.snoc λp=>(yb λq=>h.jour.now q).1 cC p
 have f0:∀ e∈b.E++[l],eq e=true:=λe he=>by
  rcases List.mem_append.1 he with he|he
  ·exact h.ent e he
  rw[List.mem_singleton.1 he];exact ct
 have f4:(b.E++[l]).flatMap aE=b.E.flatMap aE++aE l:=by rw[List.flatMap_append,List.flatMap_cons,List.flatMap_nil,List.append_nil]
 by_cases hr:65536-d.B.length<(aE l).length
 ·have bq:d.app (aE l)=(d,9):=by
   unfold Dk.app
   rw[cp,if_neg (by simp),if_pos hr]
  have e:aN d b l=(d,b,9):=by
   unfold aN
   rw[if_neg hw,bq]
   simp
  rw[e]
  exact h
 obtain⟨D,hD⟩:∃ D:Dk,D={ d with B:=d.B++aE l }:=⟨_,rfl⟩
 have bq:d.app (aE l)=(D.act.1,if D.act.2 then 11 else 0):=by
  unfold Dk.app
  rw[cp,if_neg (by simp),if_neg hr,hD,cp]
 have cI:d.B.length+(aE l).length<=65536:=by have:=h.ok.1;omega
 have bj:D.B=d.B++aE l:=by rw[hD]
 have cd:D.safe=d.safe:=by rw[hD]
 have fc:D.down=false:=by rw[hD];exact cp
 have fo:D.left<1000000000000:=by rw[hD];exact h.ok.2.2
 obtain⟨a1,a2⟩:=Gv D
 have a3:=wH D fo
 have a4:=wG D fc
 have go:=h.ok.2.1
 cases hact:D.act.2
 ·rw[hact] at a4 bq
  obtain⟨s1,s2⟩:=Gv D.act.1
  have s3:=wH D.act.1 a3
  have s4:=wG D.act.1 a4
  cases hs:D.act.1.act.2
  ·rw[hs] at s4
   have e:aN d b l=({ D.act.1.act.1 with safe:=D.act.1.act.1.B.length },⟨b.E++[l],b.br⟩,0):=by
    unfold aN
    rw[if_neg hw,bq]
    unfold Dk.sync
    rw[a4,hs]
    simp
   rw[e]
   refine⟨⟨?_,Nat.le_refl _,s3⟩,hj,f0,[],?_,λ_=>⟨rfl,s4,rfl⟩,λhb=>?_⟩
   ·show D.act.1.act.1.B.length<=65536
    rw[s1,a1,bj,List.length_append]
    exact cI
   ·show D.act.1.act.1.B=_
    rw[s1,a1,bj,List.append_nil,ht,f4]
   have bw:b.br=true:=hb
   rw[d5] at bw
   cases bw
  rw[hs] at s4
  have e:aN d b l=(D.act.1.act.1,⟨b.E,true⟩,11):=by
   unfold aN
   rw[if_neg hw,bq]
   unfold Dk.sync
   rw[a4,hs]
   simp
  rw[e]
  refine⟨⟨?_,?_,s3⟩,h.jour,h.ent,aE l,?_,λhb=>?_,λ_=>⟨s4,?_,l,rfl,ct,cC⟩⟩
  ·show D.act.1.act.1.B.length<=65536
   rw[s1,a1,bj,List.length_append]
   exact cI
  ·show D.act.1.act.1.safe<=D.act.1.act.1.B.length
   rw[s1,s2,a1,a2,bj,cd,List.length_append]
   omega
  ·show D.act.1.act.1.B=_
   rw[s1,a1,bj,ht]
  ·have bw:true=false:=hb
   cases bw
  show D.act.1.act.1.safe=_
  rw[s2,a2,cd,ej,ht]
 rw[hact] at a4 bq
 have e:aN d b l=(D.act.1,⟨b.E,true⟩,11):=by
  unfold aN
  rw[if_neg hw,bq]
  simp
 rw[e]
 refine⟨⟨?_,?_,a3⟩,h.jour,h.ent,aE l,?_,λhb=>?_,λ_=>⟨a4,?_,l,rfl,ct,cC⟩⟩
 ·show D.act.1.B.length<=65536
  rw[a1,bj,List.length_append]
  exact cI
 ·show D.act.1.safe<=D.act.1.B.length
  rw[a1,a2,bj,cd,List.length_append]
  omega
 ·show D.act.1.B=_
  rw[a1,bj,ht]
 ·have bw:true=false:=hb
  cases bw
 show D.act.1.safe=_
 rw[a2,cd,ej,ht]
theorem FK(w:World)(F:Nat->Prop)(a dk:Nat)(d:Dk)(b:Bk)(A:Option Addr)(n c:Nat)(l:List Mv)(h:Bd w F a dk d b)(hi:k9 d b)(hu:Up w F)(hX:w.ownsRow 0 189 4 (.slice A n c) n (l.flatMap fk))(hl:n=l.length)(hs:vj l)(hn:n<=9223372036854775807) :
 Calls Tryz.prog 260 #[.pointer (some ⟨a,0,none⟩),.slice A n c] w λe w'=>e=.returned (.int .i64 (aN d b l).2.2)/\Bd w' F a dk (aN d b l).1 (aN d b l).2.1/\Kx F w w':=by
 by_cases hw:b.would l=0
 ·exact ID w F a dk d b A n c l h hi hu hX hl hw
 refine (FL w F a dk d b A n c l h hi hX hl hs hn hw).mono ?_
 rintro e w' ⟨rfl,hb⟩
 unfold aN
 rw[if_pos hw]
 exact⟨rfl,h.below hb,ar hb⟩
end
end
section
open Go.RowKit Go.Shelf
attribute [local go_sem] Oper.semAt_some
end
section
section
open Go.RowKit Go.Shelf Go.Maps
attribute [local go_sem] Oper.semAt_some
def Of(W:World)(F G:Nat->Prop):Prop:=∀ j,F j->((∃ C ty,W.heap[j]?=some (.cells C ty (0,0)))\/∃ es cl,W.heap[j]?=some (.map es cl))->G j
theorem cJ.sub{W:World}{F G:Nat->Prop}{a:Nat}{d:Dk}(h:cJ W F a d)(k:Of W F G):cJ W G a d:=by
 obtain⟨h1,h2,A,c,h3,h4,h5⟩:=h
 refine⟨h1,k a h2 (.inl ⟨_,_,h3⟩),A,c,h3,h4,λg hg=>k g (h5 g hg) (.inl ?_)⟩
 obtain⟨C,hC⟩:=a8 h4 hg
 exact⟨C,_,hC⟩
theorem jE.sub{W:World}{F G:Nat->Prop}{v:Value}{E:List (List Mv)}(h:jE W F v E)(k:Of W F G):jE W G v E:=by
 obtain⟨o,h1,h2,h3⟩:=h
 refine⟨o,h1,λg hg=>?_,λi e he=>?_⟩
 ·obtain⟨C,hC⟩:=a8 h1 hg
  exact k g (h2 g hg) (.inl ⟨C,_,hC⟩)
 obtain⟨Ai,ci,e1,e2,e3⟩:=h3 i e he
 refine⟨Ai,ci,e1,e2,λg hg=>?_⟩
 obtain⟨C,hC⟩:=a8 e2 hg
 exact k g (e3 g hg) (.inl ⟨C,_,hC⟩)
theorem Bd.sub{W:World}{F G:Nat->Prop}{a dk:Nat}{d:Dk}{b:Bk}(h:Bd W F a dk d b)(k:Of W F G):Bd W G a dk d b:=by
 refine⟨h.disk.sub k,?_⟩
 obtain⟨q0,A,c,mb,n,q1,q2,q3,q4,q5⟩:=h.book
 exact⟨k a q0 (.inl ⟨_,_,q1⟩),A,c,mb,n,q1,q2.sub k,k mb q3 (.inr q5.map),q4,q5⟩
theorem lV{W:World}{B e sz n g:Nat}{v:Value}{xs:List Value}(h:W.ownsRow B e sz v n xs)(hg:v.ownBlock=some g):B<=g:=by
 rcases h.2 with⟨hv,_⟩|⟨g2,c2,cur,hv,h3,_⟩
 ·rw[hv] at hg
  cases hg
 rw[hv] at hg
 cases hg
 exact h3
end
end
end Go.Proofs.YtgbnicokglpdbaaGreatDoor
