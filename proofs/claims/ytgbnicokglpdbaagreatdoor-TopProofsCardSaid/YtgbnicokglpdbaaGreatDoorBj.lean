/-
A house's jacks, quills, tasks and shapes as one state; conditions: those of each theorem.
-/
import Derived.Test.YtgbnicokglpdbaaGreatDoorAl
import Derived.Test.YtgbnicokglpdbaaGreatDoorBh
namespace Go.Proofs.YtgbnicokglpdbaaGreatDoor
set_option maxHeartbeats 8000000
set_option maxRecDepth 8000
section
section
open Go.RowKit Go.Shelf
def PO(W:World)(F:Nat->Prop)(C:Array Value)(i:Nat)(ty:TypeId)(sz n:Nat)(xs:List Value):Prop:=∃ A c,C[i]?=some (.slice A n c)/\W.ownsRow 0 ty sz (.slice A n c) n xs/\∀ g,(Value.slice A n c).ownBlock=some g->F g
def PT(W:World)(F:Nat->Prop)(C:Array Value)(tk:List RT):Prop:=
 ∃ (L:List (RT×Option Addr×Nat)),L.map (·.1)=tk/\PO W F C 11 43 4 L.length (L.flatMap D3)/\∀ x∈L,ft W F x.2.1 x.1.A.length x.2.2 x.1.A
def ia(x:Int×Int):List Value:=[.int .i64 x.1,.int .i64 x.2]
def yk(x:Int×Int×Int×Bool):List Value:=[.int .i64 x.1,.int .i64 x.2.1,.int .i64 x.2.2.1,.bool x.2.2.2]
theorem PO.kt{T:TypeId->Prop}{W w:World}{F:Nat->Prop}{C C':Array Value}{i sz n:Nat}{ty:TypeId}{xs:List Value}(h:PO W F C i ty sz n xs)(k:Kt T W w)(ht:¬ T ty)(hC:C'[i]?=C[i]?):PO w F C' i ty sz n xs:=by
 obtain⟨A,c,h1,h2,h3⟩:=h
 exact⟨A,c,hC.trans h1,Jz h2 k ht,h3⟩
theorem PT.kt{T:TypeId->Prop}{W w:World}{F:Nat->Prop}{C C':Array Value}{tk:List RT}(h:PT W F C tk)(k:Kt T W w)(h1:¬ T 3)(h2:¬ T 43)(hC:C'[11]?=C[11]?):PT w F C' tk:=by
 obtain⟨L,e1,e2,e3⟩:=h
 exact⟨L,e1,e2.kt k h2 hC,λx hx=>(e3 x hx).kt k h1⟩
theorem PO.nil(W:World)(F:Nat->Prop)(C:Array Value)(i:Nat)(ty:TypeId)(sz:Nat)(h:C[i]?=some (.slice none 0 0)):PO W F C i ty sz 0 []:=⟨none,0,h,World.ownsRow_nil _ _ _ _,λg hg=>by cases hg⟩
def gv(W:World)(F:Nat->Prop)(h:Nat)(jk qu:List (Int×Int))(tk:List RT)(sh:List (Int×Int×Int×Bool)):Prop:=
 ∃ C,HB W F h C/\PO W F C 6 37 2 jk.length (jk.flatMap ia)/\PO W F C 7 41 2 qu.length (qu.flatMap ia)/\PT W F C tk/\PO W F C 12 94 4 sh.length (sh.flatMap yk)
section
variable{W w:World}{F:Nat->Prop}{h:Nat}{jk qu:List (Int×Int)}{tk:List RT}{sh:List (Int×Int×Int×Bool)}
theorem gv.below(hT:gv W F h jk qu tk sh)(k:Below W.heap.size W w):gv w F h jk qu tk sh:=by
 obtain⟨C,h1,h2,h3,h4,h5⟩:=hT
 have kt:Kt (λ_=>False) W w:=Kt.of_below k
 exact⟨C,h1.below k,h2.kt kt id rfl,h3.kt kt id rfl,h4.kt kt id id rfl,h5.kt kt id rfl⟩
theorem gv.made(hT:gv W F h jk qu tk sh):W.cell? ⟨h,0,none⟩=some (.bool true)/\h<W.heap.size:=by
 obtain⟨C,h1,-⟩:=hT
 exact⟨(h1.at h1.made).1,h1.lt⟩
end
def PQ(w:World)(F:Nat->Prop)(h:Nat)(jk qu:List (Int×Int))(tk:List RT)(sh:List (Int×Int×Int×Bool))(t0:List UInt8):List UInt8->World->Prop:=λt W=>t=t0/\gv W F h jk qu tk sh/\Kx F w W
theorem lW{w W w':World}{F:Nat->Prop}{h:Nat}{jk qu:List (Int×Int)}{tk:List RT}{sh:List (Int×Int×Int×Bool)}{t0:List UInt8}{v:Value}{bg:Nat}(hg:Gl bg w)(hb:bg<=w.heap.size)(hF:∀ j,F j->bg<=j)(hW:Below w.heap.size w W)(hk:Kx F W w')(ht:gu t0 v w')(hT:gv w' F h jk qu tk sh):kK bg (PQ w F h jk qu tk sh t0) v w':=by
 have dk:Kx F w w':=(ar hW).trans hk (λ_ _ h=>h)
 exact ht.ansW (hg.kx dk hF hb) (λW' cO=>⟨rfl,hT.below cO,dk.below cO⟩)
theorem Fm(w:World)(F:Nat->Prop)(hu:Up w F):Calls Tryz.prog 5 #[] w λe w'=>∃ h,w.heap.size<=h/\e=.returned (.pointer (some ⟨h,0,none⟩))/\gv w' F h [] [] [] []/\Below w.heap.size w w':=by
 refine ae ?_
 intro R hR
 have HU:=zh hu
 have HD:=zh (vk w F hu)
 clear hu
 go_enter Tryz.func5,Tryz.ntmps5
 go_wp2_with (go_at_call 12;(with_reducible refine HD.out.mono ?_);rintro e w1 ⟨rfl,c8,cS⟩;have d3:=zh c8;have bv:=zh cS;clear c8 cS)
 refine (vo w1 F w.heap.size d3.out (HU.out.below bv.out)).mono ?_
 rintro e w2 ⟨a,ha,rfl,b5,a9⟩
 have cr:=zh a9
 clear b5 a9
 go_wp2
 have bI:=ab w2 (.cells #[.bool true,.pointer none,.slice none 0 0,.slice none 0 0,.slice none 0 0,.slice none 0 0,.slice none 0 0,.slice none 0 0,.slice none 0 0,.slice none 0 0,.pointer none,.slice none 0 0,.slice none 0 0,.pointer (some ⟨w.heap.size,0,none⟩),.pointer (some ⟨a,0,none⟩)] 63)
 have ca:w.heap.size<=w2.heap.size:=Nat.le_trans bv.out.size cr.out.size
 have hx:=heap_alloc_new w2 (.cells #[.bool true,.pointer none,.slice none 0 0,.slice none 0 0,.slice none 0 0,.slice none 0 0,.slice none 0 0,.slice none 0 0,.slice none 0 0,.slice none 0 0,.pointer none,.slice none 0 0,.slice none 0 0,.pointer (some ⟨w.heap.size,0,none⟩),.pointer (some ⟨a,0,none⟩)] 63)
 exact hR.out _ _ ⟨w2.heap.size,ca,rfl,⟨_,⟨HU.out _ ca,hx,rfl,rfl⟩,.nil _ _ _ _ _ _ rfl,.nil _ _ _ _ _ _ rfl,⟨[],rfl,.nil _ _ _ _ _ _ rfl,λx hx=>by cases hx⟩,.nil _ _ _ _ _ _ rfl⟩,(bv.out.trans (cr.out.mono bv.out.size)).trans (bI.mono ca)⟩
def Bm:List UInt8:=[106,97,99,107]
def x8:List UInt8:=[113,117,105,108,108]
def B8:List UInt8:=[116,97,115,107]
theorem PO.more{w:World}{F:Nat->Prop}{C:Array Value}{i sz n:Nat}{ty:TypeId}{xs:List Value}{A:Option Addr}{c:Nat}(hs:C.size=15)(hi:i<15)(h2:w.ownsRow 0 ty sz (.slice A n c) n xs)(h3:∀ g,(Value.slice A n c).ownBlock=some g->F g):PO w F (C.setIfInBounds i (.slice A n c)) i ty sz n xs:=⟨A,c,J6 hs hi,h2,h3⟩
theorem sI{W w:World}{F:Nat->Prop}{h:Nat}{C:Array Value}{ty:TypeId}{sz n:Nat}{v:Value}{xs:List Value}(h1:HB W F h C)(p:W.ownsRow 0 ty sz v n xs)(q:Kx (λj=>j=h\/v.ownBlock=some j) W w):Kt (λt=>t=63\/t=ty) W w:=Kt.of_kx q λj hj D t hD=>by
 rcases hj with rfl|hj
 ·exact .inl (ql h1.box hD)
 obtain⟨E,hE⟩:=a8 p hj
 exact .inr (ql hE hD)
theorem FU{a b c:Nat}{ns:List Nat}(ha:a<1000000000000)(hb:b<1000000000000)(hc:c<1000000000000)(h:∀ n∈ns,n<1000000000000):aD [110,32,110,32,110,32,110,42] (fW (a :: b :: c :: ns))=([],dw (a :: b :: c :: ns),true):=by
 have hf:Lib.fields [110,32,110,32,110,32,110,42]=[kN,kN,kN,kS]:=by decide
 have hK:=oF [a,b,c] [] [] (λn hn=>by simp only[List.mem_cons,List.not_mem_nil,or_false] at hn;omega)
 unfold aD
 rw[hf,fF (by decide) (by decide) (by decide),gY]
 show jK (if (ce (Lib.itoa (a:Int))).isSome=true then bR [kN,kN,kS] ⟨fW (b :: c :: ns),[],[]++[(ce (Lib.itoa (a:Int))).getD 0]⟩ else none)=_
 rw[gE a ha,if_pos (show (some (a:Int)).isSome=true from rfl),fF (by decide) (by decide) (by decide),gY]
 show jK (if (ce (Lib.itoa (b:Int))).isSome=true then bR [kN,kS] ⟨fW (c :: ns),[],[(a:Int)]++[(ce (Lib.itoa (b:Int))).getD 0]⟩ else none)=_
 rw[gE b hb,if_pos (show (some (b:Int)).isSome=true from rfl),fF (by decide) (by decide) (by decide),gY]
 show jK (if (ce (Lib.itoa (c:Int))).isSome=true then bR [kS] ⟨fW ns,[],[(a:Int),(b:Int)]++[(ce (Lib.itoa (c:Int))).getD 0]⟩ else none)=_
 rw[gE c hc,if_pos (show (some (c:Int)).isSome=true from rfl),bR,show lN kS=[kN] by decide,show jm kS=true by decide,show fx kS=0 by decide,ve ns _ 0 _ _ h (Nat.zero_le _) (by simp[fW]),Option.bind_some]
 simp[bR,jK,dw]
section
variable(w:World)(F:Nat->Prop)(h:Nat)(jk qu:List (Int×Int))(tk:List RT)(sh:List (Int×Int×Int×Bool))(hT:gv w F h jk qu tk sh)(hu:Up w F)(s:ByteArray)(bg:Nat)(hg:Gl bg w)(hb:bg<=w.heap.size)(hF:∀ j,F j->bg<=j)
include hT hu hg hb hF
theorem BL(x y:Nat)(hs:bP s.data.toList=dg Bm [x,y])(a0:s.size<=1000000)(hx:x<1000000000000/\y<1000000000000)(aF:jk.length<64) :
 Calls Tryz.prog 7 #[.pointer (some ⟨h,0,none⟩),.string s] w λe w'=>∃ t,e=.returned (.string ⟨t.toArray⟩)/\PQ w F h (jk++[((x:Int),(y:Int))]) qu tk sh [] t w':=by
 obtain⟨q0,hl⟩:=hT.made
 have hn:∀ n∈[x,y],n<1000000000000:=λn hn=>by simp only[List.mem_cons,List.not_mem_nil,or_false] at hn;omega
 refine lr w h q0 hl s 106 [97,99,107] [110,32,110] 105 [x,y] hs a0 hn (by simp) (by decide) (by decide) (by decide) (by decide) 14 rfl (by decide) (by decide) (by decide) (by decide) (by decide) (enters_of Tryz.func105 (by kernel_rfl) rfl) bg hg hb _ (kH hn (by show Lib.fields _=List.replicate 2 kN;decide)) ?_
 intro W A1 c1 n1 A2 c2 n2 hW hA
 obtain⟨C,h1,⟨A,c,p1,p2,p3⟩,h3,h4,h5⟩:=hT.below hW
 refine (Bg W F h C h1 (hu.below hW) A jk.length c _ p1 p2 p3 aF _ A1 n1 c1 A2 n2 c2 [] x y hA).mono ?_
 rintro e w' ⟨A',c',rfl,q1,q2,q3,q4⟩
 have kt:=sI h1 p2 q4
 refine⟨_,rfl,lW hg hb hF hW (q4.mono λj e=>e.elim (λe=>e ▸ h1.own) (λe=>p3 j e)) (p7 _) ⟨_,q1,?_,h3.kt kt (by decide) (iw (by decide)),h4.kt kt (by decide) (by decide) (iw (by decide)),h5.kt kt (by decide) (iw (by decide))⟩⟩
 rw[List.length_append,List.flatMap_append]
 exact PO.more h1.sz (by decide) q2 q3
theorem zg(x y:Nat)(hs:bP s.data.toList=dg x8 [x,y])(a0:s.size<=1000000)(hx:x<1000000000000/\y<1000000000000)(aF:qu.length<64) :
 Calls Tryz.prog 7 #[.pointer (some ⟨h,0,none⟩),.string s] w λe w'=>∃ t,e=.returned (.string ⟨t.toArray⟩)/\PQ w F h jk (qu++[((x:Int),(y:Int))]) tk sh [] t w':=by
 obtain⟨q0,hl⟩:=hT.made
 have hn:∀ n∈[x,y],n<1000000000000:=λn hn=>by simp only[List.mem_cons,List.not_mem_nil,or_false] at hn;omega
 refine lr w h q0 hl s 113 [117,105,108,108] [110,32,110] 106 [x,y] hs a0 hn (by simp) (by decide) (by decide) (by decide) (by decide) 15 rfl (by decide) (by decide) (by decide) (by decide) (by decide) (enters_of Tryz.func106 (by kernel_rfl) rfl) bg hg hb _ (kH hn (by show Lib.fields _=List.replicate 2 kN;decide)) ?_
 intro W A1 c1 n1 A2 c2 n2 hW hA
 obtain⟨C,h1,h2,⟨A,c,p1,p2,p3⟩,h4,h5⟩:=hT.below hW
 refine (yS W F h C h1 (hu.below hW) A qu.length c _ p1 p2 p3 aF _ A1 n1 c1 A2 n2 c2 [] x y hA).mono ?_
 rintro e w' ⟨A',c',rfl,q1,q2,q3,q4⟩
 have kt:=sI h1 p2 q4
 refine⟨_,rfl,lW hg hb hF hW (q4.mono λj e=>e.elim (λe=>e ▸ h1.own) (λe=>p3 j e)) (p7 _) ⟨_,q1,h2.kt kt (by decide) (iw (by decide)),?_,h4.kt kt (by decide) (by decide) (iw (by decide)),h5.kt kt (by decide) (iw (by decide))⟩⟩
 rw[List.length_append,List.flatMap_append]
 exact PO.more h1.sz (by decide) q2 q3
theorem BN(x y z:Nat)(l:List Nat)(hs:bP s.data.toList=dg B8 (x :: y :: z :: l))(a0:s.size<=1000000)(hx:x<1000000000000/\y<1000000000000/\z<1000000000000)(hll:∀ n∈l,n<1000000000000)(eF:l.length<=10)(aF:tk.length<32) :
 Calls Tryz.prog 7 #[.pointer (some ⟨h,0,none⟩),.string s] w λe w'=>∃ t,e=.returned (.string ⟨t.toArray⟩)/\PQ w F h jk qu (tk++[⟨x,y,z,dw l⟩]) sh [] t w':=by
 obtain⟨q0,hl⟩:=hT.made
 have hn:∀ n∈x :: y :: z :: l,n<1000000000000:=λn hn=>by
  simp only[List.mem_cons] at hn
  rcases hn with rfl|rfl|rfl|hn
  ·exact hx.1
  ·exact hx.2.1
  ·exact hx.2.2
  exact hll n hn
 refine lr w h q0 hl s 116 [97,115,107] [110,32,110,32,110,32,110,42] 117 (x :: y :: z :: l) hs a0 hn (by simp;omega) (by decide) (by decide) (by decide) (by decide) 26 rfl (by decide) (by decide) (by decide) (by decide) (by decide) (enters_of Tryz.func117 (by kernel_rfl) rfl) bg hg hb _ (FU hx.1 hx.2.1 hx.2.2 hll) ?_
 intro W A1 c1 n1 A2 c2 n2 hW hA
 obtain⟨C,h1,h2,h3,⟨L,e1,⟨A,c,p1,p2,p3⟩,e3⟩,h5⟩:=hT.below hW
 have hL:L.length<32:=by rw[← e1,List.length_map] at aF;exact aF
 refine (Bi W F h C h1 (hu.below hW) A L.length c _ p1 p2 p3 hL _ (λj hj=>hu j hj) A1 n1 c1 A2 n2 c2 [] x y z (dw l) hA).mono ?_
 rintro e w' ⟨A',c',As,cs,rfl,q1,q2,q3,q5,q4⟩
 have kt:=sI h1 p2 q4
 refine⟨_,rfl,lW hg hb hF hW (q4.mono λj e=>e.elim (λe=>e ▸ h1.own) (λe=>p3 j e)) (p7 _) ⟨_,q1,h2.kt kt (by decide) (iw (by decide)),h3.kt kt (by decide) (iw (by decide)),⟨L++[(⟨x,y,z,dw l⟩,As,cs)],by rw[List.map_append,e1];rfl,?_,λu bu=>?_⟩,h5.kt kt (by decide) (iw (by decide))⟩⟩
 ·rw[List.length_append,List.flatMap_append]
  exact PO.more h1.sz (by decide) q2 q3
 rcases List.mem_append.1 bu with bu|bu
 ·exact (e3 u bu).kt kt (by decide)
 rw[List.mem_singleton.1 bu];exact q5
end
end
end
section
section
open Go.RowKit Go.Shelf
def nU(nm:List UInt8)(ns:List Nat)(u:List UInt8):List UInt8:=dg nm ns++32 :: u
theorem xF{u:List UInt8}(hu:∀ c∈u,c≠32):∀ (ns:List Nat) (nm:List UInt8),(∀ c∈nm,c≠32/\c≠10)->cB (nU nm ns u)=nm :: (fW ns++[u])
 |[],nm,h=>by
  show cB ((nm++[])++32 :: u)=[nm,u]
  rw[List.append_nil,jZ nm _ (λc hc=>(h c hc).1),oI u hu]
 |n :: r,nm,h=>by
  have:=xF hu r (Lib.itoa (n:Int)) (nR _)
  unfold nU dg at this
  show cB ((nm++(32 :: Lib.itoa (n:Int)++r.flatMap λ(n:Nat)=>32 :: Lib.itoa (n:Int)))++32 :: u)=_
  rw[List.append_assoc,List.cons_append,List.cons_append,jZ nm _ (λc hc=>(h c hc).1),this]
  rfl
def fA:List UInt8:=[115,104,97,112,101]
def dI(t:Bool):List UInt8:=if t then [116,117,114,110] else [102,105,120,101,100]
theorem FV{a b c:Nat}(t:Bool)(ha:a<1000000000000)(hb:b<1000000000000)(hc:c<1000000000000):aD ([110,32,110,32,110,32]++my) (fW [a,b,c]++[dI t])=([dI t],[(a:Int),(b:Int),(c:Int)],true):=by
 have hf:Lib.fields ([110,32,110,32,110,32]++my)=[kN,kN,kN,my]:=by decide
 unfold aD
 rw[hf,fF (by decide) (by decide) (by decide),gY]
 show jK (if (ce (Lib.itoa (a:Int))).isSome=true then bR [kN,kN,my] ⟨fW [b,c]++[dI t],[],[]++[(ce (Lib.itoa (a:Int))).getD 0]⟩ else none)=_
 rw[gE a ha,if_pos (show (some (a:Int)).isSome=true from rfl),fF (by decide) (by decide) (by decide),gY]
 show jK (if (ce (Lib.itoa (b:Int))).isSome=true then bR [kN,my] ⟨fW [c]++[dI t],[],[(a:Int)]++[(ce (Lib.itoa (b:Int))).getD 0]⟩ else none)=_
 rw[gE b hb,if_pos (show (some (b:Int)).isSome=true from rfl),fF (by decide) (by decide) (by decide),gY]
 show jK (if (ce (Lib.itoa (c:Int))).isSome=true then bR [my] ⟨[dI t],[],[(a:Int),(b:Int)]++[(ce (Lib.itoa (c:Int))).getD 0]⟩ else none)=_
 rw[gE c hc,if_pos (show (some (c:Int)).isSome=true from rfl),fF (by decide) (by decide) (by decide),qk (by decide)]
 show jK (if GA my (dI t)=true then bR [] ⟨[],[dI t],[(a:Int),(b:Int),(c:Int)]⟩ else none)=_
 rw[if_pos (by cases t<;>decide)]
 rfl
theorem zi(w:World)(F:Nat->Prop)(h:Nat)(jk qu:List (Int×Int))(tk:List RT)(sh:List (Int×Int×Int×Bool))(hT:gv w F h jk qu tk sh)(hu:Up w F)(s:ByteArray)(bg:Nat)(hg:Gl bg w)(hb:bg<=w.heap.size)(hF:∀ j,F j->bg<=j)(x y z:Nat)(t:Bool)(hs:s.data.toList=nU fA [x,y,z] (dI t))(hx:x<1000000000000/\y<1000000000000/\z<1000000000000)(aF:sh.length<16) :
 Calls Tryz.prog 7 #[.pointer (some ⟨h,0,none⟩),.string s] w λe w'=>∃ u,e=.returned (.string ⟨u.toArray⟩)/\PQ w F h jk qu tk (sh++[((x:Int),(y:Int),(z:Int),t)]) [] u w':=by
 obtain⟨q0,hl⟩:=hT.made
 have hn:∀ n∈[x,y,z],n<1000000000000:=λn hn=>by simp only[List.mem_cons,List.not_mem_nil,or_false] at hn;omega
 have hp:∀ c∈fA,c≠32/\c≠10:=by decide
 have dq:∀ c∈dI t,c≠32/\c≠10:=by cases t<;>decide
 have e7:(dI t).length<=5:=by cases t<;>decide
 have bm:bP s.data.toList=nU fA [x,y,z] (dI t):=by
  rw[hs]
  refine sk λc hc=>?_
  rcases List.mem_append.1 hc with hc|hc
  ·have e:=re (ns:=[x,y,z]) hp
   exact Jk c (by rw[e];exact hc)
  rcases List.mem_cons.1 hc with rfl|hc
  ·decide
  exact (dq c hc).2
 have dt:=xF (λc hc=>(dq c hc).1) [x,y,z] fA hp
 have eI:=nS (nm:=fA) [x,y,z] hn
 have e6:(nU fA [x,y,z] (dI t)).length<=100:=by
  unfold nU
  rw[List.length_append,List.length_cons]
  have e5:fA.length=5:=rfl
  have e3:[x,y,z].length=3:=rfl
  omega
 have ds:=FV t hx.1 hx.2.1 hx.2.2
 have a0:=aO s
 rw[hs] at a0
 refine iO w h q0 hl s (by omega) 115 [104,97,112,101] ([110,32,110,32,110,32]++my) 120 (fW [x,y,z]++[dI t]) (by rw[bm];exact dt) ?_ (by rw[bm];omega) (by decide) (by decide) 29 rfl (by decide) (by decide) (by decide) (by decide) (by decide) (enters_of Tryz.func120 (by kernel_rfl) rfl) bg hg hb _ (λhz=>by rw[ds] at hz;cases hz) ?_
 ·rw[bm,dt]
  intro hm
  have hN:=xE (nm:=fA) (ns:=[x,y,z]) hp (by decide) hn
  rw[nT _ _ hp] at hN
  rw[← List.cons_append] at hm
  rcases List.mem_append.1 hm with hm|hm
  ·exact hN hm
  have:=List.mem_singleton.1 hm
  cases t<;>cases this
 intro _ W A1 c1 n1 A2 c2 n2 hW hA
 rw[ds] at hA
 obtain⟨C,h1,h2,h3,h4,⟨A,c,p1,p2,p3⟩⟩:=hT.below hW
 refine (yT W F h C h1 (hu.below hW) A sh.length c _ p1 p2 p3 aF _ A1 n1 c1 A2 n2 c2 (dI t) x y z hA).mono ?_
 rintro e w' ⟨A',c',rfl,q1,q2,q3,q4⟩
 have kt:=sI h1 p2 q4
 have et:decide (dI t=[116,117,114,110])=t:=by cases t<;>decide
 rw[et] at q2
 refine⟨_,rfl,lW hg hb hF hW (q4.mono λj e=>e.elim (λe=>e ▸ h1.own) (λe=>p3 j e)) (p7 _) ⟨_,q1,h2.kt kt (by decide) (iw (by decide)),h3.kt kt (by decide) (iw (by decide)),h4.kt kt (by decide) (by decide) (iw (by decide)),?_⟩⟩
 rw[List.length_append,List.flatMap_append]
 exact PO.more h1.sz (by decide) q2 q3
end
end
section
section
open Go.RowKit Go.Shelf
def lk:List UInt8:=[100,97,121,115]
def jv:List UInt8:=[115,116,97,114,116]
def fK:List UInt8:=[102,105,110,105,115,104]
def fC:List UInt8:=[32,99,111,115,116]
theorem ip{W:World}{b:Nat}{x:Int}{t:TypeId}(h:W.heap[b]?=some (.cells #[.int .i64 x] t (0,0))):ag ak 1 W (some ⟨b,0,none⟩) 1 [x]:=⟨rfl,rfl,λ_=>⟨b,0,rfl,(Array.getElem?_eq_some_iff.1 h).1,λj u hj=>by
 match j,hj with
 |0,hj =>
  rw[cell_of_row _ _ 0 _ _ (0,0) h]
  exact hj⟩⟩
theorem Ck{W:World}{e:Int}{v:Value}{t:List UInt8}(he:bF e)(h:gu t (.iface 292 v) W):gu (fw e t) (if e≠0 then .iface 64 (.int .i64 e) else .iface 292 v) W:=by
 unfold fw
 by_cases h0:e=0
 ·rw[if_pos h0,if_neg (λh9=>h9 h0)]
  exact h
 rw[if_neg h0,if_pos h0]
 exact .inl ⟨e,rfl,he,rfl⟩
def zx(T:List RT)(dl e:Int)(D S:List Int)(f c:Int):Prop:=e=gL T dl/\D.length<=1000/\S.length<=1000/\(∀ x∈D,bF x)/\(∀ x∈S,bF x)/\bF f/\bF c/\
 (e=0->D=bD (T.map RT.tk) dl/\S=bS (T.map RT.tk) dl/\f=(bE (T.map RT.tk) dl).2/\c=ek (T.map RT.tk) (bD (T.map RT.tk) dl))
theorem JV(T:List RT)(dl:Int):bF (gL T dl):=by unfold gL;split<;>(try split)<;>exact⟨by omega,by omega⟩
theorem CT(w:World)(F:Nat->Prop)(h:Nat)(C:Array Value)(hh:HB w F h C)(A:Option Addr)(c0:Nat)(L:List (RT×Option Addr×Nat))(hC:C[11]?=some (.slice A L.length c0))(hT:fQ w A L.length L)(hn:L.length<=32)(ha:∀ x∈L,x.1.A.length<=1000000000)(B:Nat)(A1:Option Addr)(n1 c1:Nat)(A2:Option Addr)(n2 c2:Nat)(ws:List (List UInt8))(dl:Int)(hA:cU B w A1 n1 c1 A2 n2 c2 ws [dl])
 (b5:gL (L.map (·.1)) dl=0->(∀ x∈bD ((L.map (·.1)).map RT.tk) dl,bF x)/\(∀ x∈bS ((L.map (·.1)).map RT.tk) dl,bF x)/\bF (bE ((L.map (·.1)).map RT.tk) dl).2/\bF (ek ((L.map (·.1)).map RT.tk) (bD ((L.map (·.1)).map RT.tk) dl))) (bg:Nat) (hg:Gl bg w) (hb:bg<=w.heap.size) :
 Calls Tryz.prog 118 #[.pointer (some ⟨h,0,none⟩),.agg #[.slice A1 n1 c1,.slice A2 n2 c2]] w λe w'=>∃ v e0 D S f cs,e=.returned v/\gu (fw e0 (aS [ao lk D,ao jv S,ao (ao fK [f]++fC) [cs]])) v w'/\zx (L.map (·.1)) dl e0 D S f cs/\Below w.heap.size w w':=by
 refine ae ?_
 intro R hR
 have l2:=hA.l2
 simp only[List.length_cons,List.length_nil,Nat.zero_add] at l2
 subst l2
 obtain⟨w1,b6⟩:∃ w1,w.alloc (.cells #[.slice A1 n1 c1,.slice A2 1 c2] 127)=w1:=⟨_,rfl⟩
 have hbx:=heap_alloc_new w (.cells #[.slice A1 n1 c1,.slice A2 1 c2] 127)
 have bf:=ab w (.cells #[.slice A1 n1 c1,.slice A2 1 c2] 127)
 have a0:w1.heap.size=w.heap.size+1:=by rw[← b6];simp
 rw[b6] at hbx bf
 have d4:=zh b6
 have bc:=zh bf
 have cL:=hA.below bf
 obtain⟨bi,oi,y0,rfl,eg,bk,p0⟩:=cL.s2.at1 (k:=0) (by omega)
 simp only[List.getElem?_cons_zero,Option.some.injEq] at bk
 subst bk
 rw[Nat.add_zero] at p0
 obtain⟨d0,d1,-⟩:=ap hbx
 have eu:w.heap.size<w1.heap.size:=by omega
 obtain⟨k5,-⟩:=(hh.below bf).at hC
 have ej:=(hh.below bf).lt
 have cA:=zh (λW (hW:Below w1.heap.size w1 W)=>(vt W A L.length c0 L ((hT.below bf).below hW) dl (by omega) ha).mono λe w' hp=>show (∃ e0 As Ad nd cs cd D S f c,e=.returned (.tuple #[.agg #[.slice As nd cs,.slice Ad nd cd,.int .i64 f,.int .i64 c],.int .i64 e0])/\ag ak 1 w' As nd S/\ag ak 1 w' Ad nd D/\zx (L.map (·.1)) dl e0 D S f c/\(∀ a,As=some a->W.heap.size<=a.block)/\∀ a,Ad=some a->W.heap.size<=a.block)/\Below W.heap.size W w'/\Below w1.heap.size w1 w' from by
  obtain⟨a9,hp⟩:=hp
  refine⟨?_,a9,hW.trans (a9.mono hW.size)⟩
  rcases hp with⟨h1,rfl⟩|⟨h1,sb,Ad,cd,rfl,hs,hd,f1,f2⟩
  ·exact⟨_,_,_,_,_,_,[],[],_,_,rfl,.nil _ _,.nil _ _,⟨rfl,by simp,by simp,by simp,by simp,⟨by omega,by omega⟩,⟨by omega,by omega⟩,λe=>absurd e h1⟩,λ_ e=>(by cases e),λ_ e=>by cases e⟩
  obtain⟨z1,z2,z3,z4⟩:=b5 h1
  exact⟨_,_,_,_,_,_,_,_,_,_,rfl,hs,hd,⟨h1.symm,by rw[← hd.1];omega,by rw[← hs.1];omega,z1,z2,z3,z4,λ_=>⟨rfl,rfl,rfl,rfl⟩⟩,λa e=>by cases e;exact f1,f2⟩)
 have HG:=zh hg
 have Hr:=zh hR.out
 clear hR hA cL hbx bf hh b6 hg hT b5 ha hC a0
 go_enter Tryz.func118,Tryz.ntmps118
 go_upto_region 1 with fail
 rw[d4.out]
 have c4:Below w1.heap.size w1 w1.drew:=(Below.refl _ w1).drew
 have cI:=zh (show ∀ W',Below w1.heap.size w1 W'->Below w1.heap.size w1 W'/\W'.cell? ⟨w.heap.size,1,none⟩=some (.slice (some ⟨bi,oi,none⟩) 1 c2)/\W'.cell? ⟨bi,oi,none⟩=some (.int .i64 dl)/\W'.cell? ⟨h,11,none⟩=some (.slice A L.length c0) from λW' hb =>
  ⟨hb,(hb.cell (p:=⟨w.heap.size,1,none⟩) eu).trans d1,(hb.cell (p:=⟨bi,oi,none⟩) eg).trans p0,(hb.cell (p:=⟨h,11,none⟩) ej).trans k5⟩)
 go_cut [5,6] (λs5 s6 wx=>∃ bx e0 As Ad nd cs cd D S f c,s5=.pointer (some ⟨bx,0,none⟩)/\s6=.int .i64 e0/\Hid (wx.heap[bx]?=some (.cells #[.slice As nd cs,.slice Ad nd cd,.int .i64 f,.int .i64 c] 85 (0,0)))/\Hid (ag ak 1 wx As nd S)/\Hid (ag ak 1 wx Ad nd D)/\Hid (zx (L.map (·.1)) dl e0 D S f c)/\Hid (Below w1.heap.size w1 wx))
 case first =>
  go_region_held3 (λw'=>Below w1.heap.size w1 w'/\w'.cell? ⟨w.heap.size,1,none⟩=some (.slice (some ⟨bi,oi,none⟩) 1 c2)/\w'.cell? ⟨bi,oi,none⟩=some (.int .i64 dl)/\w'.cell? ⟨h,11,none⟩=some (.slice A L.length c0))
   (first
    |(refine cI.out _ ?_;repeat (first|with_reducible exact c4|with_reducible exact Below.refl _ _|with_reducible refine Below.drew ?_|with_reducible exact hka|with_reducible refine bJ ?_ _|exact oB hka _ _ _ _|assumption|exact Nat.le_refl _))
    |go_keep)
   (first
   |(go_at_call 23;have c6:=(‹Below w1.heap.size w1 _/\_›).1;(with_reducible refine (cA.out _ c6).mono ?_);rintro e w2 ⟨⟨e0,As,Ad,nd,cs,cd,D,S,f,c,rfl,hs,hd,hp,bm,dd⟩,a9,hka⟩;(first|(have hz:=(a9.block w1.heap.size (by simp[World.drew])).trans (heap_alloc_new w1 (.cells #[.slice none 0 0,.slice none 0 0,.int .i64 0,.int .i64 0] 85));obtain⟨z0,z1,z2,z3,zf⟩:=an hz;have zf0:=zf 0;have zf1:=zf 1;have zf2:=zf 2;have zf3:=zf 3;clear zf)|skip);have cC:=zh hs;have ct:=zh hd;have cx:=zh hp;have dz:=zh bm;have d2:=zh dd;clear a9 c6 hs hd hp bm dd))
  all_goals
   go_wp2_with fail
   go_meet
   first
   |exact⟨_,e0,As,Ad,_,cs,cd,D,S,f,c,rfl,rfl,zh (heap_alloc_new w2 _),zh (cC.out.below (ab w2 _)),zh (ct.out.below (ab w2 _)),cx,zh (bJ hka _)⟩
   |exact⟨_,e0,As,Ad,_,cs,cd,D,S,f,c,rfl,rfl,zh (vA hz _ _ _ _),zh (qh cC.out (λa e=>by have:=dz.out a e;simp[World.drew] at this;omega) _ _ _ _),zh (qh ct.out (λa e=>by have:=d2.out a e;simp[World.drew] at this;omega) _ _ _ _),cx,zh (oB hka _ _ _ _)⟩
 obtain⟨bx,e0,As,Ad,nd,cs,cd,D,S,f,c,rfl,rfl,HX,HS,HD,HP,bp⟩:=hcut
 clear c4 cI p0 d0 d1 cA k5
 obtain⟨-,q1,q2,q3,q4,q5,q6,-⟩:=HP.out
 rename World=>w2
 have cq:=(Array.getElem?_eq_some_iff.1 HX.out).1
 have bj:bg<=w2.heap.size:=Nat.le_trans hb (Nat.le_trans bc.out.size bp.out.size)
 have bw:=zh (HG.out.on ((bc.out.trans (bp.out.mono bc.out.size)).mono hb))
 go_upto_region 2 with fail
 go_cut [7] (λs7 wx=>s7=.string ⟨(ao (ao fK [f]++fC) [c]).toArray⟩/\Hid (Below w2.heap.size w2 wx))
 case first =>
  obtain⟨ι,mk,aa⟩:=iP w2.heap.size w2
  obtain⟨x0,bk⟩:=aa.drew
  obtain⟨u0,u1,u2,u3,-⟩:=an HX.out
  have t2:=λx=>((aa.below x).cell (p:=⟨bx,2,none⟩) cq).trans u2
  have t3:=λx=>((aa.below x).cell (p:=⟨bx,3,none⟩) cq).trans u3
  have am:=zh aa
  have cN:=zh (λx (b:Nat) (ec:(mk x).heap[b]?=some (.cells #[.int .i64 f] 3 (0,0)))=>ee ⟨fK.toArray⟩ (some ⟨b,0,none⟩) 1 1 [f] (mk x) (ip ec) (by omega) (by decide) (λx hx=>by rw[List.mem_singleton] at hx;subst hx;exact q5) bg (bw.out.on ((aa.below x).mono bj)) (Nat.le_trans bj (aa.below x).size))
  haveI:=aa.ne
  clear u0 u1 u2 u3
  refine jD (C:=λw'=>∃ x,w'=mk x) 8 (λi=>if i=2 then some ⟨λb=>.slice (some ⟨b,0,none⟩) 1 1,.cells #[.int .i64 f] 3⟩ else if i=7 then some ⟨λb=>.slice (some ⟨b,0,none⟩) 1 1,.cells #[.int .i64 c] 3⟩ else none) (λi=>if i=3 then some (.string ⟨(ao fK [f]).toArray⟩) else none) (by kernel_rfl) (by kernel_rfl) ⟨x0,bk⟩ (λw ob hc=>(am.out.iff _).1 (((am.out.iff _).2 hc).alloc ((am.out.iff _).2 hc).size ob)) (λi m hi=>by
   split at hi
   ·omega
   split at hi
   ·omega
   cases hi) λβ hβ1 hβ2=>?_
  simp only[List.take_succ_cons,List.take_zero,List.drop_succ_cons,List.drop_zero]
  iterate 2 (refine dh rfl rfl (λK hK=>?_);go_simp;refine hK _ ?_;clear hK K)
  refine fe rfl rfl (by rintro _ ⟨x,rfl⟩;go_simp) ?_
  refine iZ rfl rfl rfl ?_ ?_
  ·rintro _ ⟨x,rfl⟩ hm
   have f2:=hm ⟨2,.data⟩ (by simp) rfl _ rfl
   go_simp
   exact (cN x _ f2).mono λe w'' hp=>⟨hp.1,(am.out.iff _).1 ((am.out.below x).trans (hp.2.mono (am.out.below x).size)),hp.2⟩
  clear cN
  have bt:=ef (wd:=fK) (l:=[f]) (λx hx=>by rw[List.mem_singleton] at hx;subst hx;exact q5)
  have eB:fK.length=6:=rfl
  have z1:¬ 9223372036854775807<(ao fK [f]).length+5:=by simp at bt;omega
  have es:((⟨(ao fK [f]).toArray⟩:ByteArray)++⟨#[32,99,111,115,116]⟩)=⟨(ao fK [f]++fC).toArray⟩:=li (by rw[bN];rfl)
  iterate 3 (refine dh rfl rfl (λK hK=>?_);go_simp;refine hK _ ?_;clear hK K)
  refine fe rfl rfl (by rintro _ ⟨x,rfl⟩;go_simp) ?_
  rintro _ ⟨x,rfl⟩ hf
  have f7:=hf 7 _ rfl
  clear hf
  go_wp2_with fail
  have bq:=am.out.below x
  refine (ee ⟨(ao fK [f]++fC).toArray⟩ (some ⟨β 7,0,none⟩) 1 1 [c] (mk x) (ip f7) (by omega) (by rw[aO];show (ao fK [f]++fC).length<=_;rw[List.length_append];have:fC.length=5:=rfl;simp at bt;omega) (λx hx=>by rw[List.mem_singleton] at hx;subst hx;exact q6) bg (bw.out.on (bq.mono bj)) (Nat.le_trans bj bq.size)).mono ?_
  rintro e w3 ⟨rfl,bI⟩
  have ad:=zh (bq.trans (bI.mono bq.size))
  clear bI bq f7 bk
  go_wp2_with fail
  go_meet
  exact⟨rfl,ad⟩
 obtain⟨rfl,ad⟩:=hcut
 rename World=>w3
 have cn:=(ad.out.block _ cq).trans HX.out
 have dx:=(Array.getElem?_eq_some_iff.1 cn).1
 obtain⟨u0,u1,-,-,-⟩:=an cn
 have c3:=Nat.le_trans bj ad.out.size
 obtain⟨ι,mk,aa⟩:=iP w3.heap.size w3
 have hd:=aa.drew
 have t0:=λx=>((aa.below x).cell (p:=⟨bx,0,none⟩) dx).trans u0
 have t1:=λx=>((aa.below x).cell (p:=⟨bx,1,none⟩) dx).trans u1
 have am:=zh aa
 obtain⟨sd,cj⟩:∃ s:ByteArray,(⟨(ao lk D).toArray⟩:ByteArray)=s:=⟨_,rfl⟩
 obtain⟨ss,cl⟩:∃ s:ByteArray,(⟨(ao jv S).toArray⟩:ByteArray)=s:=⟨_,rfl⟩
 have c5:∀ (x:ι) {f:FuncId} {args:Array Value} {v:Value},(Calls Tryz.prog f args (mk x) λe w'=>e=.returned v/\Below (mk x).heap.size (mk x) w')->Calls Tryz.prog f args (mk x) λe w''=>e=.returned v/\(∃ m,w''=mk m)/\Below (mk x).heap.size (mk x) w'':=λx f args v hc=>hc.mono λe w'' hp=>⟨hp.1,(aa.iff _).1 ((aa.below x).trans (hp.2.mono (aa.below x).size)),hp.2⟩
 have b7:=zh (λx=>c5 x (ee ⟨#[100,97,121,115]⟩ Ad nd cd D (mk x) ((HD.out.below ad.out).below (aa.below x)) (by rw[HD.out.1];exact q1) (by decide) q3 bg (bw.out.on ((ad.out.trans ((aa.below x).mono ad.out.size)).mono bj)) (Nat.le_trans c3 (aa.below x).size)))
 have b9:=zh (λx=>c5 x (ee ⟨#[115,116,97,114,116]⟩ As nd cs S (mk x) ((HS.out.below ad.out).below (aa.below x)) (by rw[HS.out.1];exact q2) (by decide) q4 bg (bw.out.on ((ad.out.trans ((aa.below x).mono ad.out.size)).mono bj)) (Nat.le_trans c3 (aa.below x).size)))
 rw[show (⟨#[100,97,121,115]⟩:ByteArray).data.toList=lk from rfl,cj] at b7
 rw[show (⟨#[115,116,97,114,116]⟩:ByteArray).data.toList=jv from rfl,cl] at b9
 have d5:=zh cj
 have d6:=zh cl
 haveI:=aa.ne
 clear u0 u1 aa cn cj cl
 go_upto_region 3 with fail
 obtain⟨x0,bk⟩:=hd
 refine jD (C:=λw'=>∃ x,w'=mk x) 9 (λi=>if i=8 then some ⟨λb=>.slice (some ⟨b,0,none⟩) 3 3,.cells #[.string sd,.string ss,.string ⟨(ao (ao fK [f]++fC) [c]).toArray⟩] 9⟩ else none) (λi=>if i=3 then some (.string sd) else if i=6 then some (.string ss) else none) (by kernel_rfl) (by kernel_rfl) ⟨x0,bk⟩ (λw ob hc=>(am.out.iff _).1 (((am.out.iff _).2 hc).alloc ((am.out.iff _).2 hc).size ob)) (λi m hi=>by
  split at hi
  ·omega
  cases hi) λβ hβ1 hβ2=>?_
 simp only[List.take_succ_cons,List.take_zero,List.drop_succ_cons,List.drop_zero]
 iterate 3 (refine dh rfl rfl (λK hK=>?_);go_simp;refine hK _ ?_;clear hK K)
 refine iZ rfl rfl rfl (by rintro _ ⟨x,rfl⟩ -;go_simp;exact b7.out x) ?_
 iterate 2 (refine dh rfl rfl (λK hK=>?_);go_simp;refine hK _ ?_;clear hK K)
 refine iZ rfl rfl rfl (by rintro _ ⟨x,rfl⟩ -;go_simp;exact b9.out x) ?_
 refine dh rfl rfl (λK hK=>?_);go_simp;refine hK _ ?_;clear hK K
 refine fe rfl rfl (by rintro _ ⟨x,rfl⟩;go_simp) ?_
 rintro _ ⟨x,rfl⟩ hf
 have f8:=hf 8 _ rfl
 obtain⟨b8,cT⟩:∃ b,β 8=b:=⟨_,rfl⟩
 rw[cT] at f8
 clear t0 t1 b7 b9 hf hβ1 hβ2
 dsimp only at f8 ⊢
 rw[cT]
 go_wp2_with fail
 have hX:ag bW 1 (mk x) (some ⟨b8,0,none⟩) 3 [sd,ss,⟨(ao (ao fK [f]++fC) [c]).toArray⟩]:=⟨rfl,rfl,λ_=>⟨b8,0,rfl,(Array.getElem?_eq_some_iff.1 f8).1,λj u hj=>by
  match j,hj with
  |0,hj=>rw[cell_of_row _ _ 0 _ _ (0,0) f8];exact hj
  |1,hj=>rw[cell_of_row _ _ 1 _ _ (0,0) f8];exact hj
  |2,hj=>rw[cell_of_row _ _ 2 _ _ (0,0) f8];exact hj⟩⟩
 have bt:=ef (wd:=fK) (l:=[f]) (λx hx=>by rw[List.mem_singleton] at hx;subst hx;exact q5)
 have ci:=ef (wd:=ao fK [f]++fC) (l:=[c]) (λx hx=>by rw[List.mem_singleton] at hx;subst hx;exact q6)
 have en:=ef (wd:=lk) (l:=D) q3
 have eo:=ef (wd:=jv) (l:=S) q4
 have e1:fK.length=6:=rfl
 have e2:fC.length=5:=rfl
 have e3:lk.length=4:=rfl
 have e4:jv.length=5:=rfl
 rw[List.length_append] at ci
 simp only[List.length_cons,List.length_nil] at bt ci
 have c9:bF e0:=by rw[HP.out.1];exact JV _ _
 have cV:Below w.heap.size w (mk x):=((bc.out.trans (bp.out.mono bc.out.size)).trans (ad.out.mono (Nat.le_trans bc.out.size bp.out.size))).trans ((am.out.below x).mono (Nat.le_trans bc.out.size (Nat.le_trans bp.out.size ad.out.size)))
 rw[← d5.out,← d6.out] at hX
 have cc:=Ck c9 (uB hX (by omega) (by omega) (by omega))
 obtain⟨v,hv⟩:∃ v,(if e0≠0 then Value.iface 64 (.int .i64 e0) else .iface 292 (.slice (some ⟨b8,0,none⟩) 3 3))=v:=⟨_,rfl⟩
 rw[hv] at cc
 have Hv:=zh hv
 have HF:=zh (Hr.out _ _ ⟨_,e0,D,S,f,c,rfl,cc,HP.out,cV⟩)
 clear hX bt ci en eo e1 e2 e3 e4 cc cV Hr c9 hv
 refine (nK e0 (some ⟨b8,0,none⟩) 3 3 _).mono ?_
 rintro e w5 ⟨he,rfl⟩
 rw[Hv.out] at he
 subst he
 go_wp2_with fail
 exact HF.out
end
end
section
section
open Go.RowKit
theorem yr:∀ (T:List Tk) (D:List Int),(∀ t∈T,0<=t.N/\t.N<=1000/\0<=t.R/\t.R<=10000)->(∀ x∈D,0<=x/\x<=1000)->-(10000000*(T.length:Int))<=ek T D/\ek T D<=10000000*(T.length:Int)
 |[],D,_,_=>by
  unfold ek
  exact⟨by simp,by simp⟩
 |t :: T,[],_,_=>by
  unfold ek
  exact⟨by rw[List.length_cons];omega,by rw[List.length_cons];omega⟩
 |t :: T,d :: D,h1,h2=>by
  obtain⟨i1,i2⟩:=yr T D (λt ht=>h1 t (List.mem_cons_of_mem _ ht)) (λx hx=>h2 x (List.mem_cons_of_mem _ hx))
  obtain⟨a1,a2,a3,a4⟩:=h1 t List.mem_cons_self
  obtain⟨b1,b2⟩:=h2 d List.mem_cons_self
  obtain⟨m1,m2⟩:=Dc (y:=t.N-d) a3 a4 (by omega) (by omega)
  unfold ek
  rw[List.length_cons]
  exact⟨by omega,by omega⟩
theorem IA{L:List RT}{dl:Int}(h:gL L dl=0):(∀ x∈bD (L.map RT.tk) dl,bF x)/\(∀ x∈bS (L.map RT.tk) dl,bF x)/\bF (bE (L.map RT.tk) dl).2/\bF (ek (L.map RT.tk) (bD (L.map RT.tk) dl)):=by
 obtain⟨ei,hD⟩:=nk h
 obtain⟨ok1,-⟩:=kn ei
 obtain⟨T,hT⟩:∃ T,L.map RT.tk=T:=⟨_,rfl⟩
 rw[hT] at hD ok1 ⊢
 obtain⟨l,hb⟩:=AR hD
 have ev:=ok1.l2
 have hd:∀ i,0<=(bD T dl).getD i 0/\(bD T dl).getD i 0<=1000:=λi=>by
  rw[List.getD_eq_getElem?_getD]
  cases hi:(bD T dl)[i]? with
  |none=>exact⟨by simp,by simp⟩
  |some x=>exact hb x (List.mem_of_getElem? hi)
 have hA:∀ i t,T[i]?=some t->∀ a∈t.A,a<0+i:=λi t hi a ha=>by
  rw[Nat.zero_add]
  exact (ok1.tk i t hi).2.2.2.2.2 a ha
 obtain⟨e1,e2⟩:=sj (λi=>(bD T dl).getD i 0) (c:=1000) (by decide) (λi=>(hd i).2) T 0 (λ_=>0,0) hA (λj hj=>absurd hj (Nat.not_lt_zero j)) (by decide)
 have e3:=qa (λi=>(bD T dl).getD i 0) T 0 (λ_=>0,0)
 obtain⟨s1,s2⟩:=yr T (bD T dl) (λt ht=>by
  obtain⟨i,hi,rfl⟩:=List.getElem_of_mem ht
  obtain⟨g1,g2,g3,g4,g5,-⟩:=ok1.tk i _ (List.getElem?_eq_getElem hi)
  exact⟨by omega,g3,g4,g5⟩) hb
 refine⟨λx hx=>⟨by have:=hb x hx;omega,by have:=hb x hx;omega⟩,λx hx=>?_,⟨?_,?_⟩,⟨by omega,by omega⟩⟩
 ·unfold bS at hx
  obtain⟨i,hi,rfl⟩:=List.mem_map.1 hx
  have hi:=List.mem_range.1 hi
  have h1:=(mX (λi=>(bD T dl).getD i 0) T 0 (λ_=>0,0) hA i _ (List.getElem?_eq_getElem hi)).1
  have h2:=e1 i (by omega)
  rw[Nat.zero_add] at h1
  unfold bE
  exact⟨by omega,by omega⟩
 ·unfold bE;dsimp only at e3;omega
 unfold bE;omega
end
end
section
section
open Go.RowKit Go.Shelf
theorem kK.mono{bg:Nat}{Q Q':List UInt8->World->Prop}{v:Value}{W:World}(h:kK bg Q v W)(hq:∀ t w,Q t w->Q' t w):kK bg Q' v W:=by
 rcases h with⟨c,h1,h2,h3,h4⟩|⟨A,n,cp,L,h1,h2,h3,h4,h5,h6⟩
 ·exact .inl ⟨c,h1,h2,h3,λw' hw=>hq _ _ (h4 w' hw)⟩
 exact .inr ⟨A,n,cp,L,h1,h2,h3,h4,h5,λw' hw=>hq _ _ (h6 w' hw)⟩
def wu:List UInt8:=[112,108,97,110]
def wt(e:Int)(D S:List Int)(f c:Int):List UInt8:=fw e (aS [ao lk D,ao jv S,ao (ao fK [f]++fC) [c]])
theorem BM(w:World)(F:Nat->Prop)(h:Nat)(jk qu:List (Int×Int))(tk:List RT)(sh:List (Int×Int×Int×Bool))(hT:gv w F h jk qu tk sh)(s:ByteArray)(bg:Nat)(hg:Gl bg w)(hb:bg<=w.heap.size)(hF:∀ j,F j->bg<=j)(dl:Nat)(hs:s.data.toList=dg wu [dl])(hx:dl<1000000000000)(aF:tk.length<=32)(ha:∀ x∈tk,x.A.length<=1000000000) :
 Calls Tryz.prog 7 #[.pointer (some ⟨h,0,none⟩),.string s] w λe w'=>∃ t,e=.returned (.string ⟨t.toArray⟩)/\∃ e0 D S f c,zx tk dl e0 D S f c/\PQ w F h jk qu tk sh (wt e0 D S f c) t w':=by
 obtain⟨q0,hl⟩:=hT.made
 have hn:∀ n∈[dl],n<1000000000000:=λn hn=>by simp only[List.mem_cons,List.not_mem_nil,or_false] at hn;omega
 refine pE w h q0 hl s 112 [108,97,110] [110] 118 [dl] hs hn (by simp) (by decide) (by decide) (by decide) (by decide) 27 rfl (by decide) (by decide) (by decide) (by decide) (by decide) (enters_of Tryz.func118 (by kernel_rfl) rfl) bg hg hb (λt w'=>∃ e0 D S f c,zx tk dl e0 D S f c/\PQ w F h jk qu tk sh (wt e0 D S f c) t w') (kH hn (by show Lib.fields _=List.replicate 1 kN;decide)) ?_
 intro W A1 c1 n1 A2 c2 n2 hW hA
 have d7:=hT.below hW
 obtain⟨C,h1,h2,h3,⟨L,e1,⟨A,c,p1,p2,p3⟩,e3⟩,h5⟩:=d7
 have hL:L.length<=32:=by rw[← e1,List.length_map] at aF;exact aF
 refine (CT W F h C h1 A c L p1 ⟨ag.of_own p2 rfl,λx hx=>(e3 x hx).sl⟩ hL (λx hx=>ha _ (e1 ▸ List.mem_map_of_mem hx)) _ A1 n1 c1 A2 n2 c2 [] dl hA IA bg (hg.on (hW.mono hb)) (Nat.le_trans hb hW.size)).mono ?_
 rintro e w' ⟨v,e0,D,S,f,cs,rfl,q1,q2,q3⟩
 rw[e1] at q2
 exact⟨v,rfl,(lW hg hb hF hW ((ar (S:=F) q3)) q1 ((hT.below hW).below q3)).mono λt w'' hp=>⟨e0,D,S,f,cs,q2,hp⟩⟩
end
end
end Go.Proofs.YtgbnicokglpdbaaGreatDoor
