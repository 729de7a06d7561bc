/-
A row of the law's that grows beside the house; conditions: those of each theorem.
-/
import Derived.Test.YtgbnicokglpdbaaGreatDoorEc
namespace Go.Proofs.YtgbnicokglpdbaaGreatDoor
set_option maxHeartbeats 8000000
set_option maxRecDepth 16000
section
section
open Go.RowKit Go.Shelf
theorem LP.push{wc W W1 W2:World}{F:Nat->Prop}{h:Nat}{jk qu:List (Int×Int)}{tk:List RT}{sh:List (Int×Int×Int×Bool)}(k:LP wc W F h jk qu tk sh){B e sz n c n' c':Nat}{A A':Option Addr}{xs ys:List Value}(hB:wc.heap.size<=B)(ho:W.ownsRow B e sz (.slice A n c) n xs)(hf:∀ g,(Value.slice A n c).ownBlock=some g->¬ F g)(h1:Below W.heap.size W W1)(hg:W1.grownBy W2 (Value.slice A n c).ownBlock)(bc:W2.ownsRow B e sz (.slice A' n' c') n' ys)(hl:(Value.slice A' n' c').ownBlock=(Value.slice A n c).ownBlock\/(Value.slice A' n' c').ownBlock=some W1.heap.size) :
 ∃ G,LP wc W2 G h jk qu tk sh/\(∀ g,(Value.slice A' n' c').ownBlock=some g->¬ G g)/\(∀ j,j<W.heap.size->G j->F j)/\Kx (λj=>(Value.slice A n c).ownBlock=some j) W W2:=by
 have k2:Kx (λj=>(Value.slice A n c).ownBlock=some j) W W2:=(ar h1).grown hg λj e=>.inl e
 obtain⟨G,g1,g2,g3⟩:=k.own k2 (λj e=>hf j e) (λj e=>Nat.le_trans hB (lV ho e))
 refine⟨G,g1,λg e hG=>?_,g2,k2⟩
 rcases hl with hl|hl
 ·rw[hl] at e
  exact hf g e (g2 g (ho.lt g e).2 hG)
 rw[hl] at e
 cases e
 exact g3 _ h1.size (bc.lt _ hl).2 hG
theorem tY{W W':World}{F:Nat->Prop}{B e sz n:Nat}{v:Value}{xs:List Value}(ho:W.ownsRow B e sz v n xs)(hf:∀ g,v.ownBlock=some g->¬ F g)(k:Kx F W W'):W'.ownsRow B e sz v n xs:=
 aH ho λg hg=>k.block g (ho.lt g hg).2 (hf g hg)
theorem DJ(x y z:Nat){t:Bool}{sw:ByteArray}(h:sw.data.toList=32 :: dI t):((⟨#[115,104,97,112,101,32]⟩++⟨(Lib.itoa (x:Int)).toArray⟩++⟨#[32]⟩++⟨(Lib.itoa (y:Int)).toArray⟩++⟨#[32]⟩++⟨(Lib.itoa (z:Int)).toArray⟩++sw:ByteArray)).data.toList=nU fA [x,y,z] (dI t):=by
 simp only[bN,h]
 simp[nU,dg,fA]
theorem Dm(x y z:Nat):((⟨#[112,97,110,101,108,32]⟩++⟨(Lib.itoa (x:Int)).toArray⟩++⟨#[32]⟩++⟨(Lib.itoa (y:Int)).toArray⟩++⟨#[32]⟩++⟨(Lib.itoa (z:Int)).toArray⟩:ByteArray)).data.toList=dg sQ [x,y,z]:=by
 simp only[bN]
 simp[dg,sQ]
def Gt(x:Int×Int×Int×Bool):Prop:=(1<=x.1/\x.1<=8)/\(1<=x.2.1/\x.2.1<=8)/\0<=x.2.2.1/\x.2.2.1<=1023
structure Rw(wc W:World)(F:Nat->Prop)(h:Nat)(jk qu:List (Int×Int))(tk:List RT)(sh:List (Int×Int×Int×Bool))(B e sz:Nat)(A:Option Addr)(n c:Nat)(xs:List Value):Prop where
 lp:LP wc W F h jk qu tk sh
 own:W.ownsRow B e sz (.slice A n c) n xs
 far:∀ g,(Value.slice A n c).ownBlock=some g->¬ F g
 lo:wc.heap.size<=B
 le:B<=W.heap.size
section
variable{wc W W1 W2:World}{F:Nat->Prop}{h:Nat}{jk qu jk' qu':List (Int×Int)}{tk tk':List RT}{sh sh':List (Int×Int×Int×Bool)}{B e sz n c n' c':Nat}{A A':Option Addr}{xs ys:List Value}
theorem Rw.fresh(k:LP wc W F h jk qu tk sh):∃ G,Rw wc (W.alloc (.cells #[] e)) G h jk qu tk sh W.heap.size e sz (some ⟨W.heap.size,0,none⟩) 0 0 []/\∀ j,j<W.heap.size->G j->F j:=by
 obtain⟨G,g1,g2,g3⟩:=k.new (ab W (.cells #[] e))
 exact⟨G,⟨g1,gW W #[] e sz 0 _ (by simp) (Nat.le_refl _) (by decide),λg hg=>by cases hg;exact g3 _ (Nat.le_refl _) (by simp),k.low.size,by simp⟩,g2⟩
theorem Rw.push(k:Rw wc W F h jk qu tk sh B e sz A n c xs)(h1:Below W.heap.size W W1)(hg:W1.grownBy W2 (Value.slice A n c).ownBlock)(bc:W2.ownsRow B e sz (.slice A' n' c') n' ys)(hl:(Value.slice A' n' c').ownBlock=(Value.slice A n c).ownBlock\/(Value.slice A' n' c').ownBlock=some W1.heap.size) :
 ∃ G,Rw wc W2 G h jk qu tk sh B e sz A' n' c' ys/\(∀ j,j<W.heap.size->G j->F j)/\Kx (λj=>B<=j) W W2/\Kt (λt=>t=e) W W2:=by
 obtain⟨G,g1,g2,g3,g4⟩:=k.lp.push k.lo k.own k.far h1 hg bc hl
 exact⟨G,⟨g1,bc,g2,k.lo,Nat.le_trans k.le g4.size⟩,g3,g4.mono λj e=>lV k.own e,rc k.own h1 hg⟩
theorem Rw.below(k:Rw wc W F h jk qu tk sh B e sz A n c xs)(hb:Below W.heap.size W W1):Rw wc W1 F h jk qu tk sh B e sz A n c xs:=
 ⟨k.lp.below hb,ai k.own hb,k.far,k.lo,Nat.le_trans k.le hb.size⟩
theorem Rw.line(k:Rw wc W F h jk qu tk sh B e sz A n c xs)(l:LP wc W1 F h jk' qu' tk' sh')(hk:Kx F W W1):Rw wc W1 F h jk' qu' tk' sh' B e sz A n c xs:=
 ⟨l,tY k.own k.far hk,k.far,k.lo,Nat.le_trans k.le hk.size⟩
end
structure Ow(W:World)(F:Nat->Prop)(B e sz:Nat)(A:Option Addr)(n c:Nat)(xs:List Value):Prop where
 own:W.ownsRow B e sz (.slice A n c) n xs
 far:∀ g,(Value.slice A n c).ownBlock=some g->¬ F g
section
variable{W W1:World}{F G:Nat->Prop}{B e sz n c:Nat}{A:Option Addr}{xs:List Value}{T:TypeId->Prop}
theorem Ow.kx(o:Ow W F B e sz A n c xs)(k:Kx F W W1):Ow W1 F B e sz A n c xs:=⟨tY o.own o.far k,o.far⟩
theorem Ow.below(o:Ow W F B e sz A n c xs)(k:Below W.heap.size W W1):Ow W1 F B e sz A n c xs:=⟨ai o.own k,o.far⟩
theorem Ow.kt(o:Ow W F B e sz A n c xs)(k:Kt T W W1)(ht:¬ T e)(hG:∀ j,j<W.heap.size->G j->F j):Ow W1 G B e sz A n c xs:=
 ⟨aH o.own λg hg=>by
  obtain⟨D,hD⟩:=a8 o.own hg
  exact k.kp g D e hD ht,λg hg h=>o.far g hg (hG g (o.own.lt g hg).2 h)⟩
end
def Px(B pb:Nat)(C:Array Value)(W:World)(F:Nat->Prop):Prop:=W.heap[pb]?=some (.cells C 26 (0,0))/\¬ F pb/\pb<B
theorem Px.kx{B pb:Nat}{C:Array Value}{W W1:World}{F:Nat->Prop}(p:Px B pb C W F)(k:Kx F W W1):Px B pb C W1 F:=⟨(k.block pb (Array.getElem?_eq_some_iff.1 p.1).1 p.2.1).trans p.1,p.2⟩
theorem Px.below{B pb:Nat}{C:Array Value}{W W1:World}{F:Nat->Prop}(p:Px B pb C W F)(k:Below W.heap.size W W1):Px B pb C W1 F:=⟨(k.block pb (Array.getElem?_eq_some_iff.1 p.1).1).trans p.1,p.2⟩
theorem Px.to{B pb:Nat}{C:Array Value}{W W1:World}{F G:Nat->Prop}(p:Px B pb C W F)(k:Kx (λj=>B<=j) W W1)(hG:∀ j,j<W.heap.size->G j->F j):Px B pb C W1 G:=
 ⟨(k.block pb (Array.getElem?_eq_some_iff.1 p.1).1 (by have:=p.2.2;omega)).trans p.1,λh=>p.2.1 (hG pb (Array.getElem?_eq_some_iff.1 p.1).1 h),p.2.2⟩
theorem JA{W H k:Int}{ss:List aj}(hp:eP W H k ss=true):(0<=val k ss W H/\val k ss W H<4294967296)/\(0<=ir W H (aQ k ss W H (aK k ss W H))/\ir W H (aQ k ss W H (aK k ss W H))<4294967296)/\∀ x∈mL ss.length (aQ k ss W H (aK k ss W H)),0<=x/\x<4294967296:=by
 obtain⟨n9,oe,n7,n8,ou,ph,hV,hH⟩:=fi hp
 obtain⟨p,h1,h2⟩:=pL k ss ou W H n9 n7
 obtain⟨-,b2,-,b4,b5⟩:=jp hp h1
 obtain⟨w1,w2⟩:=pY (ss:=ss) (λs hs=>(hH s hs).2.2) p
 have m1:W*H<=64*64:=Int.mul_le_mul oe n8 (by omega) (by omega)
 rw[h1]
 refine⟨by omega,⟨by show 0<=W*H-bZ p;omega,by show W*H-bZ p<_;omega⟩,λx hx=>?_⟩
 obtain⟨c1,c2⟩:=wZ _ p x hx
 exact⟨by omega,by omega⟩
theorem FB{P0 P1 P2:Nat}{S:List (Int×Int×Int×Bool)}(h0:1<=P0/\P0<=16)(h1:1<=P1/\P1<=16)(h2:P2<=3)(hl:S.length<=4)(hS:∀ s∈S,Gt s):eP P0 P1 P2 (S.map gZ)=true:=by
 unfold eP
 simp only[Bool.and_eq_true,List.all_eq_true,decide_eq_true_eq]
 refine⟨⟨⟨⟨?_,?_⟩,?_⟩,by rw[List.length_map];omega⟩,λs hs=>?_⟩
 ·unfold jG;simp;omega
 ·unfold jG;simp;omega
 ·unfold jG;simp;omega
 obtain⟨y,hy,rfl⟩:=List.mem_map.1 hs
 obtain⟨a1,a2,a3,a4⟩:=hS y hy
 unfold lC jG gZ
 simp
 omega
theorem Ga(wc w:World)(F:Nat->Prop)(h:Nat)(jk qu:List (Int×Int))(tk:List RT)(k:LP wc w F h jk qu tk [])(bg:Nat)(hg:Gl bg wc)(hb:bg<=wc.heap.size)(As:Option Addr)(ns cs:Nat)(X:List aj)(ma:Nat)(hX:ag aj.enc 4 wc As ma X)(o0:ns<=4)(pj:ns<=ma)(P0 P1 P2:Nat)(h0:1<=P0/\P0<=16)(h1:1<=P1/\P1<=16)(h2:P2<=3) :
 Calls Tryz.prog 11 #[.pointer (some ⟨h,0,none⟩),.slice As ns cs,.agg #[.int .i64 (P0:Int),.int .i64 (P1:Int),.int .i64 (P2:Int)]] w λe w'=>e=.returned (.bool true)/\Below wc.heap.size wc w':=by
 refine ae ?_
 intro R hR
 have HR:=zh hR.out
 obtain⟨w1,cL⟩:∃ w1,w.alloc (.cells #[.int .i64 (P0:Int),.int .i64 (P1:Int),.int .i64 (P2:Int)] 26)=w1:=⟨_,rfl⟩
 obtain⟨pb,f0⟩:∃ b,w.heap.size=b:=⟨_,rfl⟩
 have cN:=heap_alloc_new w (.cells #[.int .i64 (P0:Int),.int .i64 (P1:Int),.int .i64 (P2:Int)] 26)
 have cr:=ab w (.cells #[.int .i64 (P0:Int),.int .i64 (P1:Int),.int .i64 (P2:Int)] 26)
 rw[cL] at cN cr
 obtain⟨G0,k1,-,k3⟩:=k.new cr
 have bi:=(Array.getElem?_eq_some_iff.1 cN).1
 obtain⟨G1,k4,k5⟩:=Rw.fresh (e:=94) (sz:=4) k1
 have hI:Px w1.heap.size pb #[.int .i64 (P0:Int),.int .i64 (P1:Int),.int .i64 (P2:Int)] (w1.alloc (.cells #[] 94)) G1:=
  ⟨((ab w1 (.cells #[] 94)).block pb (by omega)).trans (by rw[← f0];exact cN),λhG=>k3 _ (Nat.le_refl _) bi (k5 _ bi (by rw[f0];exact hG)),by omega⟩
 obtain⟨B,hB⟩:∃ B,w1.heap.size=B:=⟨_,rfl⟩
 rw[hB] at k4 hI
 have f6:=zh k4
 have gN:=zh hI
 have f5:=zh hB
 have HG:=zh hg
 have HX:=zh hX
 have g6:=zh cL
 have mn:=zh f0
 clear hR cN cr k k1 k3 k4 k5 hI cL f0 hB bi hg hX
 go_enter Tryz.func11,Tryz.ntmps11
 go_upto_region 1 with fail
 rw[g6.out,mn.out]
 go_upto_block 0 with fail
 go_cut [7] (λs7 wx=>∃ A c S G,s7=.slice A ns c/\Hid (S.length=ns)/\Hid (Rw wc wx G h jk qu tk S B 94 4 A ns c (S.flatMap yk))/\Hid (∀ s∈S,Gt s)/\Hid (Px B pb #[.int .i64 (P0:Int),.int .i64 (P1:Int),.int .i64 (P2:Int)] wx G))
 case first =>
  go_wp2_with fail
  go_loopw [7,24] (λs7 s24 wr=>∃ (i:Nat) (A:Option Addr) (c:Nat) (S:List (Int×Int×Int×Bool)) (G:Nat->Prop),s7=.slice A i c/\s24=.int .i64 (i:Nat)/\i<=ns/\Hid (S.length=i)/\Hid (Rw wc wr G h jk qu tk S B 94 4 A i c (S.flatMap yk))/\Hid (∀ s∈S,Gt s)/\Hid (Px B pb #[.int .i64 (P0:Int),.int .i64 (P1:Int),.int .i64 (P2:Int)] wr G)) (λ_ s24 _=>ns-(intOf s24).toNat)
  case atStart=>exact⟨0,some ⟨B,0,none⟩,0,[],G1,by rw[f5.out],rfl,Nat.zero_le _,zh rfl,f6,zh (λs hs=>by cases hs),gN⟩
  clear f6 gN
  obtain⟨i,A,c,S,G,rfl,rfl,hi,dt,HK,e9,HP⟩:=hrel
  by_cases bi:i<ns
  ·have i1:(i:Int)<(ns:Int):=by omega
   have i0:(0:Int)<=(i:Int):=by omega
   obtain⟨b,o,s,rfl,hr,-,c0,c1,c2,c3⟩:=(HX.out.below HK.out.lp.low).at4 (show i<ma by omega)
   obtain⟨sW,sH,sV,sT⟩:=s
   dsimp only at c0 c1 c2 c3
   obtain⟨m0,bq⟩:∃ a,bits .and .i64 sW 7=a:=⟨_,rfl⟩
   obtain⟨m1,bt⟩:∃ a,bits .and .i64 sH 7=a:=⟨_,rfl⟩
   obtain⟨m2,hC⟩:∃ a,bits .and .i64 sV 1023=a:=⟨_,rfl⟩
   have e0:=eb sW 7 (by decide)
   have e1:=eb sH 7 (by decide)
   have e2:=eb sV 1023 (by decide)
   rw[show ((7:Nat):Int)=7 from rfl] at e0 e1
   rw[show ((1023:Nat):Int)=1023 from rfl] at e2
   rw[bq] at e0
   rw[bt] at e1
   rw[hC] at e2
   obtain⟨n0,eu,pn⟩:∃ n:Nat,m0+1=(n:Int)/\(1<=n/\n<=8):=⟨(m0+1).toNat,by omega,by omega⟩
   obtain⟨n1,ev,po⟩:∃ n:Nat,m1+1=(n:Int)/\(1<=n/\n<=8):=⟨(m1+1).toNat,by omega,by omega⟩
   obtain⟨n2,oy,pw⟩:∃ n:Nat,m2=(n:Int)/\n<=1023:=⟨m2.toNat,by omega,by omega⟩
   subst oy
   have ec:=zh bq
   have eg:=zh bt
   have m3:=zh hC
   have pa:=zh eu
   have pf:=zh ev
   have m8:=zh (lE eu (by omega) (by omega))
   have na:=zh (lE ev (by omega) (by omega))
   clear bq bt hC e0 e1 e2 eu ev
   go_upto_region 5 with fail
   go_cut [9] (λs9 wx=>s9=.pointer (some ⟨wr.heap.size,0,none⟩)/\Hid (wx.heap[wr.heap.size]?=some (.cells #[.int .i64 (n0:Int),.int .i64 (n1:Int),.int .i64 (n2:Int),.bool sT] 94 (0,0)))/\Hid (Below wr.heap.size wr wx))
   case first =>
    go_wp2_with fail
    go_meet
    simp only[ec.out,eg.out,m3.out,m8.out,na.out]
    exact⟨trivial,zh (heap_alloc_new wr _),zh (ab wr _)⟩
   rename World=>wa
   obtain⟨rfl,am,aF⟩:=hcut
   clear c0 c1 c2 c3
   obtain⟨d0,d1,d2,d3,-⟩:=an am.out
   have bm:=(Array.getElem?_eq_some_iff.1 am.out).1
   go_upto_if 43 with fail
   go_cut [10] (λs10 wx=>∃ sw:ByteArray,s10=.string sw/\Hid (sw.data.toList=32 :: dI sT)/\sw.size<=10/\wx=wa)
   case first =>
    cases sT
    all_goals
     go_wp2_with fail
     go_meet
     exact⟨_,rfl,zh rfl,by decide,rfl⟩
   rename World=>wx
   obtain⟨sw,rfl,m6,pX,mb⟩:=hcut
   rw[mb]
   clear mb
   have bk:=aF.out.trans ((ab wa (.cells #[.int .i64 (n0:Int),.int .i64 (n1:Int),.int .i64 (n2:Int),.bool sT] 94)).mono aF.out.size)
   have bj:=zh (((ab wa (.cells #[.int .i64 (n0:Int),.int .i64 (n1:Int),.int .i64 (n2:Int),.bool sT] 94)).block _ bm).trans am.out)
   have bf:=zh (ai HK.out.own bk)
   have ei:B<=wa.heap.size:=Nat.le_trans HK.out.le aF.out.size
   have b8:=zh bk
   clear bk
   go_upto_region 9 with fail
   go_cut [7] (λs7 wy=>∃ (A':Option Addr) (c':Nat) (G':Nat->Prop),s7=.slice A' (i+1) c'/\Hid (Rw wc wy G' h jk qu tk S B 94 4 A' (i+1) c' ((S++[((n0:Int),(n1:Int),(n2:Int),sT)]).flatMap yk))/\Hid (Px B pb #[.int .i64 (P0:Int),.int .i64 (P1:Int),.int .i64 (P2:Int)] wy G')/\Hid (wy.heap[wr.heap.size]?=some (.cells #[.int .i64 (n0:Int),.int .i64 (n1:Int),.int .i64 (n2:Int),.bool sT] 94 (0,0))))
   case first =>
    go_wp2_with (at_builtin;refine ax rfl (.tmp 44) (.tmp 46) _ rfl sg B _ _ _ rfl bf.out _ _ _ _ rfl (Sl.new wa _ _ 4 1 rfl) (by simp[Value.oneCell']) (by unfold maxLen;omega) (by omega) (by simp;omega) ?_;intro A' c' w2 bc bp c4)
    have es:(S++[((n0:Int),(n1:Int),(n2:Int),sT)]).flatMap yk=S.flatMap yk++[.int .i64 (n0:Int),.int .i64 (n1:Int),.int .i64 (n2:Int),.bool sT]:=by rw[List.flatMap_append];rfl
    obtain⟨G',g1,g2,g3,-⟩:=HK.out.push b8.out bp bc c4
    rw[← es] at g1
    have hd:=(bp.block _ (Array.getElem?_eq_some_iff.1 bj.out).1 (λe=>by have:=(HK.out.own.lt _ e.symm).2;omega)).trans bj.out
    go_meet
    exact⟨A',c',G',rfl,zh g1,zh (HP.out.to g3 g2),zh hd⟩
   rename World=>wd
   obtain⟨A',c',G',rfl,b9,e8,cn⟩:=hcut
   clear d0 d1 d2 d3 bf bj ei am b8 HP
   obtain⟨d0,d1,d2,-,-⟩:=an cn.out
   have bm:=(Array.getElem?_eq_some_iff.1 cn.out).1
   obtain⟨ι,mk,aa⟩:=iP wd.heap.size wd
   have hd:=aa.drew
   have k6:=aa.ne
   have t0:=λy=>((aa.below y).cell bm).trans d0
   have t1:=λy=>((aa.below y).cell bm).trans d1
   have t2:=λy=>((aa.below y).cell bm).trans d2
   have c6:=zh (λy=>aa.call (dy n0 (by omega) (mk y)))
   have c8:=zh (λy=>aa.call (dy n1 (by omega) (mk y)))
   have c9:=zh (λy=>aa.call (dy n2 (by omega) (mk y)))
   have dx:=zh (λy=>aa.below y)
   have l1:=Lib.itoa_length_le (n0:Int) (by omega) (by omega)
   have l2:=Lib.itoa_length_le (n1:Int) (by omega) (by omega)
   have l3:=Lib.itoa_length_le (n2:Int) (by omega) (by omega)
   have z1:¬ 9223372036854775807<6+(Lib.itoa (n0:Int)).length:=by omega
   have z2:¬ 9223372036854775807<6+(Lib.itoa (n0:Int)).length+1:=by omega
   have z3:¬ 9223372036854775807<6+(Lib.itoa (n0:Int)).length+1+(Lib.itoa (n1:Int)).length:=by omega
   have z4:¬ 9223372036854775807<6+(Lib.itoa (n0:Int)).length+1+(Lib.itoa (n1:Int)).length+1:=by omega
   have z5:¬ 9223372036854775807<6+(Lib.itoa (n0:Int)).length+1+(Lib.itoa (n1:Int)).length+1+(Lib.itoa (n2:Int)).length:=by omega
   have z6:¬ 9223372036854775807<6+(Lib.itoa (n0:Int)).length+1+(Lib.itoa (n1:Int)).length+1+(Lib.itoa (n2:Int)).length+sw.size:=by omega
   have kd:S.length<16:=by rw[dt.out];omega
   have dd:=zh (λy=>(b9.out.lp.below (aa.below y)).shape HG.out hb (DJ n0 n1 n2 m6.out) ⟨by omega,by omega,by omega⟩ kd)
   clear aa l1 l2 l3 d0 d1 d2
   go_upto_region 10 with fail
   refine jC (C:=λw'=>∃ x,w'=mk x) 17 (by kernel_rfl) (by kernel_rfl) hd ?_
   simp only[List.take_succ_cons,List.take_zero,List.drop_succ_cons,List.drop_zero]
   repeat (go_big_quiet_step (first|(with_reducible exact c6.out _)|(with_reducible exact c8.out _)|(with_reducible exact c9.out _)))
   refine wpQuiet_nil ?_
   intro _ hY
   obtain⟨y,rfl⟩:=hY
   have ad:=zh (dd.out y)
   clear t0 t1 t2 z1 z2 z3 z4 z5 z6 c6 c8 c9 dd
   go_wp2_with fail
   refine ad.out.mono ?_
   rintro e we ⟨z,rfl,-,et,c5⟩
   have f8:=zh ((b9.out.below (dx.out y)).line et c5)
   have gO:=zh ((e8.out.below (dx.out y)).kx c5)
   have g5:=zh (show ∀ q∈S++[((n0:Int),(n1:Int),(n2:Int),sT)],Gt q from λq hq=>by
    rcases List.mem_append.1 hq with hq|hq
    ·exact e9.out q hq
    rw[List.mem_singleton] at hq
    subst hq
    exact⟨by dsimp only;omega,by dsimp only;omega,by dsimp only;omega,by dsimp only;omega⟩)
   have d5:=zh (show (S++[((n0:Int),(n1:Int),(n2:Int),sT)]).length=i+1 by rw[List.length_append,dt.out];rfl)
   clear et c5 ad kd
   go_wp2_with fail
   exact⟨⟨i+1,A',c',_,G',rfl,by go_num,bi,d5,f8,g5,gO⟩,by simp[intOf];omega⟩
  obtain rfl:i=ns:=by omega
  have i1:¬ (i:Int)<(i:Int):=by omega
  go_wp2_with fail
  go_meet
  exact⟨A,c,S,G,rfl,dt,HK,e9,HP⟩
 rename World=>w2
 obtain⟨A,c,S,G,rfl,dt,HK,e9,HP⟩:=hcut
 clear f6 gN
 have hK:=FB h0 h1 h2 (by rw[dt.out];exact o0) e9.out
 have bI:=zh (show ag aj.enc 4 w2 A ns (S.map gZ) from ⟨by rw[List.length_map,dt.out],by rw[oN];exact Sl.of_own HK.out.own⟩)
 have eF:=HP.out.1
 have hN:=(Array.getElem?_eq_some_iff.1 eF).1
 have d0:=(aT eF 0 rfl).1
 have d1:=(aT eF 1 rfl).1
 have d2:=(aT eF 2 rfl).1
 obtain⟨ι,mk,aa⟩:=iP w2.heap.size w2
 have hd:=aa.drew
 have k6:=aa.ne
 have t0:=λy=>((aa.below y).cell (p:=⟨pb,0,none⟩) hN).trans d0
 have t1:=λy=>((aa.below y).cell (p:=⟨pb,1,none⟩) hN).trans d1
 have t2:=λy=>((aa.below y).cell (p:=⟨pb,2,none⟩) hN).trans d2
 have c6:=zh (λy=>aa.call (dy P0 (by omega) (mk y)))
 have c8:=zh (λy=>aa.call (dy P1 (by omega) (mk y)))
 have c9:=zh (λy=>aa.call (dy P2 (by omega) (mk y)))
 have dd:=zh (λy=>(HK.out.lp.below (aa.below y)).panel HG.out hb (Dm P0 P1 P2) ⟨by omega,by omega,by omega⟩ hK)
 have dx:=zh (λy=>aa.below y)
 have l1:=Lib.itoa_length_le (P0:Int) (by omega) (by omega)
 have l2:=Lib.itoa_length_le (P1:Int) (by omega) (by omega)
 have l3:=Lib.itoa_length_le (P2:Int) (by omega) (by omega)
 have z1:¬ 9223372036854775807<6+(Lib.itoa (P0:Int)).length:=by omega
 have z2:¬ 9223372036854775807<6+(Lib.itoa (P0:Int)).length+1:=by omega
 have z3:¬ 9223372036854775807<6+(Lib.itoa (P0:Int)).length+1+(Lib.itoa (P1:Int)).length:=by omega
 have z4:¬ 9223372036854775807<6+(Lib.itoa (P0:Int)).length+1+(Lib.itoa (P1:Int)).length+1:=by omega
 have z5:¬ 9223372036854775807<6+(Lib.itoa (P0:Int)).length+1+(Lib.itoa (P1:Int)).length+1+(Lib.itoa (P2:Int)).length:=by omega
 have cp:=zh hK
 clear aa l1 l2 l3 d0 d1 d2 hK eF
 go_upto_region 12 with fail
 go_cut [11] (λs11 wx=>∃ z:ByteArray,s11=.string z/\Hid (z.data.toList=tZ P0 P1 P2 (S.map gZ))/\Hid (LP wc wx G h jk qu tk S)/\Hid (Px B pb #[.int .i64 (P0:Int),.int .i64 (P1:Int),.int .i64 (P2:Int)] wx G)/\Hid (ag aj.enc 4 wx A ns (S.map gZ)))
 case first =>
  refine jC (C:=λw'=>∃ x,w'=mk x) 15 (by kernel_rfl) (by kernel_rfl) hd ?_
  simp only[List.take_succ_cons,List.take_zero,List.drop_succ_cons,List.drop_zero]
  repeat (go_big_quiet_step (first|(with_reducible exact c6.out _)|(with_reducible exact c8.out _)|(with_reducible exact c9.out _)))
  refine wpQuiet_nil ?_
  intro _ hY
  obtain⟨y,rfl⟩:=hY
  have ad:=zh (dd.out y)
  clear t0 t1 t2 z1 z2 z3 z4 z5 c6 c8 c9 dd
  go_wp2_with fail
  refine ad.out.mono ?_
  rintro e we ⟨z,rfl,hz,et,c5⟩
  have f8:=zh et
  have gO:=zh ((HP.out.below (dx.out y)).kx c5)
  have g5:=zh (show ag aj.enc 4 we A ns (S.map gZ) from ⟨bI.out.1,by rw[oN];exact Sl.of_own (tY (ai HK.out.own (dx.out y)) HK.out.far c5)⟩)
  have Hz:=zh hz
  clear hz et c5 ad
  go_wp2_with fail
  go_meet
  exact⟨z,rfl,Hz,f8,gO,g5⟩
 rename World=>w3
 obtain⟨z,rfl,Hz,f7,i3,ds⟩:=hcut
 clear t0 t1 t2 z1 z2 z3 z4 z5 c6 c8 c9 dd hd k6 dx bI HK HP
 obtain⟨n1,n2,n3⟩:=JA cp.out
 obtain⟨-,q1,q2⟩:=Au cp.out
 have b6:=Hz.out
 unfold tZ at b6
 obtain⟨ss,hV⟩:∃ ss,S.map gZ=ss:=⟨_,rfl⟩
 have HF:=zh (λw' (oi:Below w3.heap.size w3 w')=>HR.out (.returned (.bool true)) w' ⟨rfl,f7.out.low.trans (oi.mono f7.out.low.size)⟩)
 rw[hV] at n1 n2 n3 q1 q2 b6 ds cp
 have lc:ss.length=ns:=ds.out.1.symm
 have e5:=zh (wR P0 P1 P2 A ns c ss w3 ds.out cp.out)
 obtain⟨l,hl⟩:∃ l,aK P2 ss P0 P1=l:=⟨_,rfl⟩
 have hll:l.length<=8192:=by rw[← hl];exact qI P2 ss (by omega) P0 P1 (by omega) (by omega)
 rw[hl] at n2 n3 q1 q2 b6 e5
 have fb:=zh (λU (hU:Below w3.heap.size w3 U) (A1:Option Addr) (c1:Nat) (hL:ag ep 2 U A1 l.length l) (en:l.length<=c1) (eo:c1<=maxLen)=>Gr P0 P1 P2 A A1 ns c l.length c1 ss l U (ds.out.below hU) hL en (Nat.le_trans eo (by unfold maxLen;omega)) (by omega) cp.out)
 have fo:=zh (λU (hU:Below w3.heap.size w3 U) (A1:Option Addr) (c1:Nat) (hL:ag ep 2 U A1 l.length l) (en:l.length<=c1) (eo:c1<=maxLen)=>yD P0 P1 P2 A A1 ns c l.length c1 ss l U (ds.out.below hU) hL en (Nat.le_trans eo (by unfold maxLen;omega)) (by omega) cp.out)
 have e6:=zh (λU (hU:Below w3.heap.size w3 U) (A1:Option Addr) (c1:Nat) (hL:ag ep 2 U A1 l.length l) (en:l.length<=c1) (eo:c1<=maxLen)=>uQ P0 P1 P2 A A1 ns c l.length c1 ss l U (ds.out.below hU) hL en (Nat.le_trans eo (by unfold maxLen;omega)) (by omega) cp.out)
 rw[q1,q2] at fb
 rw[q2] at fo e6
 rw[lc] at n3 b6
 obtain⟨va,l9⟩:∃ va:Nat,val P2 ss P0 P1=(va:Int):=⟨(val P2 ss P0 P1).toNat,by omega⟩
 obtain⟨wa,eB⟩:∃ wa:Nat,ir P0 P1 (aQ P2 ss P0 P1 l)=(wa:Int):=⟨(ir P0 P1 (aQ P2 ss P0 P1 l)).toNat,by omega⟩
 obtain⟨ct,hA⟩:∃ ct,mL ns (aQ P2 ss P0 P1 l)=ct:=⟨_,rfl⟩
 rw[l9] at n1 b6 e5 fb
 rw[eB] at n2 b6 fo
 rw[hA] at n3 b6 e6
 have pg:ct.length<=16:=by
  rw[← hA]
  unfold mL
  split
  ·rw[iB];omega
  simp
 have n1':va<4294967296:=by omega
 have n2':wa<4294967296:=by omega
 have N3:=zh n3
 have np:=zh b6
 have cl:=zh i3.out.1
 have hP:pb<w3.heap.size:=(Array.getElem?_eq_some_iff.1 cl.out).1
 have d6:=zh (λU (hU:Below w3.heap.size w3 U)=>(⟨(aT ((hU.block pb hP).trans cl.out) 0 rfl).1,(aT ((hU.block pb hP).trans cl.out) 1 rfl).1,(aT ((hU.block pb hP).trans cl.out) 2 rfl).1⟩:U.cell? ⟨pb,0,none⟩=some (.int .i64 (P0:Int))/\U.cell? ⟨pb,1,none⟩=some (.int .i64 (P1:Int))/\U.cell? ⟨pb,2,none⟩=some (.int .i64 (P2:Int))))
 obtain⟨d0,d1,d2⟩:=d6.out w3 (Below.refl _ _)
 clear n1 n2 n3 q1 q2 b6 hV lc hl l9 eB hA i3 Hz cp f7 cl
 go_wp2_with fail
 refine e5.out.mono ?_
 rintro e w4 ⟨v,rfl,k8,cx⟩
 obtain⟨Ac,cc,rfl,g1,g2,ho⟩:=dK k8
 have b7:=zh cx
 have ga:=zh (ag.of_own ho rfl)
 have jF:=zh (fb.out w4 cx Ac cc ga.out g1 g2)
 clear k8 ho cx d0 d1 d2 e5 fb
 obtain⟨d0,d1,d2⟩:=d6.out w4 b7.out
 go_wp2_with fail
 refine jF.out.mono ?_
 rintro e w5 ⟨rfl,a9⟩
 have bD:=zh (b7.out.trans (a9.mono b7.out.size))
 have gb:=zh (ga.out.below a9)
 have jT:=zh (fo.out w5 bD.out Ac cc gb.out g1 g2)
 clear a9 d0 d1 d2 jF fo ga
 obtain⟨d0,d1,d2⟩:=d6.out w5 bD.out
 go_wp2_with fail
 refine jT.out.mono ?_
 rintro e w6 ⟨rfl,he⟩
 have e4:=zh (bD.out.trans (he.mono bD.out.size))
 have iT:=zh (gb.out.below he)
 have j0:=zh (e6.out w6 e4.out Ac cc iT.out g1 g2)
 clear he d0 d1 d2 jT e6 gb
 obtain⟨d0,d1,d2⟩:=d6.out w6 e4.out
 go_wp2_with fail
 refine j0.out.mono ?_
 rintro e w7 ⟨ku,A',n',c',rfl,ox,-,-,k7⟩
 subst ox
 have h7:=zh (e4.out.trans (ku.mono e4.out.size))
 have ih:=zh (ag.of_own k7 rfl)
 have i9:=zh (dy va n1' w7)
 have l1:=Lib.itoa_length_le (va:Int) (by omega) (by omega)
 have l2:=Lib.itoa_length_le (wa:Int) (by omega) (by omega)
 have z1:¬ 9223372036854775807<6+(Lib.itoa (va:Int)).length:=by omega
 have z2:¬ 9223372036854775807<6+(Lib.itoa (va:Int)).length+7:=by omega
 have z3:¬ 9223372036854775807<6+(Lib.itoa (va:Int)).length+7+(Lib.itoa (wa:Int)).length:=by omega
 have z4:¬ 9223372036854775807<6+(Lib.itoa (va:Int)).length+7+(Lib.itoa (wa:Int)).length+1:=by omega
 clear ku k7 d0 d1 d2 j0 d6 iT
 go_wp2_with fail
 refine i9.out.mono ?_
 rintro e w8 ⟨rfl,hh⟩
 have h8:=zh (h7.out.trans (hh.mono h7.out.size))
 have ij:=zh (ih.out.below hh)
 have jf:=zh (dy wa n2' w8)
 clear hh i9 ih
 go_wp2_with fail
 refine jf.out.mono ?_
 rintro e w9 ⟨rfl,hm⟩
 have h9:=zh (h8.out.trans (hm.mono h8.out.size))
 have ad:=zh (ng ⟨#[99,111,117,110,116,115]⟩ A' ct.length c' ct w9 (ij.out.below hm) (by omega) (by decide) N3.out)
 clear hm jf ij
 go_wp2_with fail
 refine ad.out.mono ?_
 rintro e w10 ⟨z2,rfl,h4,kl⟩
 have y1:z2.size<=6+22*ct.length+1:=eH h4 N3.out
 have z5:¬ 9223372036854775807<6+(Lib.itoa (va:Int)).length+7+(Lib.itoa (wa:Int)).length+1+z2.size:=by omega
 have p1:(z.toList==(⟨#[118,97,108,117,101,32]⟩++⟨(Lib.itoa (va:Int)).toArray⟩++⟨#[32,119,97,115,116,101,32]⟩++⟨(Lib.itoa (wa:Int)).toArray⟩++⟨#[10]⟩++z2).toList)=true:=by
  refine AG ?_
  rw[np.out]
  simp only[bN,h4]
  simp[aS,ao,j9,kh,nG]
 have HE:=zh (HF.out w10 (h9.out.trans (kl.mono h9.out.size)))
 clear y1 h4 kl ad l1 l2
 go_wp2_with fail
 exact HE.out
end
end
section
section
open Go.RowKit Go.Shelf
theorem Gn{wc W:World}{F:Nat->Prop}{h:Nat}{jk qu:List (Int×Int)}{tk:List RT}{sh:List (Int×Int×Int×Bool)}(k:LP wc W F h jk qu tk sh){e f:TypeId} :
 ∃ G,Rw wc ((W.alloc (.cells #[] e)).alloc (.cells #[] f)) G h jk qu tk sh W.heap.size e 2 (some ⟨W.heap.size,0,none⟩) 0 0 []/\Ow ((W.alloc (.cells #[] e)).alloc (.cells #[] f)) G (W.heap.size+1) f 2 (some ⟨W.heap.size+1,0,none⟩) 0 0 []:=by
 obtain⟨G1,k1,-⟩:=Rw.fresh (e:=e) (sz:=2) k
 have hb:=ab (W.alloc (.cells #[] e)) (.cells #[] f)
 obtain⟨G2,k2,s2,n2⟩:=k1.lp.new hb
 have hs:(W.alloc (.cells #[] e)).heap.size=W.heap.size+1:=by simp
 have ho:=gW (W.alloc (.cells #[] e)) #[] f 2 0 (W.heap.size+1) (by simp) (by omega) (by decide)
 rw[hs] at ho
 refine⟨G2,⟨k2,ai k1.own hb,λg hg hG=>k1.far g hg (s2 g (k1.own.lt g hg).2 hG),k1.lo,Nat.le_trans k1.le hb.size⟩,ho,λg hg hG=>?_⟩
 cases hg
 exact n2 (W.heap.size+1) (by omega) (by simp) hG
theorem Ow.rowG{W:World}{F:Nat->Prop}{B e n c:Nat}{A:Option Addr}{l:List (Int×Int)}(o:Ow W F B e 2 A n c (l.flatMap ia))(hn:n=l.length):tE iV 2 W F A n l:=
 ⟨ag.of_own (enc:=iV) o.own hn,λa _ ha=>by subst ha;exact o.far _ rfl⟩
theorem Kv{l:List Int}(h:∀ a∈l,0<=a/\a<=7):dw (l.map Int.toNat)=l/\∀ n∈l.map Int.toNat,n<1000000:=by
 refine⟨?_,λn hn=>?_⟩
 ·unfold dw
  rw[List.map_map]
  conv=>rhs;rw[← List.map_id l]
  exact List.map_congr_left λa ha=>by have:=h a ha;simp only[Function.comp,id];omega
 obtain⟨a,ha,rfl⟩:=List.mem_map.1 hn
 have:=h a ha
 omega
theorem BR(w:World)(Aj Aq At As:Option Addr)(nj cj nq cq nt ct ns cs:Nat)(dl p0 p1 p2:Int)(z0 z1 z2 z3 z4 z5 z6:Int)(fa ta:Option Addr)(fn fc tn tc:Nat)(J Q:List (Int×Int))(T:List (Int×Int×Int×Option Addr×Nat×Nat))(X:List aj)(hJ:ag iV 2 w Aj nj J)(hQ:ag iV 2 w Aq nq Q)(hT:ag AE 4 w At nt T)(hX:ag aj.enc 4 w As ns X)
 (hj:nj<=cj/\cj<=9223372036854775807) (hq:nq<=cq/\cq<=9223372036854775807) (hs:ns<=cs/\cs<=9223372036854775807) (ht:nt<=9223372036854775807) (bg:Nat) (hg:Gl bg w) (hb:bg<=w.heap.size) :
 Calls Tryz.prog 3 #[.agg (jU (.slice Aj nj cj) (.slice Aq nq cq) (.slice At nt ct) dl (.slice As ns cs) p0 p1 p2 z0 z1 z2 z3 z4 z5 z6 fa ta fn fc tn tc)] w λe w'=>e=.returned (.bool true)/\Below w.heap.size w w':=by
 refine ae ?_
 intro R hR
 have HR:=zh hR.out
 obtain⟨w1,cL⟩:∃ w1,w.alloc (.cells (jU (.slice Aj nj cj) (.slice Aq nq cq) (.slice At nt ct) dl (.slice As ns cs) p0 p1 p2 z0 z1 z2 z3 z4 z5 z6 fa ta fn fc tn tc) 31)=w1:=⟨_,rfl⟩
 have cN:=heap_alloc_new w (.cells (jU (.slice Aj nj cj) (.slice Aq nq cq) (.slice At nt ct) dl (.slice As ns cs) p0 p1 p2 z0 z1 z2 z3 z4 z5 z6 fa ta fn fc tn tc) 31)
 have cr:=ab w (.cells (jU (.slice Aj nj cj) (.slice Aq nq cq) (.slice At nt ct) dl (.slice As ns cs) p0 p1 p2 z0 z1 z2 z3 z4 z5 z6 fa ta fn fc tn tc) 31)
 rw[cL] at cN cr
 have la:w1.rangeAt w.heap.size 0 [.slice Aj nj cj,.slice Aq nq cq,.slice At nt ct,.int .i64 dl,.slice As ns cs,.int .i64 p0,.int .i64 p1,.int .i64 p2,.int .i64 z0,.int .i64 z1,.int .i64 z2,.int .i64 z3,.int .i64 z4,.int .i64 z5,.int .i64 z6,.slice fa fn fc,.slice ta tn tc]:=World.rangeAt_of_block cN 0 17
 have bI:=zh (DK w1 Aj Aq At As nj cj nq cq nt ct ns cs dl p0 p1 p2 z0 z1 z2 z3 z4 z5 z6 fa ta fn fc tn tc T (hT.below cr) hj hq hs ht)
 have HJ:=zh hJ
 have HQ:=zh hQ
 have HX:=zh hX
 have HG:=zh hg
 have i5:=zh la
 have f4:=zh cr
 unfold jU at cL bI ⊢
 have g6:=zh cL
 obtain⟨mj,kN⟩:∃ m,min nj 6=m:=⟨_,rfl⟩
 obtain⟨mq,kP⟩:∃ m,min nq 8=m:=⟨_,rfl⟩
 obtain⟨ms,kS⟩:∃ m,min ns 4=m:=⟨_,rfl⟩
 have j2:=zh (show mj<=6/\mj<=nj by omega)
 have j3:=zh (show mq<=8/\mq<=nq by omega)
 have j4:=zh (show ms<=4/\ms<=ns by omega)
 have ov:mj<=6:=by omega
 have o5:mq<=8:=by omega
 unfold Kn at bI
 rw[kN,kP,kS] at bI
 unfold jU at bI
 clear hR cN cr la cL hJ hQ hT hX hg kN kP kS
 go_enter Tryz.func3,Tryz.ntmps3
 go_upto_region 1 with fail
 rw[g6.out]
 refine wp_region_list ?_
 refine wpList_load_mid rfl 31 (.tmp 1) rfl w.heap.size 0 rfl [.slice Aj nj cj,.slice Aq nq cq,.slice At nt ct,.int .i64 dl,.slice As ns cs,.int .i64 p0,.int .i64 p1,.int .i64 p2,.int .i64 z0,.int .i64 z1,.int .i64 z2,.int .i64 z3,.int .i64 z4,.int .i64 z5,.int .i64 z6,.slice fa fn fc,.slice ta tn tc] _ i5.out Tryz.underlying31 rfl (by kernel_rfl) ?_
 go_wp2_with fail
 refine bI.out.mono ?_
 rintro e w2 ⟨A,n,c,L,dn,q0,q1,q2,rfl,oL,hO,oj,h0,h1,h2,cV⟩
 obtain⟨dn,rfl⟩:∃ k:Nat,dn=(k:Int):=⟨dn.toNat,by omega⟩
 obtain⟨q0,rfl⟩:∃ k:Nat,q0=(k:Int):=⟨q0.toNat,by omega⟩
 obtain⟨q1,rfl⟩:∃ k:Nat,q1=(k:Int):=⟨q1.toNat,by omega⟩
 obtain⟨q2,rfl⟩:∃ k:Nat,q2=(k:Int):=⟨q2.toNat,by omega⟩
 have eI:=heap_alloc_new w2 (.cells #[.slice Aj mj cj,.slice Aq mq cq,.slice A n c,.int .i64 (dn:Int),.slice As ms cs,.int .i64 (q0:Int),.int .i64 (q1:Int),.int .i64 (q2:Int),.int .i64 z0,.int .i64 z1,.int .i64 z2,.int .i64 z3,.int .i64 z4,.int .i64 z5,.int .i64 z6,.slice fa fn fc,.slice ta tn tc] 31)
 have fu:=ab w2 (.cells #[.slice Aj mj cj,.slice Aq mq cq,.slice A n c,.int .i64 (dn:Int),.slice As ms cs,.int .i64 (q0:Int),.int .i64 (q1:Int),.int .i64 (q2:Int),.int .i64 z0,.int .i64 z1,.int .i64 z2,.int .i64 z3,.int .i64 z4,.int .i64 z5,.int .i64 z6,.slice fa fn fc,.slice ta tn tc] 31)
 obtain⟨w3,hZ⟩:∃ w3,w2.alloc (.cells #[.slice Aj mj cj,.slice Aq mq cq,.slice A n c,.int .i64 (dn:Int),.slice As ms cs,.int .i64 (q0:Int),.int .i64 (q1:Int),.int .i64 (q2:Int),.int .i64 z0,.int .i64 z1,.int .i64 z2,.int .i64 z3,.int .i64 z4,.int .i64 z5,.int .i64 z6,.slice fa fn fc,.slice ta tn tc] 31)=w3:=⟨_,rfl⟩
 obtain⟨ob,hF⟩:∃ b,w2.heap.size=b:=⟨_,rfl⟩
 rw[hZ] at eI fu
 have HT:=zh ((show fQ w2 A n L from ⟨ag.of_own hO.own hO.len,λx hx=>(hO.af x hx).sl⟩).below fu)
 have jj:=zh hO.ok
 have bw:=zh (f4.out.trans ((cV.trans (fu.mono cV.size)).mono f4.out.size))
 rw[hF] at eI
 have cl:=zh eI
 have o4:ob<w3.heap.size:=(Array.getElem?_eq_some_iff.1 eI).1
 have nb:=zh hZ
 have m5:=zh hF
 have cA:=Nat.le_trans hb bw.out.size
 have cS:=zh (HG.out.on (bw.out.mono hb))
 have oq:dn<=31:=by omega
 have nu:1<=q0/\q0<=16:=by omega
 have nP:1<=q1/\q1<=16:=by omega
 have n4:q2<=3:=by omega
 obtain⟨F,g7⟩:∃ F:Nat->Prop,(λj=>w3.heap.size<=j)=F:=⟨_,rfl⟩
 have HU:=zh (show Up w3 F by rw[← g7];exact λb hb=>hb)
 have im:=zh (show ∀ j,F j->w3.heap.size<=j from λj hj=>by rw[← g7] at hj;exact hj)
 have i2:=zh (Fm w3 F HU.out)
 clear hO eI fu cV hZ hF g7 oj h0 h1 h2 bI i5 HG f4
 go_upto_region 2 with fail
 rw[nb.out,m5.out]
 go_wp2_with fail
 refine i2.out.mono ?_
 rintro e w4 ⟨h,ot,rfl,kk,cx⟩
 have i8:=zh kk
 have b7:=zh cx
 have iv:=zh (sB w4 bg (cS.out.on (cx.mono cA)) (Nat.le_trans cA cx.size))
 clear i2 kk cx
 go_upto_region 5 with (go_at_call 6;(with_reducible refine iv.out.mono ?_);rintro e w5 ⟨rfl,a9⟩;have bD:=zh a9;clear a9)
 have kw:LP w3 w5 F h [] [] [] []:=⟨b7.out.trans (bD.out.mono b7.out.size),(HU.out.below b7.out).below bD.out,im.out,i8.out.below bD.out⟩
 obtain⟨G7,f1,hE⟩:=Gn kw (e:=37) (f:=41)
 obtain⟨w7,h3⟩:∃ w7,(w5.alloc (.cells #[] 37)).alloc (.cells #[] 41)=w7:=⟨_,rfl⟩
 obtain⟨B,hB⟩:∃ B,w5.heap.size=B:=⟨_,rfl⟩
 rw[h3,hB] at f1 hE
 have gT:=zh f1
 have gk:=zh hE
 have nf:=zh h3
 have f5:=zh hB
 have bS:=zh (λW (hW:Below w3.heap.size w3 W)=>(hW.block ob o4).trans cl.out)
 have u0:=(aT (bS.out w7 f1.lp.low) 0 (v:=.slice Aj mj cj) rfl).1
 clear kw f1 hE h3 hB i8 b7 bD iv HU im ot cl
 go_upto_region 6 with fail
 rw[nf.out,f5.out]
 go_upto_block 0 with fail
 go_cut [5] (λs5 wx=>∃ Ai ci l G,s5=.slice Ai mj ci/\Hid (l.length=mj)/\Hid (Rw w3 wx G h l [] [] [] B 37 2 Ai mj ci (l.flatMap ia))/\Hid (Ow wx G (B+1) 41 2 (some ⟨B+1,0,none⟩) 0 0 []))
 case first =>
  go_wp2_with fail
  go_loopw [5,27] (λs5 s27 wr=>∃ (i:Nat) (Ai:Option Addr) (ci:Nat) (l:List (Int×Int)) (G:Nat->Prop),s5=.slice Ai i ci/\s27=.int .i64 (i:Nat)/\i<=mj/\Hid (l.length=i)/\Hid (Rw w3 wr G h l [] [] [] B 37 2 Ai i ci (l.flatMap ia))/\Hid (Ow wr G (B+1) 41 2 (some ⟨B+1,0,none⟩) 0 0 [])) (λ_ s27 _=>mj-(intOf s27).toNat)
  case atStart=>exact⟨0,some ⟨B,0,none⟩,0,[],G7,rfl,rfl,Nat.zero_le _,zh rfl,gT,gk⟩
  clear gT gk
  obtain⟨i,Ai,ci,l,G,rfl,rfl,hi,cT,HK,HO⟩:=hrel
  by_cases bi:i<mj
  ·
   have i1:(i:Int)<(mj:Int):=by omega
   have i0:(0:Int)<=(i:Int):=by omega
   have hM:=j2.out
   obtain⟨b,o,sx,sy,rfl,hr,-,c0,c1⟩:=(HJ.out.below (bw.out.trans (HK.out.lp.low.mono bw.out.size))).atM2 (show i<nj by omega)
   obtain⟨m0,bq⟩:∃ a,bits .and .i64 sx 1023=a:=⟨_,rfl⟩
   obtain⟨m1,bt⟩:∃ a,bits .and .i64 sy 1023=a:=⟨_,rfl⟩
   have e0:=eb sx 1023 (by decide)
   have e1:=eb sy 1023 (by decide)
   rw[show ((1023:Nat):Int)=1023 from rfl] at e0 e1
   rw[bq] at e0
   rw[bt] at e1
   obtain⟨n0,rfl,eu⟩:∃ n:Nat,m0=(n:Int)/\n<=1023:=⟨m0.toNat,by omega,by omega⟩
   obtain⟨n1,rfl,ev⟩:∃ n:Nat,m1=(n:Int)/\n<=1023:=⟨m1.toNat,by omega,by omega⟩
   have ec:=zh bq
   have eg:=zh bt
   clear bq bt e0 e1 hM
   go_upto_region 9 with fail
   go_cut [8] (λs8 wx=>s8=.pointer (some ⟨wr.heap.size,0,none⟩)/\Hid (wx.heap[wr.heap.size]?=some (.cells #[.int .i64 (n0:Int),.int .i64 (n1:Int)] 37 (0,0)))/\Hid (Below wr.heap.size wr wx))
   case first =>
    go_wp2_with fail
    go_meet
    simp only[ec.out,eg.out]
    exact⟨trivial,zh (heap_alloc_new wr _),zh (ab wr _)⟩
   rename World=>wa
   obtain⟨rfl,am,aF⟩:=hcut
   clear c0 c1
   have d0:=(aT am.out 0 (v:=.int .i64 (n0:Int)) rfl).1
   have d1:=(aT am.out 1 (v:=.int .i64 (n1:Int)) rfl).1
   have bm:=(Array.getElem?_eq_some_iff.1 am.out).1
   have bk:=aF.out.trans ((ab wa (.cells #[.int .i64 (n0:Int),.int .i64 (n1:Int)] 37)).mono aF.out.size)
   have bj:=zh (((ab wa (.cells #[.int .i64 (n0:Int),.int .i64 (n1:Int)] 37)).block _ bm).trans am.out)
   have bf:=zh (ai HK.out.own bk)
   have ei:B<=wa.heap.size:=Nat.le_trans HK.out.le aF.out.size
   have b8:=zh bk
   clear bk
   go_upto_region 10 with fail
   go_cut [5] (λs5 wy=>∃ (A':Option Addr) (c':Nat) (G':Nat->Prop),s5=.slice A' (i+1) c'/\Hid (Rw w3 wy G' h l [] [] [] B 37 2 A' (i+1) c' ((l++[((n0:Int),(n1:Int))]).flatMap ia))/\Hid (Ow wy G' (B+1) 41 2 (some ⟨B+1,0,none⟩) 0 0 [])/\Hid (wy.heap[wr.heap.size]?=some (.cells #[.int .i64 (n0:Int),.int .i64 (n1:Int)] 37 (0,0))))
   case first =>
    go_wp2_with (at_builtin;refine ax rfl (.tmp 38) (.tmp 40) _ rfl uT B _ _ _ rfl bf.out _ _ _ _ rfl (Sl.new wa _ _ 2 1 rfl) (by simp[Value.oneCell']) (by unfold maxLen;omega) (by omega) (by simp;omega) ?_;intro A' c' w2 bc bp c4)
    have es:(l++[((n0:Int),(n1:Int))]).flatMap ia=l.flatMap ia++[.int .i64 (n0:Int),.int .i64 (n1:Int)]:=by rw[List.flatMap_append];rfl
    obtain⟨G',g1,g2,-,g4⟩:=HK.out.push b8.out bp bc c4
    rw[← es] at g1
    have hd:=(bp.block _ (Array.getElem?_eq_some_iff.1 bj.out).1 (λe=>by have:=(HK.out.own.lt _ e.symm).2;omega)).trans bj.out
    go_meet
    exact⟨A',c',G',rfl,zh g1,zh (HO.out.kt g4 (by decide) g2),zh hd⟩
   rename World=>wd
   obtain⟨A',c',G',rfl,b9,dk,cn⟩:=hcut
   clear d0 d1 bf bj ei am b8 HO
   have d0:=(aT cn.out 0 (v:=.int .i64 (n0:Int)) rfl).1
   have d1:=(aT cn.out 1 (v:=.int .i64 (n1:Int)) rfl).1
   have ej:=ab wd (.cells #[.int .i64 (n0:Int),.int .i64 (n1:Int)] 3)
   have bv:∀ x∈[(n0:Int),(n1:Int)],0<=x/\x<4294967296:=λx hx=>by simp only[List.mem_cons,List.not_mem_nil,or_false] at hx;omega
   have ad:=zh (ng ⟨#[106,97,99,107]⟩ (some ⟨wd.heap.size,0,none⟩) 2 2 [(n0:Int),(n1:Int)] (wd.alloc (.cells #[.int .i64 (n0:Int),.int .i64 (n1:Int)] 3)) (ry _ _ rfl) (by omega) (by decide) bv)
   have cO:=zh ej
   clear ej
   go_wp2_with fail
   refine ad.out.mono ?_
   rintro e we ⟨z,rfl,hz,cC⟩
   have a0:=cO.out.trans (cC.mono cO.out.size)
   have e3:z.size<=1000:=Nat.le_trans (eH hz bv) (Nat.le_of_ble_eq_true rfl)
   have hM:=j2.out
   have bE:=zh ((b9.out.lp.below a0).jack cS.out cA (tL (nm:=Bm) (ns:=[n0,n1]) hz (by decide)) (by omega) ⟨by omega,by omega⟩ (by rw[cT.out];omega))
   have f9:=zh (b9.out.below a0)
   have gI:=zh (dk.out.below a0)
   clear d0 d1 bv hz cC a0 e3 hM ad cO
   go_wp2_with fail
   refine bE.out.mono ?_
   rintro e wf ⟨z',rfl,-,cI,bu⟩
   have d4:=zh (f9.out.line cI bu)
   have gs:=zh (gI.out.kx bu)
   have d5:=zh (show (l++[((n0:Int),(n1:Int))]).length=i+1 by rw[List.length_append,cT.out];rfl)
   clear cI bu bE
   go_wp2_with fail
   exact⟨⟨i+1,A',c',_,G',rfl,by go_num,bi,d5,d4,gs⟩,by simp[intOf];omega⟩
  obtain rfl:i=mj:=by omega
  have i1:¬ (i:Int)<(i:Int):=by omega
  go_wp2_with fail
  go_meet
  exact⟨Ai,ci,l,G,rfl,cT,HK,HO⟩
 rename World=>w8
 obtain⟨Ai0,ci0,jk,G8,rfl,mc,dq,e7⟩:=hcut
 clear gT gk u0
 have j5:B+1<=w8.heap.size:=Nat.le_of_lt (e7.out.own.lt (B+1) rfl).2
 have g0:=zh (show Rw w3 w8 G8 h jk [] [] [] (B+1) 41 2 (some ⟨B+1,0,none⟩) 0 0 [] from ⟨dq.out.lp,e7.out.own,e7.out.far,Nat.le_trans dq.out.lo (by omega),j5⟩)
 have gw:=zh (show Ow w8 G8 B 37 2 Ai0 mj ci0 (jk.flatMap ia) from ⟨dq.out.own,dq.out.far⟩)
 have u1:=(aT (bS.out w8 dq.out.lp.low) 1 (v:=.slice Aq mq cq) rfl).1
 clear dq e7 j5
 go_upto_block 2 with fail
 go_cut [6] (λs6 wx=>∃ Ai ci l G,s6=.slice Ai mq ci/\Hid (l.length=mq)/\Hid (Rw w3 wx G h jk l [] [] (B+1) 41 2 Ai mq ci (l.flatMap ia))/\Hid (Ow wx G B 37 2 Ai0 mj ci0 (jk.flatMap ia)))
 case first =>
  go_wp2_with fail
  go_loopw [6,54] (λs6 s54 wr=>∃ (i:Nat) (Ai:Option Addr) (ci:Nat) (l:List (Int×Int)) (G:Nat->Prop),s6=.slice Ai i ci/\s54=.int .i64 (i:Nat)/\i<=mq/\Hid (l.length=i)/\Hid (Rw w3 wr G h jk l [] [] (B+1) 41 2 Ai i ci (l.flatMap ia))/\Hid (Ow wr G B 37 2 Ai0 mj ci0 (jk.flatMap ia))) (λ_ s54 _=>mq-(intOf s54).toNat)
  case atStart=>exact⟨0,some ⟨B+1,0,none⟩,0,[],G8,rfl,rfl,Nat.zero_le _,zh rfl,g0,gw⟩
  clear g0 gw
  obtain⟨i,Ai,ci,l,G,rfl,rfl,hi,cT,HK,HO⟩:=hrel
  by_cases bi:i<mq
  ·
   have i1:(i:Int)<(mq:Int):=by omega
   have i0:(0:Int)<=(i:Int):=by omega
   have hM:=j3.out
   obtain⟨b,o,sx,sy,rfl,hr,-,c0,c1⟩:=(HQ.out.below (bw.out.trans (HK.out.lp.low.mono bw.out.size))).atM2 (show i<nq by omega)
   obtain⟨m0,bq⟩:∃ a,bits .and .i64 sx 1023=a:=⟨_,rfl⟩
   obtain⟨m1,bt⟩:∃ a,bits .and .i64 sy 1023=a:=⟨_,rfl⟩
   have e0:=eb sx 1023 (by decide)
   have e1:=eb sy 1023 (by decide)
   rw[show ((1023:Nat):Int)=1023 from rfl] at e0 e1
   rw[bq] at e0
   rw[bt] at e1
   obtain⟨n0,rfl,eu⟩:∃ n:Nat,m0=(n:Int)/\n<=1023:=⟨m0.toNat,by omega,by omega⟩
   obtain⟨n1,rfl,ev⟩:∃ n:Nat,m1=(n:Int)/\n<=1023:=⟨m1.toNat,by omega,by omega⟩
   have ec:=zh bq
   have eg:=zh bt
   clear bq bt e0 e1 hM
   go_upto_region 16 with fail
   go_cut [10] (λs10 wx=>s10=.pointer (some ⟨wr.heap.size,0,none⟩)/\Hid (wx.heap[wr.heap.size]?=some (.cells #[.int .i64 (n0:Int),.int .i64 (n1:Int)] 41 (0,0)))/\Hid (Below wr.heap.size wr wx))
   case first =>
    go_wp2_with fail
    go_meet
    simp only[ec.out,eg.out]
    exact⟨trivial,zh (heap_alloc_new wr _),zh (ab wr _)⟩
   rename World=>wa
   obtain⟨rfl,am,aF⟩:=hcut
   clear c0 c1
   have d0:=(aT am.out 0 (v:=.int .i64 (n0:Int)) rfl).1
   have d1:=(aT am.out 1 (v:=.int .i64 (n1:Int)) rfl).1
   have bm:=(Array.getElem?_eq_some_iff.1 am.out).1
   have bk:=aF.out.trans ((ab wa (.cells #[.int .i64 (n0:Int),.int .i64 (n1:Int)] 41)).mono aF.out.size)
   have bj:=zh (((ab wa (.cells #[.int .i64 (n0:Int),.int .i64 (n1:Int)] 41)).block _ bm).trans am.out)
   have bf:=zh (ai HK.out.own bk)
   have ei:(B+1)<=wa.heap.size:=Nat.le_trans HK.out.le aF.out.size
   have b8:=zh bk
   clear bk
   go_upto_region 17 with fail
   go_cut [6] (λs6 wy=>∃ (A':Option Addr) (c':Nat) (G':Nat->Prop),s6=.slice A' (i+1) c'/\Hid (Rw w3 wy G' h jk l [] [] (B+1) 41 2 A' (i+1) c' ((l++[((n0:Int),(n1:Int))]).flatMap ia))/\Hid (Ow wy G' B 37 2 Ai0 mj ci0 (jk.flatMap ia))/\Hid (wy.heap[wr.heap.size]?=some (.cells #[.int .i64 (n0:Int),.int .i64 (n1:Int)] 41 (0,0))))
   case first =>
    go_wp2_with (at_builtin;refine ax rfl (.tmp 65) (.tmp 67) _ rfl se (B+1) _ _ _ rfl bf.out _ _ _ _ rfl (Sl.new wa _ _ 2 1 rfl) (by simp[Value.oneCell']) (by unfold maxLen;omega) (by omega) (by simp;omega) ?_;intro A' c' w2 bc bp c4)
    have es:(l++[((n0:Int),(n1:Int))]).flatMap ia=l.flatMap ia++[.int .i64 (n0:Int),.int .i64 (n1:Int)]:=by rw[List.flatMap_append];rfl
    obtain⟨G',g1,g2,-,g4⟩:=HK.out.push b8.out bp bc c4
    rw[← es] at g1
    have hd:=(bp.block _ (Array.getElem?_eq_some_iff.1 bj.out).1 (λe=>by have:=(HK.out.own.lt _ e.symm).2;omega)).trans bj.out
    go_meet
    exact⟨A',c',G',rfl,zh g1,zh (HO.out.kt g4 (by decide) g2),zh hd⟩
   rename World=>wd
   obtain⟨A',c',G',rfl,b9,dk,cn⟩:=hcut
   clear d0 d1 bf bj ei am b8 HO
   have d0:=(aT cn.out 0 (v:=.int .i64 (n0:Int)) rfl).1
   have d1:=(aT cn.out 1 (v:=.int .i64 (n1:Int)) rfl).1
   have ej:=ab wd (.cells #[.int .i64 (n0:Int),.int .i64 (n1:Int)] 3)
   have bv:∀ x∈[(n0:Int),(n1:Int)],0<=x/\x<4294967296:=λx hx=>by simp only[List.mem_cons,List.not_mem_nil,or_false] at hx;omega
   have ad:=zh (ng ⟨#[113,117,105,108,108]⟩ (some ⟨wd.heap.size,0,none⟩) 2 2 [(n0:Int),(n1:Int)] (wd.alloc (.cells #[.int .i64 (n0:Int),.int .i64 (n1:Int)] 3)) (ry _ _ rfl) (by omega) (by decide) bv)
   have cO:=zh ej
   clear ej
   go_wp2_with fail
   refine ad.out.mono ?_
   rintro e we ⟨z,rfl,hz,cC⟩
   have a0:=cO.out.trans (cC.mono cO.out.size)
   have e3:z.size<=1000:=Nat.le_trans (eH hz bv) (Nat.le_of_ble_eq_true rfl)
   have hM:=j3.out
   have bE:=zh ((b9.out.lp.below a0).quill cS.out cA (tL (nm:=x8) (ns:=[n0,n1]) hz (by decide)) (by omega) ⟨by omega,by omega⟩ (by rw[cT.out];omega))
   have f9:=zh (b9.out.below a0)
   have gI:=zh (dk.out.below a0)
   clear d0 d1 bv hz cC a0 e3 hM ad cO
   go_wp2_with fail
   refine bE.out.mono ?_
   rintro e wf ⟨z',rfl,-,cI,bu⟩
   have d4:=zh (f9.out.line cI bu)
   have gs:=zh (gI.out.kx bu)
   have d5:=zh (show (l++[((n0:Int),(n1:Int))]).length=i+1 by rw[List.length_append,cT.out];rfl)
   clear cI bu bE
   go_wp2_with fail
   exact⟨⟨i+1,A',c',_,G',rfl,by go_num,bi,d5,d4,gs⟩,by simp[intOf];omega⟩
  obtain rfl:i=mq:=by omega
  have i1:¬ (i:Int)<(i:Int):=by omega
  go_wp2_with fail
  go_meet
  exact⟨Ai,ci,l,G,rfl,cT,HK,HO⟩
 rename World=>w9
 obtain⟨Ak,ck,qu,G9,rfl,mo,d7,go⟩:=hcut
 clear g0 gw u1
 have u2:=(aT (bS.out w9 d7.out.lp.low) 2 (v:=.slice A n c) rfl).1
 have k0:=HT.out.len
 have m4:=zh k0
 have gC:=zh (show Ow w9 G9 (B+1) 41 2 Ak mq ck (qu.flatMap ia) from ⟨d7.out.own,d7.out.far⟩)
 have gg:=zh d7.out.lp
 clear d7 k0
 go_upto_block 4 with fail
 go_cut [] (λwx=>Hid (LP w3 wx G9 h jk qu (L.map (·.1)) [])/\Hid (Ow wx G9 B 37 2 Ai0 mj ci0 (jk.flatMap ia))/\Hid (Ow wx G9 (B+1) 41 2 Ak mq ck (qu.flatMap ia)))
 case first =>
  go_wp2_with fail
  go_loopw [81] (λs81 wr=>∃ i:Nat,s81=.int .i64 (i:Nat)/\i<=n/\Hid (LP w3 wr G9 h jk qu ((L.take i).map (·.1)) [])/\Hid (Ow wr G9 B 37 2 Ai0 mj ci0 (jk.flatMap ia))/\Hid (Ow wr G9 (B+1) 41 2 Ak mq ck (qu.flatMap ia))) (λs81 _=>n-(intOf s81).toNat)
  case atStart=>exact⟨0,rfl,Nat.zero_le _,gg,go,gC⟩
  clear gg go gC
  obtain⟨i,rfl,hi,HK,ca,cd⟩:=hrel
  by_cases bi:i<n
  ·
   have i1:(i:Int)<(n:Int):=by omega
   have i0:(0:Int)<=(i:Int):=by omega
   obtain⟨b,o,y,rfl,hr,hy,⟨c0,c1,c2,c3⟩,-⟩:=(HT.out.below HK.out.low).nx bi
   have hH:=jj.out y (List.mem_of_getElem? hy)
   have hc:=(HT.out.below HK.out.low).af y (List.mem_of_getElem? hy)
   obtain⟨⟨N,C,Rr,Al⟩,Af,cf⟩:=y
   obtain⟨t0,t1,t2,t3,t4⟩:=hH
   dsimp only at c0 c1 c2 c3 t0 t1 t2 t3 t4 hc
   obtain⟨n0,rfl⟩:∃ k:Nat,N=(k:Int):=⟨N.toNat,by omega⟩
   obtain⟨n1,rfl⟩:∃ k:Nat,C=(k:Int):=⟨C.toNat,by omega⟩
   obtain⟨n2,rfl⟩:∃ k:Nat,Rr=(k:Int):=⟨Rr.toNat,by omega⟩
   obtain⟨a1,a2⟩:=Kv t4
   have hl:dw (n0 :: n1 :: n2 :: Al.map Int.toNat)=(n0:Int) :: (n1:Int) :: (n2:Int) :: Al:=by
    rw[← a1]
    simp[dw]
   have bv:∀ x∈(n0:Int) :: (n1:Int) :: (n2:Int) :: Al,0<=x/\x<4294967296:=λx hx=>by
    simp only[List.mem_cons] at hx
    rcases hx with rfl|rfl|rfl|hx
    ·omega
    ·omega
    ·omega
    have:=t4 x hx;omega
   have lf:(L.take (i+1)).map (·.1)=(L.take i).map (·.1)++[⟨(n0:Int),(n1:Int),(n2:Int),dw (Al.map Int.toNat)⟩]:=by
    rw[List.take_add_one,hy,List.map_append,a1]
    rfl
   have m7:=zh lf
   have Hl:=zh hl
   have j1:=zh bv
   have h5:=zh hc
   have Hy:=zh hy
   have mr:=zh a2
   have v0:n0<=7:=by omega
   have v1:n1<=7:=by omega
   have v2:n2<=63:=by omega
   clear lf hl bv hc hy a1 a2 t0 t1 t2 t4
   go_upto_region 23 with fail
   have f2:=heap_alloc_new wr (.cells #[.int .i64 (n0:Int),.int .i64 (n1:Int),.int .i64 (n2:Int),.slice Af Al.length cf] 43)
   have a9:=ab wr (.cells #[.int .i64 (n0:Int),.int .i64 (n1:Int),.int .i64 (n2:Int),.slice Af Al.length cf] 43)
   obtain⟨wa,eB⟩:∃ wa,wr.alloc (.cells #[.int .i64 (n0:Int),.int .i64 (n1:Int),.int .i64 (n2:Int),.slice Af Al.length cf] 43)=wa:=⟨_,rfl⟩
   rw[eB] at f2 a9 ⊢
   obtain⟨d0,d1,d2,d3,-⟩:=an f2
   have bm:=(Array.getElem?_eq_some_iff.1 f2).1
   have d3':=((ab wa (.cells #[.int .i64 (n0:Int),.int .i64 (n1:Int),.int .i64 (n2:Int)] 3)).cell (p:=⟨wr.heap.size,3,none⟩) bm).trans d3
   have h6:=zh ((h5.out.below a9).below (ab wa (.cells #[.int .i64 (n0:Int),.int .i64 (n1:Int),.int .i64 (n2:Int)] 3)))
   have bf:=zh (gW wa #[.int .i64 (n0:Int),.int .i64 (n1:Int),.int .i64 (n2:Int)] 3 1 3 wa.heap.size (by simp) (Nat.le_refl _) (by decide))
   have aF:=zh (a9.trans ((ab wa (.cells #[.int .i64 (n0:Int),.int .i64 (n1:Int),.int .i64 (n2:Int)] 3)).mono a9.size))
   have o6:=a9.size
   clear eB f2 a9 c0 c1 c2 c3
   go_wp2_with (at_builtin;refine ax rfl (.tmp 92) (.tmp 94) _ rfl EI wa.heap.size _ _ _ rfl bf.out _ _ _ _ rfl h6.out.2 (lH _) (by unfold maxLen;omega) (by omega) (by simp) ?_;intro A' c' w2 bc bp c4;have dk:=zh bc;have iq:=zh bp;clear bc bp c4)
   have cV:=aL aF.out bf.out o6 aF.out.size iq.out
   have ad:=ng ⟨#[116,97,115,107]⟩ A' (3+Al.length) c' ((n0:Int) :: (n1:Int) :: (n2:Int) :: Al) w2 (ag.of_own (enc:=ak) dk.out (by simp only[List.length_cons];omega)) (by omega) (by decide) j1.out
   refine ad.mono ?_
   rintro e we ⟨z,rfl,hz,cC⟩
   have a0:=cV.trans (cC.mono cV.size)
   have e3:z.size<=1000:=Nat.le_trans (eH hz j1.out) (by simp only[List.length_cons];show 4+_+1<=_;omega)
   have bE:=zh ((HK.out.below a0).task cS.out cA (tL (nm:=B8) (ns:=n0 :: n1 :: n2 :: Al.map Int.toNat) (by rw[Hl.out];exact hz) (by decide)) (by omega) ⟨by omega,by omega,by omega⟩ mr.out (by rw[List.length_map];omega) (by rw[List.length_map,List.length_take];omega))
   rw[← m7.out] at bE
   have mf:=zh (ca.out.below a0)
   have ml:=zh (cd.out.below a0)
   clear d0 d1 d2 d3 d3' hz cC a0 e3 cV ad ca cd HK iq dk bf aF h6 h5
   go_wp2_with fail
   refine bE.out.mono ?_
   rintro e wf ⟨z',rfl,-,cI,bu⟩
   have d4:=zh cI
   have ca:=zh (mf.out.kx bu)
   have cd:=zh (ml.out.kx bu)
   clear cI bu bE
   go_wp2_with fail
   exact⟨⟨i+1,by go_num,bi,d4,ca,cd⟩,by simp[intOf];omega⟩
  obtain rfl:i=n:=by omega
  have i1:¬ (i:Int)<(i:Int):=by omega
  have ka:L.take i=L:=by rw[m4.out,List.take_length]
  rw[ka] at HK
  clear ka
  go_wp2_with fail
  go_meet
  exact⟨HK,ca,cd⟩
 rename World=>w10
 obtain⟨iF,ca,cd⟩:=hcut
 clear gg go gC u2
 have js:=zh (B9 w3 w10 G9 h jk qu (L.map (·.1)) [] iF.out bg cS.out cA Ai0 Ak mj ci0 mq ck (ca.out.rowG mc.out.symm) (cd.out.rowG mo.out.symm) ov o5)
 have i4:=zh (λW hk=>zb w3 W G9 h jk qu (L.map (·.1)) [] hk bg cS.out cA A n c L HT.out rfl oL (λx hx=>Nat.le_trans (jj.out x hx).2.2.2.1 (by decide)) dn oq)
 have i7:=zh (λW hk=>Ga w3 W G9 h jk qu (L.map (·.1)) hk bg cS.out cA As ms cs X ns (HX.out.below bw.out) j4.out.1 j4.out.2 q0 q1 q2 nu nP n4)
 clear ca cd
 go_wp2_with fail
 refine js.out.mono ?_
 rintro e w11 ⟨rfl,fz,-⟩
 have u2:=(aT (bS.out w11 fz.low) 2 (v:=.slice A n c) rfl).1
 have u3:=(aT (bS.out w11 fz.low) 3 (v:=.int .i64 (dn:Int)) rfl).1
 have e8:=zh (i4.out w11 fz)
 clear fz js i4 iF
 go_wp2_with fail
 refine e8.out.mono ?_
 rintro e w12 ⟨rfl,dz,-⟩
 have u4:=(aT (bS.out w12 dz.low) 4 (v:=.slice As ms cs) rfl).1
 have u5:=(aT (bS.out w12 dz.low) 5 (v:=.int .i64 (q0:Int)) rfl).1
 have u6:=(aT (bS.out w12 dz.low) 6 (v:=.int .i64 (q1:Int)) rfl).1
 have u7:=(aT (bS.out w12 dz.low) 7 (v:=.int .i64 (q2:Int)) rfl).1
 have i6:=zh (i7.out w12 dz)
 clear dz u2 u3 e8 i7
 go_wp2_with fail
 refine i6.out.mono ?_
 rintro e w13 ⟨rfl,ks⟩
 have HE:=zh (HR.out (.returned (.bool true)) w13 ⟨rfl,bw.out.trans (ks.mono bw.out.size)⟩)
 clear ks u4 u5 u6 u7 i6
 go_wp2_with fail
 exact HE.out
end
end
end Go.Proofs.YtgbnicokglpdbaaGreatDoor
