/-
short; conditions: those of each theorem.
-/
import Derived.Test.YtgbnicokglpdbaaGreatDoorBj
namespace Go.Proofs.YtgbnicokglpdbaaGreatDoor
set_option maxHeartbeats 8000000
set_option maxRecDepth 16000
section
open Go.RowKit Go.Shelf
theorem eb(x:Int)(m:Nat)(hm:m<=262143):0<=bits .and .i64 x (m:Int)/\bits .and .i64 x (m:Int)<=(m:Int):=by
 have e:bits .and .i64 x (m:Int)=IntKind.i64.wrap ((BitVec.ofInt 64 x &&& BitVec.ofInt 64 (m:Int)).toNat:Int):=rfl
 have h1:(BitVec.ofInt 64 x &&& BitVec.ofInt 64 (m:Int)).toNat<=m:=by
  rw[BitVec.toNat_and]
  refine Nat.le_trans Nat.and_le_right ?_
  rw[BitVec.toNat_ofInt]
  omega
 rw[e,IntWalk.i64_in _ (by omega)]
 omega
theorem lE{a b:Int}(h:a=b)(h1 : -1000000000<=b)(h2:b<=1000000000):wrap64 a=b:=by subst h;unfold wrap64;omega
def AE(x:Int×Int×Int×Option Addr×Nat×Nat):List Value:=[.int .i64 x.1,.int .i64 x.2.1,.int .i64 x.2.2.1,.slice x.2.2.2.1 x.2.2.2.2.1 x.2.2.2.2.2]
theorem AF(x:Int×Int×Int×Option Addr×Nat×Nat):(AE x).length=4:=rfl
theorem ag.atV{w:World}{A:Option Addr}{n k:Nat}{l:List (Int×Int×Int×Option Addr×Nat×Nat)}(h:ag AE 4 w A n l)(hk:k<n) :
 ∃ b o x y z a m d,A=some ⟨b,o,none⟩/\b<w.heap.size/\w.cell? ⟨b,o+k*4,none⟩=some (.int .i64 x)/\w.cell? ⟨b,o+k*4+1,none⟩=some (.int .i64 y)/\w.cell? ⟨b,o+k*4+2,none⟩=some (.int .i64 z)/\w.cell? ⟨b,o+k*4+3,none⟩=some (.slice a m d):=by
 obtain⟨b,o,x,hA,hb,hx,hc⟩:=h.at_ AF hk
 exact⟨b,o,x.1,x.2.1,x.2.2.1,x.2.2.2.1,x.2.2.2.2.1,x.2.2.2.2.2,hA,hb,by simpa using hc 0 _ rfl,by simpa[Nat.add_assoc] using hc 1 _ rfl,by simpa[Nat.add_assoc] using hc 2 _ rfl,by simpa[Nat.add_assoc] using hc 3 _ rfl⟩
def Cg(x:RT):Prop:=(0<=x.N/\x.N<=7)/\(0<=x.C/\x.C<=7)/\(0<=x.R/\x.R<=63)/\x.A.length<=1/\∀ a∈x.A,0<=a/\a<=7
structure uA(B:Nat)(W:World)(A:Option Addr)(n c:Nat)(L:List (RT×Option Addr×Nat)):Prop where
 own:W.ownsRow B 43 4 (.slice A n c) n (L.flatMap D3)
 len:n=L.length
 af:∀ x∈L,ft W (λj=>B<=j) x.2.1 x.1.A.length x.2.2 x.1.A
 ok:∀ x∈L,Cg x.1
theorem aT{W:World}{b:Nat}{C:Array Value}{ty:TypeId}(h:W.heap[b]?=some (.cells C ty (0,0)))(i:Nat){v:Value}(hi:C[i]?=some v):W.cell? ⟨b,i,none⟩=some v/\W.frozen? ⟨b,i,none⟩=false:=
 ⟨by rw[cell_of_row _ _ i _ _ (0,0) h];exact hi,by simp[World.frozen?,h]⟩
theorem rc{W W1 W2:World}{B e sz n:Nat}{v:Value}{xs:List Value}(h:W.ownsRow B e sz v n xs)(hb:Below W.heap.size W W1)(hg:W1.grownBy W2 v.ownBlock):Kt (λt=>t=e) W W2:=
 Kt.of_kx (S:=λj=>v.ownBlock=some j) (((Kx.refl _ W).below hb).grown hg λj hj=>.inl hj) λj hj D t hD=>by
  obtain⟨E,hE⟩:=a8 h hj
  exact ql hE hD
theorem uA.push{B n c n' c':Nat}{W W1 W2:World}{A A':Option Addr}{L:List (RT×Option Addr×Nat)}{x:RT×Option Addr×Nat}(k:uA B W A n c L)(hb:Below W.heap.size W W1)(hg:W1.grownBy W2 (Value.slice A n c).ownBlock)(ho:W2.ownsRow B 43 4 (.slice A' n' c') n' (L.flatMap D3++D3 x))(hn:n'=n+1)(hx:ft W1 (λj=>B<=j) x.2.1 x.1.A.length x.2.2 x.1.A)(g7:Cg x.1):uA B W2 A' n' c' (L++[x]):=by
 subst hn
 refine⟨by rw[List.flatMap_append];simpa using ho,by rw[List.length_append,k.len];rfl,λy hy=>?_,λy hy=>?_⟩
 ·rcases List.mem_append.1 hy with hy|hy
  ·exact (k.af y hy).kt (rc k.own hb hg) (by decide)
  rw[List.mem_singleton] at hy
  subst hy
  exact hx.kt (rc (ai k.own hb) (Below.refl _ _) hg) (by decide)
 rcases List.mem_append.1 hy with hy|hy
 ·exact k.ok y hy
 rw[List.mem_singleton] at hy
 subst hy
 exact g7
theorem rp{W:World}{B B' e sz n:Nat}{v:Value}{xs:List Value}(h:W.ownsRow B e sz v n xs)(hb:B'<=B):W.ownsRow B' e sz v n xs:=by
 refine⟨h.1,h.2.imp id ?_⟩
 rintro⟨g,cap,cur,h1,h2,h3⟩
 exact⟨g,cap,cur,h1,Nat.le_trans hb h2,h3⟩
theorem AD{B B' ob n c:Nat}{W w:World}{A:Option Addr}{C:Array Value}{L:List (RT×Option Addr×Nat)}(k:uA B W A n c L)(hx:W.heap[ob]?=some (.cells C 31 (0,0)))(hb:B'<=B)(ho:ob<B)(hk:Kx (λj=>j=ob) W w):uA B' w A n c L:=by
 refine⟨rp (aH k.own λg hg=>hk.block g (k.own.lt g hg).2 λe=>?_) hb,k.len,λx h=>?_,k.ok⟩
 ·have:=lV k.own hg
  omega
 have h1:=ft.keep (k.af x h) hk.size λj D hD=>hk.block j (Array.getElem?_eq_some_iff.1 hD).1 λe=>by
  subst e
  exact absurd (ql hx hD) (by decide)
 exact⟨h1.sl,h1.cap,λa h2 h3=>⟨Nat.le_trans hb (h1.ty a h2 h3).1,(h1.ty a h2 h3).2⟩⟩
theorem ur{W:World}{b n:Nat}{C:Array Value}{ty:TypeId}(h:W.heap[b]?=some (.cells C ty (0,0)))(hn:n<=C.size):W.there b 0 n:=λj hj =>
 ⟨by rw[Nat.zero_add,cell_of_row _ _ j _ _ (0,0) h,Array.getElem?_eq_getElem (by omega)];rfl,by simp[World.frozen?,h]⟩
theorem zX(b:Nat):∀ (l:List Value) (o:Nat) (W:World),Kx (λj=>j=b) W (W.setCells b o l)
 |[],_,W=>Kx.refl _ W
 |v :: l,o,W=>(aI W b o v).trans (zX b l (o+1) _) λ_ _ e=>e
theorem yd{P:Program}{fn:Func}{t:Tmp}{ty:TypeId}(h:fn.results=#[.cell t ty])(tmps:Array Value)(w:World)(b:Nat)(ht:tmps.getD t undef=.pointer (some ⟨b,0,none⟩))(cs:List Value)(d:TypeDesc)(hc:w.rangeAt b 0 cs)(hu:P.underlying ty=some d)(hd:d.isRow=true)(hi:(P.info? ty).map (·.size)=some cs.length):(results fn tmps).run P w=.ok (.agg cs.toArray) w:=by
 have he:tmps[t]?.getD undef=.pointer (some ⟨b,0,none⟩):=by simpa using ht
 simp[results,h,he,asAddr,run_loadVar_mid w b 0 ty cs d hc hu hd hi]
def jU(j q t:Value)(dl:Int)(s:Value)(p0 p1 p2:Int)(z0 z1 z2 z3 z4 z5 z6:Int)(fa ta:Option Addr)(fn fc tn tc:Nat):Array Value:=#[j,q,t,.int .i64 dl,s,.int .i64 p0,.int .i64 p1,.int .i64 p2,.int .i64 z0,.int .i64 z1,.int .i64 z2,.int .i64 z3,.int .i64 z4,.int .i64 z5,.int .i64 z6,.slice fa fn fc,.slice ta tn tc]
def Kn(w:World)(Aj Aq As:Option Addr)(nj cj nq cq ns cs:Nat)(z0 z1 z2 z3 z4 z5 z6:Int)(fa ta:Option Addr)(fn fc tn tc:Nat)(e:Ending)(w':World):Prop:=
 ∃ A n c L dl p0 p1 p2,e=.returned (.agg (jU (.slice Aj (min nj 6) cj) (.slice Aq (min nq 8) cq) (.slice A n c) dl (.slice As (min ns 4) cs) p0 p1 p2 z0 z1 z2 z3 z4 z5 z6 fa ta fn fc tn tc))/\n<=6/\uA w.heap.size w' A n c L/\(0<=dl/\dl<=31)/\(1<=p0/\p0<=16)/\(1<=p1/\p1<=16)/\(0<=p2/\p2<=3)/\Below w.heap.size w w'
theorem DK(w:World)(Aj Aq At As:Option Addr)(nj cj nq cq nt ct ns cs:Nat)(dl p0 p1 p2:Int)(z0 z1 z2 z3 z4 z5 z6:Int)(fa ta:Option Addr)(fn fc tn tc:Nat)(T:List (Int×Int×Int×Option Addr×Nat×Nat))(hT:ag AE 4 w At nt T)(hj:nj<=cj/\cj<=9223372036854775807)(hq:nq<=cq/\cq<=9223372036854775807)(hs:ns<=cs/\cs<=9223372036854775807)(_ht:nt<=9223372036854775807) :
 Calls Tryz.prog 4 #[.agg (jU (.slice Aj nj cj) (.slice Aq nq cq) (.slice At nt ct) dl (.slice As ns cs) p0 p1 p2 z0 z1 z2 z3 z4 z5 z6 fa ta fn fc tn tc)] w (Kn w Aj Aq As nj cj nq cq ns cs z0 z1 z2 z3 z4 z5 z6 fa ta fn fc tn tc):=by
 refine ae ?_
 intro R hR
 have HR:=zh hR.out
 obtain⟨ob,bt⟩:∃ b,w.heap.size=b:=⟨_,rfl⟩
 obtain⟨w1,a9⟩:∃ w1,w.alloc (.cells (jU (.slice Aj nj cj) (.slice Aq nq cq) (.slice At nt ct) dl (.slice As ns cs) p0 p1 p2 z0 z1 z2 z3 z4 z5 z6 fa ta fn fc tn tc) 31)=w1:=⟨_,rfl⟩
 have bv:=heap_alloc_new w (.cells (jU (.slice Aj nj cj) (.slice Aq nq cq) (.slice At nt ct) dl (.slice As ns cs) p0 p1 p2 z0 z1 z2 z3 z4 z5 z6 fa ta fn fc tn tc) 31)
 have bk:=ab w (.cells (jU (.slice Aj nj cj) (.slice Aq nq cq) (.slice At nt ct) dl (.slice As ns cs) p0 p1 p2 z0 z1 z2 z3 z4 z5 z6 fa ta fn fc tn tc) 31)
 rw[a9] at bv bk
 unfold jU at a9 ⊢
 have ds:=zh a9
 clear hR a9
 go_enter Tryz.func4,Tryz.ntmps4
 go_upto_region 1 with fail
 rw[ds.out]
 rw[bt] at bv
 obtain⟨w2,bc⟩:∃ w2,w1.alloc (.cells #[.slice none 0 0,.slice none 0 0,.slice none 0 0,.int .i64 0,.slice none 0 0,.int .i64 0,.int .i64 0,.int .i64 0,.int .i64 0,.int .i64 0,.int .i64 0,.int .i64 0,.int .i64 0,.int .i64 0,.int .i64 0,.slice none 0 0,.slice none 0 0] 31)=w2:=⟨_,rfl⟩
 have aa:=zh bt
 rw[bc]
 have bm:=ab w1 (.cells #[.slice none 0 0,.slice none 0 0,.slice none 0 0,.int .i64 0,.slice none 0 0,.int .i64 0,.int .i64 0,.int .i64 0,.int .i64 0,.int .i64 0,.int .i64 0,.int .i64 0,.int .i64 0,.int .i64 0,.int .i64 0,.slice none 0 0,.slice none 0 0] 31)
 have bu:=heap_alloc_new w1 (.cells #[.slice none 0 0,.slice none 0 0,.slice none 0 0,.int .i64 0,.slice none 0 0,.int .i64 0,.int .i64 0,.int .i64 0,.int .i64 0,.int .i64 0,.int .i64 0,.int .i64 0,.int .i64 0,.int .i64 0,.int .i64 0,.slice none 0 0,.slice none 0 0] 31)
 rw[bc] at bm bu
 have cN:w1.heap.size=ob+1:=by rw[← ds.out,← bt,World.size_alloc]
 have e6:w2.heap.size=ob+2:=by rw[← bc];simp[cN]
 rw[cN] at bu
 have dk:=zh bu
 have bw:=(bm.block ob (by omega)).trans bv
 have dt:=zh bw
 have bI:=zh (bk.trans (bm.mono bk.size))
 have b5:=zh e6
 have HT:=zh hT
 obtain⟨q0,qf⟩:=aT bw 0 (v:=.slice Aj nj cj) rfl
 obtain⟨q1,qf1⟩:=aT bw 1 (v:=.slice Aq nq cq) rfl
 obtain⟨mj,es⟩:∃ m,min nj 6=m:=⟨_,rfl⟩
 obtain⟨mq,ev⟩:∃ m,min nq 8=m:=⟨_,rfl⟩
 obtain⟨ms,eB⟩:∃ m,min ns 4=m:=⟨_,rfl⟩
 have e1:min (nj:Int) 6=(mj:Int):=by omega
 have e2:min (nq:Int) 8=(mq:Int):=by omega
 have f1:(0:Int)<=(mj:Int):=by omega
 have f2:(mj:Int)<=(cj:Int):=by omega
 have f3:(0:Int)<=(mq:Int):=by omega
 have f4:(mq:Int)<=(cq:Int):=by omega
 have g1:mj<=cj:=by omega
 have g2:mq<=cq:=by omega
 have gs:=zh es
 have gI:=zh ev
 have bj:=zh eB
 clear bt bv bk bm bu cN e6 bw bc hT es ev eB
 go_cut [] (λwx=>Hid (wx.heap[ob]?=some (.cells #[.slice Aj mj cj,.slice Aq mq cq,.slice At nt ct,.int .i64 dl,.slice As ns cs,.int .i64 p0,.int .i64 p1,.int .i64 p2,.int .i64 z0,.int .i64 z1,.int .i64 z2,.int .i64 z3,.int .i64 z4,.int .i64 z5,.int .i64 z6,.slice fa fn fc,.slice ta tn tc] 31 (0,0)))/\Hid (Kx (λj=>j=ob) w2 wx))
 case first =>
  go_region
  all_goals
   go_wp2_with fail
   go_meet
   exact⟨zh (aA (i:=1) (v:=.slice Aq mq cq) (aA (i:=0) (v:=.slice Aj mj cj) dt.out)),zh (((ar (S:=λj=>j=ob) (Below.refl _ w2).drew).trans (aI _ ob 0 _) λj _ e=>e).trans (aI _ ob 1 _) λj _ e=>e)⟩
 rename World=>w3
 obtain⟨b6,c8⟩:=hcut
 clear q0 q1 qf qf1 e1 e2 f1 f2 f3 f4
 obtain⟨q4,qf⟩:=aT b6.out 4 (v:=.slice As ns cs) rfl
 have e1:min (ns:Int) 4=(ms:Int):=by have:=bj.out;omega
 have f1:(0:Int)<=(ms:Int):=by omega
 have f2:(ms:Int)<=(cs:Int):=by have:=bj.out;omega
 have g3:ms<=cs:=by have:=bj.out;omega
 go_upto_region 2 with fail
 go_cut [] (λwx=>Hid (wx.heap[ob]?=some (.cells #[.slice Aj mj cj,.slice Aq mq cq,.slice At nt ct,.int .i64 dl,.slice As ms cs,.int .i64 p0,.int .i64 p1,.int .i64 p2,.int .i64 z0,.int .i64 z1,.int .i64 z2,.int .i64 z3,.int .i64 z4,.int .i64 z5,.int .i64 z6,.slice fa fn fc,.slice ta tn tc] 31 (0,0)))/\Hid (Kx (λj=>j=ob) w2 wx))
 case first =>
  go_wp2_with fail
  go_meet
  exact⟨zh (aA (i:=4) (v:=.slice As ms cs) b6.out),zh (c8.out.trans (aI _ ob 4 _) λj _ e=>e)⟩
 rename World=>w4
 obtain⟨dx,bf⟩:=hcut
 clear q4 qf e1 f1 f2 b6 c8
 have e7:ob+2<=w4.heap.size:=by rw[← b5.out];exact bf.out.size
 have cT:=zh (show Below w.heap.size w w4 from Kx.low bI.out bf.out (λj e=>by rw[e,← aa.out];exact Nat.le_refl _) bI.out.size)
 have f5:=zh ((bf.out.block (ob+1) (by rw[b5.out];omega) (by omega)).trans dk.out)
 obtain⟨B,hB⟩:∃ B,w4.heap.size=B:=⟨_,rfl⟩
 have hl:ob+2<=B:=by rw[← hB];exact e7
 have aF:=zh hB
 obtain⟨q2,qf⟩:=aT dx.out 2 (v:=.slice At nt ct) rfl
 clear hB e7 bf dt dk bI b5
 go_upto_block 0 with fail
 go_cut [3] (λs3 wx=>∃ A n c L,s3=.slice A n c/\n<=6/\Hid (uA B wx A n c L)/\Hid (Below B w4 wx))
 case first =>
  go_wp2_with fail
  go_loopw [3,4] (λs3 s4 wr=>∃ (k:Nat) (A:Option Addr) (c:Nat) (L:List (RT×Option Addr×Nat)),s3=.slice A k c/\s4=.int .i64 (k:Nat)/\k<=nt/\k<=6/\Hid (uA B wr A k c L)/\Hid (Below B w4 wr)) (λ_ s4 _=>6-(intOf s4).toNat)
  case atStart=>exact⟨0,some ⟨B,0,none⟩,0,[],by rw[aF.out],rfl,Nat.zero_le _,Nat.zero_le _,zh ⟨by rw[← aF.out];exact gW w4 #[] _ 4 0 _ (by simp) (Nat.le_refl _) (by decide),rfl,(λx hx=>by cases hx),(λx hx=>by cases hx)⟩,zh (by rw[← aF.out];exact ab w4 _)⟩
  obtain⟨k,A,c,L,rfl,rfl,hk,en,HO,HW⟩:=hrel
  have b9:B<=wr.heap.size:=by rw[← aF.out];exact (HW.out.mono (by rw[aF.out];exact Nat.le_refl B):Below w4.heap.size w4 wr).size
  have q2r:=(HW.out.cell (p:=⟨ob,2,none⟩) (by show ob<B;omega)).trans q2
  by_cases eo:k<nt
  ·have i1:(k:Int)<(nt:Int):=by omega
   by_cases hF:k<6
   ·have i2:(k:Int)<6:=by omega
    have i0:(0:Int)<=(k:Int):=by omega
    have ei:=cT.out.trans (HW.out.mono (show w.heap.size<=B by have:=aa.out;omega))
    obtain⟨b,o,x,y,z,va,vm,vd,rfl,ej,c0,c1,c2,c3⟩:=(HT.out.below ei).atV eo
    obtain⟨mn,cC⟩:∃ a,bits .and .i64 x 7=a:=⟨_,rfl⟩
    obtain⟨mc,cx⟩:∃ a,bits .and .i64 y 7=a:=⟨_,rfl⟩
    obtain⟨mr,cI⟩:∃ a,bits .and .i64 z 63=a:=⟨_,rfl⟩
    obtain⟨mo,et⟩:∃ a,bits .and .i64 z 1=a:=⟨_,rfl⟩
    have e1:=eb x 7 (by decide)
    have e2:=eb y 7 (by decide)
    have e3:=eb z 63 (by decide)
    rw[show ((7:Nat):Int)=7 from rfl] at e1 e2
    rw[show ((63:Nat):Int)=63 from rfl] at e3
    rw[cC] at e1
    rw[cx] at e2
    rw[cI] at e3
    obtain⟨cc,bp⟩:∃ a,min mc mn=a:=⟨_,rfl⟩
    have gC:=zh cC
    have go:=zh cx
    have gN:=zh cI
    have d5:=zh et
    have d4:=zh bp
    clear cC cx cI et bp ei
    go_upto_region 11 with fail
    rw[gC.out,go.out,gN.out,d4.out]
    have cS:=heap_alloc_new wr (.cells #[.int .i64 mn,.int .i64 cc,.int .i64 mr,.slice none 0 0] 43)
    have ad:=ab wr (.cells #[.int .i64 mn,.int .i64 cc,.int .i64 mr,.slice none 0 0] 43)
    obtain⟨w5,e8⟩:∃ w5,wr.alloc (.cells #[.int .i64 mn,.int .i64 cc,.int .i64 mr,.slice none 0 0] 43)=w5:=⟨_,rfl⟩
    rw[e8] at cS ad ⊢
    have bp:=d4.out
    have eI:Cg ⟨mn,cc,mr,[]⟩:=⟨e1,by dsimp only;omega,e3,by simp,λa ha=>by cases ha⟩
    have bi:=zh eI
    have a0:=zh cS
    have am:=zh ad
    have q5:=(ad.cell (p:=⟨ob,2,none⟩) (by show ob<wr.heap.size;omega)).trans q2r
    have c5:=(ad.cell (p:=⟨b,o+k*4+2,none⟩) ej).trans c2
    have hr:=Nat.lt_of_lt_of_le ej ad.size
    clear c0 c1 c2 c3 q2r e8 cS ad bp eI
    go_cut [74] (λs74 wx=>∃ p:Bool,s74=.bool p/\Hid (p=true->0<k)/\wx=w5)
    case first =>
     by_cases g0:k=0
     ·subst g0
      go_wp2_with fail
      go_meet
      exact⟨false,rfl,zh (λe=>by cases e),rfl⟩
     have i3:(0:Int)<(k:Int):=by omega
     by_cases eu:mo=1
     ·have hf:bits .and .i64 z 1=1:=d5.out.trans eu
      go_wp2_with fail
      go_meet
      exact⟨true,rfl,zh (λ_=>by omega),rfl⟩
     have hf:(bits .and .i64 z 1==1)=false:=by rw[d5.out];simpa using eu
     go_wp2_with fail
     go_meet
     exact⟨false,rfl,zh (λe=>by cases e),rfl⟩
    rename World=>wx
    obtain⟨p,rfl,hp,e9⟩:=hcut
    rw[e9]
    clear e9 q5 c5
    obtain⟨-,-,-,u3,uf⟩:=an a0.out
    have uf3:=uf 3
    have hC:=(Array.getElem?_eq_some_iff.1 a0.out).1
    clear uf
    go_upto_if 74 with fail
    go_cut [] (λwx=>∃ (A2:Option Addr) (d2:Nat) (l:List Int),Hid (wx.heap[wr.heap.size]?=some (.cells #[.int .i64 mn,.int .i64 cc,.int .i64 mr,.slice A2 l.length d2] 43 (0,0)))/\Hid (ft wx (λj=>B<=j) A2 l.length d2 l)/\Hid (Cg ⟨mn,cc,mr,l⟩)/\Hid (Below wr.heap.size wr wx))
    case first =>
     cases p
     ·go_wp2_with fail
      go_meet
      exact⟨none,0,[],a0,zh (Il _ _),bi,am⟩
     have hz:=hp.out rfl
     obtain⟨j,rfl⟩:∃ j,k=j+1:=⟨k-1,by omega⟩
     have a9:wrap64 (((j+1:Nat):Int)-1)=(j:Int):=by unfold wrap64;omega
     have bc:((j+1:Nat):Int)-1=(j:Int):=by omega
     obtain⟨V,hV⟩:∃ V,w5.setCell ⟨wr.heap.size,3,none⟩ (.slice (some ⟨w5.heap.size,0,none⟩) 1 1)=V:=⟨_,rfl⟩
     have eg:V.heap.size=w5.heap.size:=by rw[← hV];simp[World.setCell]
     have cd:V.heap[wr.heap.size]?=some (.cells #[.int .i64 mn,.int .i64 cc,.int .i64 mr,.slice (some ⟨w5.heap.size,0,none⟩) 1 1] 43 (0,0)):=by rw[← hV];exact aA (i:=3) (v:=.slice (some ⟨w5.heap.size,0,none⟩) 1 1) a0.out
     have ca:Below wr.heap.size wr V:=by rw[← hV];exact Kx.low am.out (aI _ wr.heap.size 3 _) (λj e=>e ▸ Nat.le_refl _) am.out.size
     have ha:=ab V (.cells #[.int .i64 (j:Int)] 3)
     have bq:=heap_alloc_new V (.cells #[.int .i64 (j:Int)] 3)
     rw[eg] at bq
     have HF:=zh ((ha.block _ (Array.getElem?_eq_some_iff.1 cd).1).trans cd)
     have HI:=zh (show ft (V.alloc (.cells #[.int .i64 (j:Int)] 3)) (λj=>B<=j) (some ⟨w5.heap.size,0,none⟩) 1 1 [(j:Int)] from ⟨ip bq,⟨Nat.le_refl _,by decide⟩,λa _ e=>by cases e;exact⟨Nat.le_trans b9 am.out.size,_,bq⟩⟩)
     have c6:=zh (ca.trans (ha.mono ca.size))
     rw[← hV] at HF HI c6
     have f0:=zh (show Cg ⟨mn,cc,mr,[(j:Int)]⟩ from ⟨bi.out.1,bi.out.2.1,bi.out.2.2.1,by simp,λa ha=>by rw[List.mem_singleton] at ha;subst ha;exact⟨by omega,by omega⟩⟩)
     clear ha bq eg cd ca hV
     go_wp2_with fail
     go_meet
     exact⟨some ⟨w5.heap.size,0,none⟩,1,[(j:Int)],HF,HI,f0,c6⟩
    rename World=>w6
    obtain⟨A2,d2,l,ga,fb,fu,bS⟩:=hcut
    clear u3 uf3 hp a0 am
    obtain⟨u0,u1,u2,u3,-⟩:=an ga.out
    have ci:=bS.out.trans ((ab w6 (.cells #[.int .i64 mn,.int .i64 cc,.int .i64 mr,.slice A2 l.length d2] 43)).mono bS.out.size)
    have dd:=zh (ai HO.out.own ci)
    have fo:=zh (fb.out.below (ab w6 (.cells #[.int .i64 mn,.int .i64 cc,.int .i64 mr,.slice A2 l.length d2] 43)))
    have c4:=zh ci
    have hh:B<=w6.heap.size:=Nat.le_trans b9 bS.out.size
    clear ci
    go_wp2_with (at_builtin;refine ax rfl (.tmp 79) (.tmp 81) _ rfl uU B _ _ _ rfl dd.out _ _ _ _ rfl (Sl.new w6 _ _ 4 1 rfl) (by simp[Value.oneCell']) (by unfold maxLen;omega) (by omega) (by simp;omega) ?_;intro A' c' w7 eF cl g4;have fz:=zh (HO.out.push (x:=(⟨mn,cc,mr,l⟩,A2,d2)) c4.out cl eF rfl fo.out fu.out);have f9:=zh (aL (HW.out.trans (c4.out.mono b9)) dd.out (Nat.le_refl _) (by simp;omega) cl);clear eF cl g4)
    exact⟨⟨k+1,A',c',_,rfl,by go_num,eo,by omega,fz,f9⟩,by simp[intOf];omega⟩
   have i2:¬ (k:Int)<6:=by omega
   go_wp2_with fail
   go_meet
   exact⟨A,k,c,L,rfl,en,HO,HW⟩
  have i1:¬ (k:Int)<(nt:Int):=by omega
  go_wp2_with fail
  go_meet
  exact⟨A,k,c,L,rfl,en,HO,HW⟩
 rename World=>w8
 obtain⟨A,n,c,L,rfl,g5,HO,HW⟩:=hcut
 have bD:=(HW.out.block ob (by omega)).trans dx.out
 have dq:=zh ((HW.out.block (ob+1) (by omega)).trans f5.out)
 have cV:=zh (cT.out.trans (HW.out.mono (show w.heap.size<=B by have:=aa.out;omega)))
 have g6:ob+1<w8.heap.size:=(Array.getElem?_eq_some_iff.1 dq.out).1
 have dz:=zh bD
 obtain⟨ml,cA⟩:∃ a,bits .and .i64 dl 31=a:=⟨_,rfl⟩
 obtain⟨m0,cn⟩:∃ a,bits .and .i64 p0 15=a:=⟨_,rfl⟩
 obtain⟨m1,cp⟩:∃ a,bits .and .i64 p1 15=a:=⟨_,rfl⟩
 obtain⟨m2,cr⟩:∃ a,bits .and .i64 p2 3=a:=⟨_,rfl⟩
 have e0:=eb dl 31 (by decide)
 have e1:=eb p0 15 (by decide)
 have e2:=eb p1 15 (by decide)
 have e3:=eb p2 3 (by decide)
 rw[show ((31:Nat):Int)=31 from rfl,cA] at e0
 rw[show ((15:Nat):Int)=15 from rfl] at e1 e2
 rw[cn] at e1
 rw[cp] at e2
 rw[show ((3:Nat):Int)=3 from rfl,cr] at e3
 have gw:=zh cA
 have gb:=zh cn
 have gg:=zh cp
 have gk:=zh cr
 have gO:=zh (lE (a:=m0+1) rfl (by omega) (by omega))
 have gT:=zh (lE (a:=m1+1) rfl (by omega) (by omega))
 clear cA cn cp cr q2 qf
 obtain⟨q2,qf2⟩:=aT bD 2 (v:=.slice At nt ct) rfl
 obtain⟨q3,qf3⟩:=aT bD 3 (v:=.int .i64 dl) rfl
 clear bD
 go_upto_region 14 with fail
 go_cut [] (λwx=>Hid (wx.heap[ob]?=some (.cells #[.slice Aj mj cj,.slice Aq mq cq,.slice A n c,.int .i64 ml,.slice As ms cs,.int .i64 p0,.int .i64 p1,.int .i64 p2,.int .i64 z0,.int .i64 z1,.int .i64 z2,.int .i64 z3,.int .i64 z4,.int .i64 z5,.int .i64 z6,.slice fa fn fc,.slice ta tn tc] 31 (0,0)))/\Hid (Kx (λj=>j=ob) w8 wx))
 case first =>
  go_wp2_with fail
  go_meet
  rw[gw.out]
  exact⟨zh (aA (i:=3) (v:=.int .i64 ml) (aA (i:=2) (v:=.slice A n c) dz.out)),zh ((aI _ ob 2 _).trans (aI _ ob 3 _) λj _ e=>e)⟩
 rename World=>w9
 obtain⟨b7,c9⟩:=hcut
 clear q2 qf2 q3 qf3
 have bE:=b7.out
 obtain⟨q5,qf5⟩:=aT bE 5 (v:=.int .i64 p0) rfl
 obtain⟨q6,qf6⟩:=aT bE 6 (v:=.int .i64 p1) rfl
 obtain⟨q7,qf7⟩:=aT bE 7 (v:=.int .i64 p2) rfl
 clear bE
 go_upto_region 15 with fail
 go_cut [] (λwx=>Hid (wx.heap[ob]?=some (.cells #[.slice Aj mj cj,.slice Aq mq cq,.slice A n c,.int .i64 ml,.slice As ms cs,.int .i64 (m0+1),.int .i64 (m1+1),.int .i64 m2,.int .i64 z0,.int .i64 z1,.int .i64 z2,.int .i64 z3,.int .i64 z4,.int .i64 z5,.int .i64 z6,.slice fa fn fc,.slice ta tn tc] 31 (0,0)))/\Hid (Kx (λj=>j=ob) w8 wx))
 case first =>
  go_wp2_with fail
  go_meet
  rw[gb.out,gg.out,gk.out]
  first|rw[gO.out,gT.out]|skip
  exact⟨zh (aA (i:=7) (v:=.int .i64 m2) (aA (i:=6) (v:=.int .i64 (m1+1)) (aA (i:=5) (v:=.int .i64 (m0+1)) b7.out))),zh (((c9.out.trans (aI _ ob 5 _) λj _ e=>e).trans (aI _ ob 6 _) λj _ e=>e).trans (aI _ ob 7 _) λj _ e=>e)⟩
 rename World=>w10
 obtain⟨d3,bg⟩:=hcut
 clear q5 qf5 q6 qf6 q7 qf7 c9 b7
 have cL:=(bg.out.block (ob+1) g6 (by omega)).trans dq.out
 have e4:w10.rangeAt ob 0 [.slice Aj mj cj,.slice Aq mq cq,.slice A n c,.int .i64 ml,.slice As ms cs,.int .i64 (m0+1),.int .i64 (m1+1),.int .i64 m2,.int .i64 z0,.int .i64 z1,.int .i64 z2,.int .i64 z3,.int .i64 z4,.int .i64 z5,.int .i64 z6,.slice fa fn fc,.slice ta tn tc]:=World.rangeAt_of_block d3.out 0 17
 have cO:=ur (n:=17) cL (by decide)
 have hk:=zX (ob+1) [.slice Aj mj cj,.slice Aq mq cq,.slice A n c,.int .i64 ml,.slice As ms cs,.int .i64 (m0+1),.int .i64 (m1+1),.int .i64 m2,.int .i64 z0,.int .i64 z1,.int .i64 z2,.int .i64 z3,.int .i64 z4,.int .i64 z5,.int .i64 z6,.slice fa fn fc,.slice ta tn tc] 0 w10
 have e5:=World.rangeAt_setCells_same w10 (ob+1) 0 [.slice Aj mj cj,.slice Aq mq cq,.slice A n c,.int .i64 ml,.slice As ms cs,.int .i64 (m0+1),.int .i64 (m1+1),.int .i64 m2,.int .i64 z0,.int .i64 z1,.int .i64 z2,.int .i64 z3,.int .i64 z4,.int .i64 z5,.int .i64 z6,.slice fa fn fc,.slice ta tn tc] cO
 have d7:=AD HO.out dz.out (Nat.le_refl B) (by omega) bg.out
 have ec:=AD d7 cL (show w.heap.size<=B by have:=aa.out;omega) (by omega) hk
 have b8:=Kx.low cV.out bg.out (λj e=>by rw[e,← aa.out];exact Nat.le_refl _) cV.out.size
 have d6:=Kx.low b8 hk (λj e=>by rw[e,← aa.out];omega) b8.size
 have HE:=zh (HR.out (.returned (.agg ([.slice Aj mj cj,.slice Aq mq cq,.slice A n c,.int .i64 ml,.slice As ms cs,.int .i64 (m0+1),.int .i64 (m1+1),.int .i64 m2,.int .i64 z0,.int .i64 z1,.int .i64 z2,.int .i64 z3,.int .i64 z4,.int .i64 z5,.int .i64 z6,.slice fa fn fc,.slice ta tn tc]:List Value).toArray)) _ ⟨A,n,c,L,ml,m0+1,m1+1,m2,by rw[gs.out,gI.out,bj.out];rfl,g5,ec,e0,by omega,by omega,e3,d6⟩)
 have f6:=zh e4
 have f8:=zh cO
 have f7:=zh e5
 clear cL e4 cO hk e5 d7 ec b8 d6 HR HO HW d3 bg
 go_upto_region 16 with fail
 refine wp_region_list ?_
 refine wpList_load_mid rfl 31 (.tmp 1) rfl ob 0 rfl [.slice Aj mj cj,.slice Aq mq cq,.slice A n c,.int .i64 ml,.slice As ms cs,.int .i64 (m0+1),.int .i64 (m1+1),.int .i64 m2,.int .i64 z0,.int .i64 z1,.int .i64 z2,.int .i64 z3,.int .i64 z4,.int .i64 z5,.int .i64 z6,.slice fa fn fc,.slice ta tn tc] _ f6.out Tryz.underlying31 rfl (by kernel_rfl) ?_
 refine wpList_store_mid rfl 31 (.tmp 2) (.tmp 105) rfl (ob+1) 0 ([.slice Aj mj cj,.slice Aq mq cq,.slice A n c,.int .i64 ml,.slice As ms cs,.int .i64 (m0+1),.int .i64 (m1+1),.int .i64 m2,.int .i64 z0,.int .i64 z1,.int .i64 z2,.int .i64 z3,.int .i64 z4,.int .i64 z5,.int .i64 z6,.slice fa fn fc,.slice ta tn tc]:List Value).toArray rfl rfl f8.out (by kernel_rfl) (by simp[Value.oneCell']) ?_
 refine wpList_nil ?_
 go_wp2_with fail
 refine bodyPost_ret (yd rfl _ _ (ob+1) rfl [.slice Aj mj cj,.slice Aq mq cq,.slice A n c,.int .i64 ml,.slice As ms cs,.int .i64 (m0+1),.int .i64 (m1+1),.int .i64 m2,.int .i64 z0,.int .i64 z1,.int .i64 z2,.int .i64 z3,.int .i64 z4,.int .i64 z5,.int .i64 z6,.slice fa fn fc,.slice ta tn tc] _ f7.out Tryz.underlying31 rfl (by kernel_rfl)) rfl HE.out
end
end Go.Proofs.YtgbnicokglpdbaaGreatDoor
