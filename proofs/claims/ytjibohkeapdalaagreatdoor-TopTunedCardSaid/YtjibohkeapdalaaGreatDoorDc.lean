/-
  Contract of wire.fill; plain and memory for wire.Best. Contract of wire.Best: no picks and an error, or the definite picks, which hold, follow one another, change no more often than allowed, and cost what it says. Contracts of wire.fits and Pull; each states its condition. Contract of wire.Cost at picks that hold, follow one another and change no more often than allowed; it states its condition.
-/
import Derived.Test.YtjibohkeapdalaaGreatDoorDb
namespace Go.Proofs.YtjibohkeapdalaaGreatDoor
set_option maxHeartbeats 8000000
set_option maxRecDepth 16000
section
section
section
open Go.RowKit
def PrR(W:World)(ra:Option Addr)(n q:Nat)(pr:Nat->Nat->Int):Prop:=
 ∀ i,i<n->∃ b o b' o' c',ra=some ⟨b,o,none⟩/\b<W.heap.size/\b'<W.heap.size/\W.cell? ⟨b,o+i,none⟩=some (.slice (some ⟨b',o',none⟩) q c')/\∀ p,p<q->W.cell? ⟨b',o'+p,none⟩=some (.int .i64 (pr i p))
structure FlS(w W:World)(sb tb:Nat)(A:Option Addr)(n c:Nat)(s1 s2 s3:Value)(ch:Nat)(pa:Option Addr)(q pc:Nat)(ra:Option Addr)(rc:Nat):Prop where
 kx:Kx (λj=>j=sb) w W
 sbx:W.heap[sb]?=some (.cells #[.slice A n c,s1,s2,s3,.int .i64 (ch:Nat),.slice pa q pc,.slice ra n rc,.slice (some ⟨tb,0,none⟩) n n] 124 (0,0))
 lo:w.heap.size<=tb
 lt:sb<w.heap.size
theorem FlS.step{w W W':World}{sb tb:Nat}{A:Option Addr}{n c:Nat}{s1 s2 s3:Value}{ch:Nat}{pa:Option Addr}{q pc:Nat}{ra:Option Addr}{rc:Nat}{S:Nat->Prop}(h:FlS w W sb tb A n c s1 s2 s3 ch pa q pc ra rc)(hk:Kx S W W')(hs:∀ j,S j->w.heap.size<=j) :
 FlS w W' sb tb A n c s1 s2 s3 ch pa q pc ra rc:=
 ⟨h.kx.trans hk (λj hj hS=>absurd (hs j hS) (by omega)),(hk.block _ (Array.getElem?_eq_some_iff.1 h.sbx).1 (λhS=>absurd (hs _ hS) (by have:=h.lt;omega))).trans h.sbx,h.lo,h.lt⟩
theorem FlS.slt{w W:World}{sb tb:Nat}{A:Option Addr}{n c:Nat}{s1 s2 s3:Value}{ch:Nat}{pa:Option Addr}{q pc:Nat}{ra:Option Addr}{rc:Nat}(h:FlS w W sb tb A n c s1 s2 s3 ch pa q pc ra rc):sb<W.heap.size:=(Array.getElem?_eq_some_iff.1 h.sbx).1
structure Fl2(w W:World)(sb tb:Nat)(A:Option Addr)(n c:Nat)(s1 s2 s3:Value)(ch:Nat)(pa:Option Addr)(q pc:Nat)(ra:Option Addr)(rc c1:Nat)(V:Nat->Nat->Nat->Int)(rb i p:Nat)(Tc cs:Array Value):Prop where
 S:FlS w W sb tb A n c s1 s2 s3 ch pa q pc ra rc
 F:Fi W rb tb n Tc (i+1) q c1 V
 tc:Tc[i]?=some (.slice (some ⟨rb,0,none⟩) q q)
 O:Ro W rb W.heap.size rb q cs p c1 (V i)
structure Fl3(w W:World)(sb tb:Nat)(A:Option Addr)(n c:Nat)(s1 s2 s3:Value)(ch:Nat)(pa:Option Addr)(q pc:Nat)(ra:Option Addr)(rc c1:Nat)(V:Nat->Nat->Nat->Int)(rb cb i p l:Nat)(Tc cs:Array Value):Prop where
 S:FlS w W sb tb A n c s1 s2 s3 ch pa q pc ra rc
 F:Fi W rb tb n Tc (i+1) q c1 V
 tc:Tc[i]?=some (.slice (some ⟨rb,0,none⟩) q q)
 O:Ro W rb cb rb q cs p c1 (V i)
 ck:cs[p]?=some (.slice (some ⟨cb,0,none⟩) c1 c1)
 R:RwF W cb c1 l (V i p)
section
variable{w W W':World}{sb tb:Nat}{A:Option Addr}{n c:Nat}{s1 s2 s3:Value}{ch:Nat}{pa:Option Addr}{q pc:Nat}{ra:Option Addr}{rc c1:Nat}{V:Nat->Nat->Nat->Int}{rb cb i p l:Nat}{Tc cs:Array Value}
theorem Fl3.below(h:Fl3 w W sb tb A n c s1 s2 s3 ch pa q pc ra rc c1 V rb cb i p l Tc cs)(hb:Below W.heap.size W W'):Fl3 w W' sb tb A n c s1 s2 s3 ch pa q pc ra rc c1 V rb cb i p l Tc cs:=by
 have k:Kx (λ_=>False) W W':=(Kx.refl _ W).below hb
 exact⟨h.S.step k (λj h=>h.elim),h.F.kx k (λ_ _ _ h=>h),h.tc,h.O.kx k (λ_ _ _ h=>h),h.ck,h.R.below hb⟩
theorem Fl3.set(h:Fl3 w W sb tb A n c s1 s2 s3 ch pa q pc ra rc c1 V rb cb i p l Tc cs)(hl:l<c1){v:Int}(hv:v=V i p l):Fl3 w (W.setCell ⟨cb,l,none⟩ (.int .i64 v)) sb tb A n c s1 s2 s3 ch pa q pc ra rc c1 V rb cb i p (l+1) Tc cs:=by
 have k:=kx_one W cb l (.int .i64 v)
 have h1:=h.S.lo
 have h2:=h.F.hhi
 have h3:=h.O.hhi
 exact⟨h.S.step k (λj h=>by omega),h.F.kx k (λj _ _ h=>by omega),h.tc,h.O.kx k (λj _ _ h=>by omega),h.ck,h.R.set hl hv⟩
theorem Fl3.done(h:Fl3 w W sb tb A n c s1 s2 s3 ch pa q pc ra rc c1 V rb cb i p c1 Tc cs):Fl2 w W sb tb A n c s1 s2 s3 ch pa q pc ra rc c1 V rb i (p+1) Tc cs:=
 ⟨h.S,h.F,h.tc,h.O.push h.ck (Nat.le_refl _) h.R.lt h.R⟩
theorem Fl2.next(h:Fl2 w W sb tb A n c s1 s2 s3 ch pa q pc ra rc c1 V rb i p Tc cs)(hp:p<q)(h1:((W.setCell ⟨rb,p,none⟩ (.slice (some ⟨W.heap.size,0,none⟩) c1 c1)).alloc (.cells (madeCells #[Value.int .i64 0] c1) 3)).drew=W') :
 Fl3 w W' sb tb A n c s1 s2 s3 ch pa q pc ra rc c1 V rb W.heap.size i p 0 Tc (cs.set! p (.slice (some ⟨W.heap.size,0,none⟩) c1 c1)):=by
 obtain⟨a1,a2,a3,a4⟩:=h.O.start hp h1
 have h2:=h.S.lo
 have h3:=h.F.hhi
 exact⟨h.S.step a1 (λj h=>by omega),h.F.kx a1 (λj _ _ h=>by omega),h.tc,a2,a3,a4⟩
theorem Fl2.first(hS:FlS w W sb tb A n c s1 s2 s3 ch pa q pc ra rc)(hF:Fi W W.heap.size tb n Tc (i+1) q c1 V)(hi:i<n)
 (h1:((W.setCell ⟨tb,i,none⟩ (.slice (some ⟨W.heap.size,0,none⟩) q q)).alloc (.cells (madeCells #[Value.slice none 0 0] q) 22)).drew=W') :
 Fl2 w W' sb tb A n c s1 s2 s3 ch pa q pc ra rc c1 V W.heap.size i 0 (Tc.set! i (.slice (some ⟨W.heap.size,0,none⟩) q q)) (madeCells #[Value.slice none 0 0] q):=by
 obtain⟨a1,a2,a3,a4⟩:=hF.start hi h1
 exact⟨hS.step a1 (λj h=>by rw[h];exact hS.lo),a2,a3,a4⟩
theorem Fl2.done(h:Fl2 w W sb tb A n c s1 s2 s3 ch pa q pc ra rc c1 V rb i q Tc cs):FlS w W sb tb A n c s1 s2 s3 ch pa q pc ra rc/\Fi W W.heap.size tb n Tc i q c1 V:=
 ⟨h.S,h.F.push h.tc (Nat.le_of_lt (Nat.lt_of_le_of_lt h.O.hlo h.O.hhi)) (Nat.le_refl _) h.O⟩
theorem Fl3.onr{k:Nat}(h:Fl3 w W sb tb A n c s1 s2 s3 ch pa q pc ra rc c1 V rb cb i p l Tc cs)(hi:i+1<n)(hp:SlE pkE 2 W pa q (pks k q)):∃ rb',OnR W sb tb rb' pa q pc n (i+1) c1 k (V (i+1)):=by
 obtain⟨v0,v1,v2,v3,v4,v5,v6,v7,vf⟩:=cells8 h.S.sbx
 obtain⟨rb',cs',a1,a2⟩:=h.F.rows (i+1) (Nat.le_refl _) hi
 exact⟨rb',v5,v7,h.S.slt,h.F.lt,a2.lt,hp,h.F.cell a1,λt ht=>by
  obtain⟨cb',b1,b2,b3,b4⟩:=a2.rows t ht
  exact⟨cb',b4.lt,a2.cell b1,λl hl=>b4.read hl⟩⟩
end
theorem wfill_any(sb:Nat)(A:Option Addr)(n c:Nat)(s1 s2 s3 s7:Value)(ch:Nat)(pa:Option Addr)(q pc:Nat)(ra:Option Addr)(rc k:Nat)(pr:Nat->Nat->Int)(w:World)
 (hsb:w.heap[sb]?=some (.cells #[.slice A n c,s1,s2,s3,.int .i64 (ch:Nat),.slice pa q pc,.slice ra n rc,s7] 124 (0,0)))
 (hp:∀ W,Kx (λj=>j=sb) w W->SlE pkE 2 W pa q (pks k q)) (hpr:∀ W,Kx (λj=>j=sb) w W->PrR W ra n q pr)
 (hrg:∀ i p,i<n->p<q->-1<=pr i p/\pr i p<=4000000000000000) (hn:1<=n) (hn2:n<=96) (hq:q<=64) (hch:ch<=96) :
 Calls Tryz.prog 38 #[.pointer (some ⟨sb,0,none⟩)] w λe w'=>e=.returned (.tuple #[])/\∃ tb Tc,FlS w w' sb tb A n c s1 s2 s3 ch pa q pc ra rc/\Fi w' w'.heap.size tb n Tc 0 q (ch+1) (λi=>vF pr k q n (n-1-i)):=by
 refine calls_cps ?_
 intro R hR
 have HR:=zh hR
 have Hp:=zh hp
 have Hpr:=zh hpr
 have Hrg:=zh hrg
 have hlt:sb<w.heap.size:=(Array.getElem?_eq_some_iff.1 hsb).1
 have Hsb:=zh hsb
 clear hR hp hpr hrg hsb
 obtain⟨c1,hc1⟩:∃ c1,ch+1=c1:=⟨_,rfl⟩
 rw[hc1] at HR
 have hci:(ch:Int)+1=(c1:Int):=by omega
 have hcw:IntKind.i64.wrap ((ch:Int)+1)=(c1:Int):=by rw[IntWalk.i64_in _ (by omega)];exact hci
 obtain⟨V,hV⟩:∃ V,(λi=>vF pr k q n (n-1-i))=V:=⟨_,rfl⟩
 rw[hV] at HR
 have HV:=zh hV
 clear hV hc1
 obtain⟨v0,v1,v2,v3,v4,v5,v6,v7,vf⟩:=cells8 Hsb.out
 go_enter Tryz.func38,Tryz.ntmps38
 have hn9:(n:Int)<=9223372036854775807:=by omega
 have hmk:=run_mkTabW n (by omega) w
 go_upto_region 2 with fail
 clear hmk v0 v1 v2 v3 v4 v5 v6 v7 vf
 obtain⟨wA,hwA⟩:∃ wA,(w.setCell ⟨sb,7,none⟩ (.slice (some ⟨w.heap.size,0,none⟩) n n)).alloc (.cells (madeCells #[Value.slice none 0 0] n) 106)=wA:=⟨_,rfl⟩
 have hsA:FlS w wA sb w.heap.size A n c s1 s2 s3 ch pa q pc ra rc:=by
  rw[← hwA]
  refine⟨(kx_one w sb 7 _).trans ((kx_alloc _ _ _)) (λj _ h=>h),?_,Nat.le_refl _,hlt⟩
  rw[Below.heap_alloc _ _ _ (by simpa using hlt)]
  simp[World.setCell,Array.getElem?_modify,Hsb.out]
 have hfA:Fi wA wA.heap.size w.heap.size n (madeCells #[Value.slice none 0 0] n) n q c1 V:=by
  rw[← hwA]
  have h0:=heap_alloc_new (w.setCell ⟨sb,7,none⟩ (.slice (some ⟨w.heap.size,0,none⟩) n n)) (.cells (madeCells #[Value.slice none 0 0] n) 106)
  rw[World.size_setCell] at h0
  exact⟨by simp,h0,size_madeCells _ _,λu h1 h2=>by omega⟩
 rw[hwA]
 obtain⟨tb,htb⟩:∃ tb,w.heap.size=tb:=⟨_,rfl⟩
 rw[htb] at hsA hfA ⊢
 have Htb:=zh htb
 have HsA:=zh hsA
 have HfA:=zh hfA
 clear hwA hsA hfA htb
 go_wp2_with fail
 go_loopw [3,4,5,6,7,8,43,68] (λs3' _ _ _ _ _ _ _ wr=>∃ (i:Nat) (z:Int) (Tc:Array Value),s3'=.int .i64 z/\z+1=(i:Int)/\i<=n/\Hid (FlS w wr sb tb A n c s1 s2 s3 ch pa q pc ra rc)/\Hid (Fi wr wr.heap.size tb n Tc i q c1 V)) (λs3' _ _ _ _ _ _ _ _=>(intOf s3'+1).toNat)
 case atStart=>exact⟨n,_,_,rfl,by omega,Nat.le_refl _,HsA,HfA⟩
 case round =>
  clear HsA HfA
  obtain⟨i1,z,Tc,rfl,hz,hi,HS,HF⟩:=hrel
  by_cases hz0:0<=z
  ·obtain⟨i,rfl⟩:∃ i:Nat,z=(i:Int):=⟨z.toNat,by omega⟩
   obtain rfl:i1=i+1:=by omega
   have hin:(i:Int)<(n:Int):=by omega
   have hslt:=HS.out.slt
   have htlt:=HF.out.lt
   obtain⟨v0,v1,v2,v3,v4,v5,v6,v7,vf⟩:=cells8 HS.out.sbx
   obtain⟨⟨ov,oc⟩,of⟩:=HF.out.store (u:=i) (by omega)
   have hq9:(q:Int)<=9223372036854775807:=by omega
   have hmk:=run_mkRowW q (by omega) wr.drew
   go_upto_region 5 with fail
   go_region
   clear hmk oc of v0 v1 v2 v3 v4 v5 v6 v7 vf
   obtain⟨w1,hw1⟩:∃ w1,((wr.setCell ⟨tb,i,none⟩ (.slice (some ⟨wr.heap.size,0,none⟩) q q)).alloc (.cells (madeCells #[Value.slice none 0 0] q) 22)).drew=w1:=⟨_,rfl⟩
   have H2:=zh (Fl2.first HS.out HF.out (by omega) hw1)
   rw[hw1]
   obtain⟨rb,hrb⟩:∃ rb,wr.heap.size=rb:=⟨_,rfl⟩
   obtain⟨Td,hTd⟩:∃ Td,Tc.set! i (.slice (some ⟨wr.heap.size,0,none⟩) q q)=Td:=⟨_,rfl⟩
   rw[hTd,hrb] at H2
   rw[hrb]
   clear hw1 hrb hTd HS HF hslt htlt
   have hslt:=H2.out.S.slt
   obtain⟨v0,v1,v2,v3,v4,v5,v6,v7,vf⟩:=cells8 H2.out.S.sbx
   go_wp2_with fail
   clear hslt v0 v1 v2 v3 v4 v5 v6 v7 vf
   go_loopw [4,5,6,7,8,43,68] (λ_ _ _ _ _ s43 _ wx=>∃ (p:Nat) (cs:Array Value),s43=.int .i64 (p:Nat)/\p<=q/\Hid (Fl2 w wx sb tb A n c s1 s2 s3 ch pa q pc ra rc c1 V rb i p Td cs)) (λ_ _ _ _ _ s43 _ _=>q-(intOf s43).toNat)
   case atStart=>exact⟨0,_,rfl,Nat.zero_le _,H2⟩
   case round =>
    clear H2
    obtain⟨p,cs,rfl,hpq,H2⟩:=hrel
    by_cases hlp:p<q
    ·have i1:(p:Int)<(q:Int):=by omega
     have hslt:=H2.out.S.slt
     have htlt:=H2.out.F.lt
     have hrlt:=H2.out.O.lt
     have htc:=H2.out.F.cell H2.out.tc
     obtain⟨⟨ov,oc⟩,of⟩:=H2.out.O.store hlp
     obtain⟨v0,v1,v2,v3,v4,v5,v6,v7,vf⟩:=cells8 H2.out.S.sbx
     have hmk:=run_mkIntW c1 (by omega) wr.drew
     go_upto_region 9 with fail
     go_region
     clear hmk oc of v0 v1 v2 v3 v4 v5 v6 v7 vf htc
     obtain⟨w1,hw1⟩:∃ w1,((wr.setCell ⟨rb,p,none⟩ (.slice (some ⟨wr.heap.size,0,none⟩) c1 c1)).alloc (.cells (madeCells #[Value.int .i64 0] c1) 3)).drew=w1:=⟨_,rfl⟩
     have H3:=zh (H2.out.next hlp hw1)
     rw[hw1]
     obtain⟨cb,hcb⟩:∃ cb,wr.heap.size=cb:=⟨_,rfl⟩
     obtain⟨ct,hct⟩:∃ ct,cs.set! p (.slice (some ⟨wr.heap.size,0,none⟩) c1 c1)=ct:=⟨_,rfl⟩
     rw[hct,hcb] at H3
     rw[hcb]
     clear hw1 hcb hct hslt htlt hrlt H2
     have hslt:=H3.out.S.slt
     obtain⟨v0,v1,v2,v3,v4,v5,v6,v7,vf⟩:=cells8 H3.out.S.sbx
     go_wp2_with fail
     clear hslt v0 v1 v2 v3 v4 v5 v6 v7 vf
     go_loopw [5,6,7,8,68] (λ_ _ _ _ s68 wy=>∃ (l:Nat),s68=.int .i64 (l:Nat)/\l<=c1/\Hid (Fl3 w wy sb tb A n c s1 s2 s3 ch pa q pc ra rc c1 V rb cb i p l Td ct)) (λ_ _ _ _ s68 _=>c1-(intOf s68).toNat)
     case atStart=>exact⟨0,rfl,Nat.zero_le _,H3⟩
     case round =>
      clear H3
      obtain⟨l,rfl,hlc,H3⟩:=hrel
      by_cases hll:l<c1
      ·have i2:(l:Int)<(c1:Int):=by omega
       have hslt:=H3.out.S.slt
       obtain⟨v0,v1,v2,v3,v4,v5,v6,v7,vf⟩:=cells8 H3.out.S.sbx
       obtain⟨b,o,b',o',c',hra,hbl,hbl',q0,q1⟩:=Hpr.out wr H3.out.S.kx i (by omega)
       have q2:=q1 p hlp
       rw[hra] at v6
       obtain⟨prv,hprv⟩:∃ prv,pr i p=prv:=⟨_,rfl⟩
       obtain⟨g1,g2⟩:=Hrg.out i p (by omega) hlp
       rw[hprv] at q2 g1 g2
       have Hprv:=zh hprv
       clear q1 hprv hra
       go_upto_region 14 with fail
       by_cases h1:prv = -1
       ·have hv:(-1:Int)=V i p l:=by
         rw[← HV.out]
         dsimp only
         by_cases he:i+1=n
         ·rw[vF_last he,Hprv.out,h1]
         ·rw[vF_step (by omega),Hprv.out,if_pos h1]
        have Hn:=zh (H3.out.set hll hv)
        obtain⟨⟨ov,oc⟩,of⟩:=H3.out.R.cell hll
        have htc:=H3.out.F.cell H3.out.tc
        have hck:=H3.out.O.cell H3.out.ck
        have htlt:=H3.out.F.lt
        have hrlt:=H3.out.O.lt
        have hclt:=H3.out.R.lt
        subst h1
        clear hv
        go_wp2_with fail
        exact⟨⟨l+1,by go_num,by omega,Hn⟩,by simp[intOf];omega⟩
       ·have h1b:(prv != -1)=true:=by simpa using h1
        by_cases he:i+1=n
        ·have hv:prv=V i p l:=by
          rw[← HV.out]
          dsimp only
          rw[vF_last he,Hprv.out]
         have Hn:=zh (H3.out.set hll hv)
         have i5:¬ (i:Int)<(n:Int)-1:=by omega
         obtain⟨⟨ov,oc⟩,of⟩:=H3.out.R.cell hll
         have htc:=H3.out.F.cell H3.out.tc
         have hck:=H3.out.O.cell H3.out.ck
         have htlt:=H3.out.F.lt
         have hrlt:=H3.out.O.lt
         have hclt:=H3.out.R.lt
         clear hv he
         go_wp2_with fail
         exact⟨⟨l+1,by go_num,by omega,Hn⟩,by simp[intOf];omega⟩
        ·have hi2:i+1<n:=by omega
         have i5:(i:Int)<(n:Int)-1:=by omega
         obtain⟨rb',hon⟩:=H3.out.onr hi2 (Hp.out wr H3.out.S.kx)
         have Hon:=zh (onward_any sb tb rb' pa q pc n c1 k (V (i+1)) i p l wr hon hi2 (by omega) hlp (by omega) hll (by omega))
         obtain⟨r,hr⟩:∃ r,onF (V (i+1)) k p l q=r:=⟨_,rfl⟩
         rw[hr] at Hon
         obtain⟨x,y⟩:=r
         have hx : -1<=x/\x<=4000000000000000*96:=by
          have h:=onF_rng (f:=V (i+1)) (k:=k) (from':=p) (left:=l) (B:=4000000000000000*96) q (λt l' ht _=>by
           rw[← HV.out]
           dsimp only
           have h:=vF_rng (k:=k) Hrg.out (n-1-(i+1)) t l' (by omega) ht
           omega) (by omega)
          rw[hr] at h
          exact⟨h.1,h.2.1⟩
         have Hv:=zh (show V i p l=if x = -1 then -1 else prv+x from by
          have e:onF (λp l=>vF pr k q n (n-1-(i+1)) p l) k p l q=(x,y):=by
           rw[← hr,← HV.out]
          rw[← HV.out]
          dsimp only
          rw[vF_step hi2,Hprv.out,if_neg h1,show onF (vF pr k q n (n-1-(i+1))) k p l q=(x,y) from e])
         dsimp only at Hon
         obtain⟨x1,x2⟩:=hx
         clear hon hr he
         go_upto_region 16 with ((with_reducible refine Hon.out.mono ?_);rintro e w3 ⟨rfl,hb3⟩;have H4:=zh (H3.out.below hb3);clear hb3)
         clear hslt v0 v1 v2 v3 v4 v5 v6 v7 vf q0 q2 hbl hbl'
         by_cases h2:x = -1
         ·have hv:(-1:Int)=V i p l:=by rw[Hv.out,if_pos h2]
          have Hn:=zh (H4.out.set hll hv)
          obtain⟨⟨ov,oc⟩,of⟩:=H4.out.R.cell hll
          have htc:=H4.out.F.cell H4.out.tc
          have hck:=H4.out.O.cell H4.out.ck
          have htlt:=H4.out.F.lt
          have hrlt:=H4.out.O.lt
          have hclt:=H4.out.R.lt
          have hslt:=H4.out.S.slt
          obtain⟨v0,v1,v2,v3,v4,v5,v6,v7,vf⟩:=cells8 H4.out.S.sbx
          subst h2
          clear hv
          go_wp2_with fail
          exact⟨⟨l+1,by go_num,by omega,Hn⟩,by simp[intOf];omega⟩
         ·have hv:prv+x=V i p l:=by rw[Hv.out,if_neg h2]
          have Hn:=zh (H4.out.set hll hv)
          have h2b:(x == -1)=false:=by simpa using h2
          obtain⟨⟨ov,oc⟩,of⟩:=H4.out.R.cell hll
          have htc:=H4.out.F.cell H4.out.tc
          have hck:=H4.out.O.cell H4.out.ck
          have htlt:=H4.out.F.lt
          have hrlt:=H4.out.O.lt
          have hclt:=H4.out.R.lt
          have hslt:=H4.out.S.slt
          obtain⟨v0,v1,v2,v3,v4,v5,v6,v7,vf⟩:=cells8 H4.out.S.sbx
          clear hv
          go_wp2_with fail
          exact⟨⟨l+1,by go_num,by omega,Hn⟩,by simp[intOf];omega⟩
      ·obtain rfl:c1=l:=by omega
       have i2:¬ (c1:Int)<(c1:Int):=by omega
       go_wp2_with fail
       exact⟨⟨p+1,ct,by go_num,by omega,zh H3.out.done⟩,by simp[intOf];omega⟩
    ·obtain rfl:q=p:=by omega
     have i1:¬ (q:Int)<(q:Int):=by omega
     obtain⟨hS,hF⟩:=H2.out.done
     have HS:=zh hS
     have HF:=zh hF
     clear hS hF
     go_wp2_with fail
     exact⟨⟨i,(i:Int)-1,Td,by go_num,by omega,by omega,HS,HF⟩,by simp[intOf]⟩
  ·obtain rfl:i1=0:=by omega
   go_wp2_with fail
   refine⟨rfl,.tuple #[],?_,HR.out.out _ _ ⟨rfl,tb,Tc,HS.out,HF.out⟩⟩
   simp[results,Tryz.results38,go_sem]
end
end
section
section
open Go.RowKit
def beF(f:Nat->Nat->Int)(l:Nat):Nat->Int×Nat
 |0=>(-1,0)
 |t+1=>if f t l≠-1/\((beF f l t).1 = -1\/f t l<(beF f l t).1) then (f t l,t) else beF f l t
theorem beF_no{f:Nat->Nat->Int}{l t:Nat}(h:¬ (f t l≠-1/\((beF f l t).1 = -1\/f t l<(beF f l t).1))):beF f l (t+1)=beF f l t:=by rw[beF,if_neg h]
theorem beF_yes{f:Nat->Nat->Int}{l t:Nat}(h:f t l≠-1/\((beF f l t).1 = -1\/f t l<(beF f l t).1)):beF f l (t+1)=(f t l,t):=by rw[beF,if_pos h]
theorem beF_ok(f:Nat->Nat->Int)(l:Nat):∀ q,(beF f l q).1≠-1->(beF f l q).2<q/\f (beF f l q).2 l=(beF f l q).1
 |0,h=>absurd rfl h
 |q+1,h=>by
  unfold beF at h ⊢
  split at h
  ·rename_i hc
   rw[if_pos hc]
   exact⟨Nat.lt_succ_self _,rfl⟩
  ·rename_i hc
   rw[if_neg hc]
   obtain⟨h1,h2⟩:=beF_ok f l q h
   exact⟨Nat.lt_succ_of_lt h1,h2⟩
def stF(V:Nat->Nat->Nat->Int)(k q p0 l0:Nat):Nat->Nat×Nat
 |0=>(p0,l0)
 |i+1=>((onF (V (i+1)) k (stF V k q p0 l0 i).1 (stF V k q p0 l0 i).2 q).2,(leftF (stF V k q p0 l0 i).1 (stF V k q p0 l0 i).2 (onF (V (i+1)) k (stF V k q p0 l0 i).1 (stF V k q p0 l0 i).2 q).2).toNat)
theorem sumI_snoc(l:List Int)(a:Int):sumI (l++[a])=sumI l+a:=by
 induction l with
 |nil=>simp[sumI]
 |cons b l ih=>rw[List.cons_append,sumI_cons,sumI_cons,ih];omega
theorem stF_ok{pr:Nat->Nat->Int}{k q n p0 l0:Nat}(hp0:p0<q)(_hn:1<=n)(h0:vF pr k q n (n-1) p0 l0≠-1) :
 ∀ i,i<n->(stF (λi=>vF pr k q n (n-1-i)) k q p0 l0 i).1<q/\(stF (λi=>vF pr k q n (n-1-i)) k q p0 l0 i).2<=l0/\
  vF pr k q n (n-1-i) (stF (λi=>vF pr k q n (n-1-i)) k q p0 l0 i).1 (stF (λi=>vF pr k q n (n-1-i)) k q p0 l0 i).2≠-1/\
  pr i (stF (λi=>vF pr k q n (n-1-i)) k q p0 l0 i).1≠-1/\
  (i+1<n->(onF (vF pr k q n (n-1-(i+1))) k (stF (λi=>vF pr k q n (n-1-i)) k q p0 l0 i).1 (stF (λi=>vF pr k q n (n-1-i)) k q p0 l0 i).2 q).1≠-1)/\
  vF pr k q n (n-1) p0 l0=sumI ((List.range i).map λj=>pr j (stF (λi=>vF pr k q n (n-1-i)) k q p0 l0 j).1)+vF pr k q n (n-1-i) (stF (λi=>vF pr k q n (n-1-i)) k q p0 l0 i).1 (stF (λi=>vF pr k q n (n-1-i)) k q p0 l0 i).2:=by
 intro i
 generalize hg:stF (λi=>vF pr k q n (n-1-i)) k q p0 l0=g
 have hV:∀ i p l,i<n->vF pr k q n (n-1-i) p l≠-1->pr i p≠-1/\(i+1<n->(onF (vF pr k q n (n-1-(i+1))) k p l q).1≠-1/\vF pr k q n (n-1-i) p l=pr i p+(onF (vF pr k q n (n-1-(i+1))) k p l q).1):=by
  intro i p l hi h
  rcases Nat.lt_or_ge (i+1) n with h1|h1
  ·rw[vF_step h1] at h
   by_cases a:pr i p = -1
   ·rw[if_pos a] at h;exact absurd rfl h
   rw[if_neg a] at h
   by_cases b:(onF (vF pr k q n (n-1-(i+1))) k p l q).1 = -1
   ·rw[if_pos b] at h;exact absurd rfl h
   exact⟨a,λ_=>⟨b,by rw[vF_step h1,if_neg a,if_neg b]⟩⟩
  ·rw[vF_last (by omega)] at h
   exact⟨h,λh2=>by omega⟩
 induction i with
 |zero =>
  intro hi
  have e:g 0=(p0,l0):=by rw[← hg];rfl
  rw[e]
  obtain⟨a,b⟩:=hV 0 p0 l0 hi h0
  exact⟨hp0,Nat.le_refl _,h0,a,λh=>(b h).1,by simp[sumI]⟩
 |succ i ih =>
  intro hi
  obtain⟨a1,a2,a3,a4,a5,a6⟩:=ih (by omega)
  have e:g (i+1)=((onF (vF pr k q n (n-1-(i+1))) k (g i).1 (g i).2 q).2,(leftF (g i).1 (g i).2 (onF (vF pr k q n (n-1-(i+1))) k (g i).1 (g i).2 q).2).toNat):=by rw[← hg];rfl
  obtain⟨b1,b2,b3⟩:=onF_ok _ k (g i).1 (g i).2 q (a5 hi)
  have hne:vF pr k q n (n-1-(i+1)) (g (i+1)).1 (g (i+1)).2≠-1:=by rw[e];dsimp only;rw[b3];exact a5 hi
  obtain⟨c1,c2⟩:=hV (i+1) _ _ hi hne
  refine⟨by rw[e];exact b1,?_,hne,c1,λh=>(c2 h).1,?_⟩
  ·rw[e]
   dsimp only
   unfold leftF at b2 ⊢
   split<;>omega
  ·rw[a6,(hV i _ _ (by omega) a3).2 hi |>.2,List.range_succ,List.map_append,List.map_singleton,sumI_snoc,Int.add_assoc]
   congr 2
   rw[e]
   exact b3.symm
theorem stF_sum{pr:Nat->Nat->Int}{k q n p0 l0:Nat}(hp0:p0<q)(hn:1<=n)(h0:vF pr k q n (n-1) p0 l0≠-1):vF pr k q n (n-1) p0 l0=sumI ((List.range n).map λj=>pr j (stF (λi=>vF pr k q n (n-1-i)) k q p0 l0 j).1):=by
 have h:=(stF_ok hp0 hn h0 (n-1) (by omega)).2.2.2.2.2
 rw[h,vF_last (i:=n-1) (by omega)]
 obtain⟨d,rfl⟩:∃ d,n=d+1:=⟨n-1,by omega⟩
 rw[Nat.add_sub_cancel,List.range_succ,List.map_append,List.map_singleton,sumI_snoc]
def prN(x:Sc)(k i p:Nat):Int:=prc x (x.co.getD i ⟨0,0,0,0⟩) (p/k,p%k)
theorem prN_rng{x:Sc}(h:ScOk x){i p:Nat}(hi:i<x.co.length)(hp:p<x.me.length*x.ga.length) : -1<=prN x x.ga.length i p/\prN x x.ga.length i p<=4000000000000000:=by
 have hk:=h.k
 have h1:p/x.ga.length<x.me.length:=Nat.div_lt_of_lt_mul (by rw[Nat.mul_comm];exact hp)
 have h2:p%x.ga.length<x.ga.length:=Nat.mod_lt _ (by omega)
 obtain⟨mt,s,g,hpk⟩:=h.pk _ _ h1 h2
 have hy:x.co[i]?=some (x.co[i]'hi):=List.getElem?_eq_getElem hi
 have hy2:x.co.getD i ⟨0,0,0,0⟩=x.co[i]'hi:=by rw[List.getD_eq_getElem?_getD,hy];rfl
 unfold prN
 rw[hy2,prc_eq hpk]
 have hr:=pric_range (d:=mt.D) (g:=g) hpk.D.2 hpk.gr.2 (h.co _ (List.getElem_mem hi))
 split
 ·omega
 ·omega
theorem lkp_pr{w W W':World}{A B G:Option Addr}{n c m d k e:Nat}{x:Sc}{pa ra:Option Addr}{pc rc sb:Nat}{outer:List Value}(h:LkP w W A n c B m d G k e x pa pc ra rc outer)(hs:sb=w.heap.size+1)(hk:Kx (λj=>j=sb) W W')(hq:0<m*k):PrR W' ra n (m*k) (prN x k):=by
 have t:=TblR.slr ⟨outer,h.tb.kxW hk (λj hj e=>by omega)⟩
 obtain⟨hl,hr⟩:=t
 intro i hi
 obtain⟨b,o,rfl,hb,hc⟩:=hr (by omega)
 rw[List.length_map] at hl
 have hy:x.co[i]?=some (x.co[i]'(by omega)):=List.getElem?_eq_getElem (by omega)
 have hy2:x.co.getD i ⟨0,0,0,0⟩=x.co[i]'(by omega):=by rw[List.getD_eq_getElem?_getD,hy];rfl
 obtain⟨Ai,ci,h1,h2⟩:=hc i _ (by rw[List.getElem?_map,hy];rfl)
 have hlen:((pks k (m*k)).map (prc x (x.co[i]'(by omega)))).length=m*k:=by rw[List.length_map,pks_len]
 rw[hlen] at h1 h2
 obtain⟨b',o',rfl,hb',hc'⟩:=h2.2.2 hq
 refine⟨b,o,b',o',ci,rfl,hb,hb',h1,λp hp=>?_⟩
 refine hc' p _ ?_
 have e:(((pks k (m*k)).map (prc x (x.co[i]'(by omega)))).flatMap intE)=((pks k (m*k)).map (prc x (x.co[i]'(by omega)))).map (λv=>Value.int .i64 v):=flat_one _ _
 rw[e,List.getElem?_map,List.getElem?_map,pks_get hp]
 unfold prN
 rw[hy2]
 rfl
end
end
end
section
section
open Go.RowKit
structure BsR(W:World)(bx sb tb:Nat)(A:Option Addr)(n c:Nat)(s1 s2 s3:Value)(ch:Nat)(pa:Option Addr)(q pc c1 k:Nat)(V:Nat->Nat->Nat->Int):Prop where
 box:W.heap[bx]?=some (.cells #[.slice A n c,s1,s2,s3,.int .i64 (ch:Nat)] 45 (0,0))
 onr:∀ i,i<n->∃ rb,OnR W sb tb rb pa q pc n i c1 k (V i)
theorem BsR.below{W W':World}{bx sb tb:Nat}{A:Option Addr}{n c:Nat}{s1 s2 s3:Value}{ch:Nat}{pa:Option Addr}{q pc c1 k:Nat}{V:Nat->Nat->Nat->Int}(h:BsR W bx sb tb A n c s1 s2 s3 ch pa q pc c1 k V)(hb:Below W.heap.size W W'):BsR W' bx sb tb A n c s1 s2 s3 ch pa q pc c1 k V:=
 ⟨(hb.block _ (Array.getElem?_eq_some_iff.1 h.box).1).trans h.box, fun i hi => by
   obtain⟨rb,h1⟩:=h.onr i hi
   exact⟨rb,h1.below hb⟩⟩
theorem BsR.blt{W:World}{bx sb tb:Nat}{A:Option Addr}{n c:Nat}{s1 s2 s3:Value}{ch:Nat}{pa:Option Addr}{q pc c1 k:Nat}{V:Nat->Nat->Nat->Int}(h:BsR W bx sb tb A n c s1 s2 s3 ch pa q pc c1 k V):bx<W.heap.size:=(Array.getElem?_eq_some_iff.1 h.box).1
theorem bsr_of{w W:World}{bx sb tb:Nat}{A:Option Addr}{n c:Nat}{s1 s2 s3:Value}{ch:Nat}{pa:Option Addr}{q pc:Nat}{ra:Option Addr}{rc c1 k:Nat}{V:Nat->Nat->Nat->Int}{Tc:Array Value}(hS:FlS w W sb tb A n c s1 s2 s3 ch pa q pc ra rc)(hF:Fi W W.heap.size tb n Tc 0 q c1 V)
 (hp:SlE pkE 2 W pa q (pks k q)) (hbx:w.heap[bx]?=some (.cells #[.slice A n c,s1,s2,s3,.int .i64 (ch:Nat)] 45 (0,0))) (hne:bx≠sb):BsR W bx sb tb A n c s1 s2 s3 ch pa q pc c1 k V:=by
 obtain⟨v0,v1,v2,v3,v4,v5,v6,v7,vf⟩:=cells8 hS.sbx
 refine⟨(hS.kx.block _ (Array.getElem?_eq_some_iff.1 hbx).1 hne).trans hbx,λi hi=>?_⟩
 obtain⟨rb',cs',a1,a2⟩:=hF.rows i (Nat.zero_le _) hi
 exact⟨rb',v5,v7,hS.slt,hF.lt,a2.lt,hp,hF.cell a1,λt ht=>by
  obtain⟨cb',b1,b2,b3,b4⟩:=a2.rows t ht
  exact⟨cb',b4.lt,a2.cell b1,λl hl=>b4.read hl⟩⟩
def bestV(x:Sc)(m k:Nat):Nat->Nat->Nat->Int:=λi=>vF (prN x k) k (m*k) x.co.length (x.co.length-1-i)
def bestG(x:Sc)(m k:Nat)(j:Nat):Nat:=(stF (bestV x m k) k (m*k) (beF (bestV x m k 0) x.ch.toNat (m*k)).2 x.ch.toNat j).1
def chgN(g:Nat->Nat):Nat->Nat
 |0=>0
 |j+1=>chgN g j+(if g (j+1)=g j then 0 else 1)
theorem onF_fol(f:Nat->Nat->Int)(k from' left:Nat):∀ q,(onF f k from' left q).1≠-1->folB k from' (onF f k from' left q).2=true
 |0,h=>absurd rfl h
 |q+1,h=>by
  unfold onF at h ⊢
  split at h
  ·rename_i hc
   rw[if_pos hc]
   exact hc.2.1
  ·rename_i hc
   rw[if_neg hc]
   exact onF_fol f k from' left q h
theorem stF_chg{pr:Nat->Nat->Int}{k q n p0 l0:Nat}(hp0:p0<q)(hn:1<=n)(h0:vF pr k q n (n-1) p0 l0≠-1) :
 ∀ i,i<n->chgN (λj=>(stF (λi=>vF pr k q n (n-1-i)) k q p0 l0 j).1) i+(stF (λi=>vF pr k q n (n-1-i)) k q p0 l0 i).2=l0/\
  (i+1<n->folB k (stF (λi=>vF pr k q n (n-1-i)) k q p0 l0 i).1 (stF (λi=>vF pr k q n (n-1-i)) k q p0 l0 (i+1)).1=true):=by
 intro i
 have hS:=stF_ok hp0 hn h0
 generalize hg:stF (λi=>vF pr k q n (n-1-i)) k q p0 l0=g at hS
 have hst:∀ i,g (i+1)=((onF (vF pr k q n (n-1-(i+1))) k (g i).1 (g i).2 q).2,(leftF (g i).1 (g i).2 (onF (vF pr k q n (n-1-(i+1))) k (g i).1 (g i).2 q).2).toNat):=by intro i;rw[← hg];rfl
 have hfol:∀ i,i+1<n->folB k (g i).1 (g (i+1)).1=true:=by
  intro i hi
  rw[hst i]
  exact onF_fol _ k _ _ q ((hS i (by omega)).2.2.2.2.1 hi)
 refine λhi=>⟨?_,hfol i⟩
 induction i with
 | zero => have e : g 0 = (p0, l0) := by rw [← hg]; rfl
           rw[e];simp[chgN]
 |succ i ih =>
  have h1:=ih (by omega)
  obtain⟨b1,b2,b3⟩:=onF_ok _ k (g i).1 (g i).2 q ((hS i (by omega)).2.2.2.2.1 hi)
  have e1:(g (i+1)).1=(onF (vF pr k q n (n-1-(i+1))) k (g i).1 (g i).2 q).2:=by rw[hst i]
  have e2:(g (i+1)).2=(leftF (g i).1 (g i).2 (g (i+1)).1).toNat:=by rw[e1,hst i]
  rw[← e1] at b2
  rw[chgN,e2]
  unfold leftF at b2 ⊢
  split<;>split at b2<;>first|omega|(rename_i h2 h3;exact absurd h2 h3)|(rename_i h2 h3;exact absurd h3 h2)
def BestO(x:Sc)(m k:Nat)(e:Ending)(W:World):Prop:=
 (scB x=false/\e=.returned (.tuple #[.slice none 0 0,.int .i64 0,.int .i64 1]))\/(scB x=true/\(beF (bestV x m k 0) x.ch.toNat (m*k)).1 = -1/\e=.returned (.tuple #[.slice none 0 0,.int .i64 0,.int .i64 6]))\/
  (scB x=true/\(beF (bestV x m k 0) x.ch.toNat (m*k)).1≠-1/\(∃ (A:Option Addr) (c:Nat),e=.returned (.tuple #[.slice A x.co.length c,.int .i64 (sumI ((List.range x.co.length).map λi=>prN x k i (bestG x m k i))),.int .i64 0])/\
   SlE pkE 2 W A x.co.length ((List.range x.co.length).map λi=>(bestG x m k i/k,bestG x m k i%k)))/\(∀ i,i<x.co.length->bestG x m k i<m*k/\prN x k i (bestG x m k i)≠-1/\(i+1<x.co.length->folB k (bestG x m k i) (bestG x m k (i+1))=true))/\(chgN (bestG x m k) (x.co.length-1):Int)<=x.ch)
theorem stF_next{V:Nat->Nat->Nat->Int}{k q p0 l0 j p l y L:Nat}{x:Int}(h:stF V k q p0 l0 j=(p,l))(hr:onF (V (j+1)) k p l q=(x,y))(hL:leftF p l y=(L:Int)):stF V k q p0 l0 (j+1)=(y,L):=by
 rw[stF,h]
 dsimp only
 rw[hr]
 dsimp only
 rw[hL,Int.toNat_natCast]
def outL(V:Nat->Nat->Nat->Int)(k q p0 l0 j:Nat):List Value:=((List.range (j+1)).map λj=>((stF V k q p0 l0 j).1/k,(stF V k q p0 l0 j).1%k)).flatMap pkE
theorem stF_one(V:Nat->Nat->Nat->Int)(k q p0 l0:Nat):outL V k q p0 l0 0=[.int .i64 (p0/k:Nat),.int .i64 (p0%k:Nat)]:=rfl
theorem stF_more{V:Nat->Nat->Nat->Int}{k q p0 l0 j y L a b:Nat}(h:stF V k q p0 l0 (j+1)=(y,L))(ha:y/k=a)(hb:y%k=b) :
 outL V k q p0 l0 j++[.int .i64 (a:Nat),.int .i64 (b:Nat)]=outL V k q p0 l0 (j+1):=by
 unfold outL
 rw[List.range_succ (n:=j+1),List.map_append,List.map_singleton,h,pk_flat,← ha,← hb]
theorem wbest_any(A:Option Addr)(n c:Nat)(B:Option Addr)(m d:Nat)(G:Option Addr)(k e:Nat)(x:Sc)(w:World)(h:ScM w A n c B m d G k e x)(hr:∀ y∈x.co,InR y.T/\InR y.W) :
 Calls Tryz.prog 13 #[.agg (scA A n c B m d G k e x)] w λe' w'=>BestO x m k e' w'/\Below w.heap.size w w':=by
 refine calls_cps ?_
 intro R hR
 have H:=zh h
 have Hck:=zh (λW (hb:Below w.heap.size w W)=>wcheck_any A n c B m d G k e x W (h.below hb))
 cases hB:scB x with
 |false =>
  rw[hB] at Hck
  have HF:=zh (λW (hb:Below w.heap.size w W)=>hR.out _ W ⟨.inl ⟨hB,rfl⟩,hb⟩)
  clear hR h hB hr
  obtain⟨co,me,ga,sf,cg⟩:=x
  unfold scA at Hck ⊢
  dsimp only at Hck ⊢
  go_enter Tryz.func13,Tryz.ntmps13
  go_upto_region 1 with fail
  have Hb1:=zh (below_new w (.cells #[.slice A n c,.slice B m d,.slice G k e,.int .i64 sf,.int .i64 cg] 45))
  obtain⟨u0,u1,u2,u3,u4,-⟩:=cells5 (heap_alloc_new w (.cells #[.slice A n c,.slice B m d,.slice G k e,.int .i64 sf,.int .i64 cg] 45))
  go_wp2_with ((with_reducible refine (Hck.out _ Hb1.out).mono ?_);rintro e' w3 ⟨rfl,hb3⟩)
  refine bodyPost_ret (v:=.tuple #[.slice none 0 0,.int .i64 0,.int .i64 1]) ?_ rfl (HF.out _ (Hb1.out.trans (hb3.mono Hb1.out.size)))
  simp[results,Tryz.results13,go_sem]
 |true =>
  have hok:=scB_ok hB hr
  have hnl:=H.out.co.1
  have hml:=H.out.me.1
  have hkl:=H.out.ga.1
  have Hok:=zh hok
  have hn1:=hok.n
  have hm1:=hok.m
  have hk1:=hok.k
  have hc1:=hok.ch
  rw[← hnl] at hn1
  rw[← hml] at hm1
  rw[← hkl] at hk1
  rw[hB] at Hck
  have HB:=zh hB
  have Hlk:=zh (λW (hb:Below w.heap.size w W)=>look_any A n c B m d G k e x W (h.below hb) (by omega) (by omega) (by omega) hok)
  have Hpn:=zh (λi p (hi:i<n) (hp:p<m*k)=>prN_rng hok (i:=i) (p:=p) (by rw[← hnl];exact hi) (by rw[← hml,← hkl];exact hp))
  rw[← hkl] at Hpn
  have HNL:=zh hnl
  clear h hB hr hok hml hkl hnl
  obtain⟨co,me,ga,sf,cg⟩:=x
  unfold scA at Hck Hlk ⊢
  dsimp only at Hck Hlk hc1 HNL ⊢
  obtain⟨ch,rfl⟩:∃ ch:Nat,cg=(ch:Int):=⟨cg.toNat,by omega⟩
  go_enter Tryz.func13,Tryz.ntmps13
  go_upto_region 1 with fail
  have Hb1:=zh (below_new w (.cells #[.slice A n c,.slice B m d,.slice G k e,.int .i64 sf,.int .i64 (ch:Nat)] 45))
  have Hx1:=zh (heap_alloc_new w (.cells #[.slice A n c,.slice B m d,.slice G k e,.int .i64 sf,.int .i64 (ch:Nat)] 45))
  obtain⟨w1,hw1⟩:∃ w1,w.alloc (.cells #[.slice A n c,.slice B m d,.slice G k e,.int .i64 sf,.int .i64 (ch:Nat)] 45)=w1:=⟨_,rfl⟩
  rw[hw1] at Hb1 Hx1 ⊢
  clear hw1
  obtain⟨u0,u1,u2,u3,u4,-⟩:=cells5 Hx1.out
  obtain⟨bx,hbx⟩:∃ bx,w.heap.size=bx:=⟨_,rfl⟩
  have Hbx:=zh hbx
  rw[hbx] at Hx1 u0 u1 u2 u3 u4 ⊢
  clear hbx
  go_upto_region 4 with ((with_reducible refine (Hck.out _ Hb1.out).mono ?_);rintro e' w2 ⟨rfl,hb2⟩;have Hb2:=zh (Hb1.out.trans (hb2.mono Hb1.out.size));have Hx2:=zh ((hb2.block _ (Array.getElem?_eq_some_iff.1 Hx1.out).1).trans Hx1.out);clear hb2)
  clear u0 u1 u2 u3 u4
  obtain⟨u0,u1,u2,u3,u4,-⟩:=cells5 Hx2.out
  go_upto_region 5 with ((with_reducible refine (Hlk.out w2 Hb2.out).mono ?_);rintro e' w3 ⟨pa,pc,ra,rc,outer,rfl,hlk⟩;have HL:=zh hlk;clear hlk)
  clear u0 u1 u2 u3 u4 Hck Hlk
  obtain⟨q,hq⟩:∃ q,m*k=q:=⟨_,rfl⟩
  have hq1:0<m*k:=Nat.mul_pos (by omega) (by omega)
  have hq64:q<=64:=by have:=Nat.mul_le_mul (show m<=4 by omega) (show k<=16 by omega);omega
  have Hpr:=zh (λW (hk:Kx (λj=>j=w2.heap.size+1) w3 W)=>lkp_pr HL.out rfl hk hq1)
  have Hpk:=zh (λW (hk:Kx (λj=>j=w2.heap.size+1) w3 W)=>SlE.of_own (own_of_kxW HL.out.pk hk (λj hj e=>by omega)) (pks_len k (m*k)).symm)
  have hsb3:=HL.out.sb
  dsimp only at hsb3
  have Hx3:=zh ((HL.out.hb.block _ (Array.getElem?_eq_some_iff.1 Hx2.out).1).trans Hx2.out)
  have Hb3:=zh (Hb2.out.trans (HL.out.hb.mono Hb2.out.size))
  have hbl:=(Array.getElem?_eq_some_iff.1 Hx2.out).1
  have Hlo:=zh (show w.heap.size<=w2.heap.size+1 from Nat.le_succ_of_le Hb2.out.size)
  obtain⟨sb,hsb⟩:∃ sb,w2.heap.size+1=sb:=⟨_,rfl⟩
  have hbs:bx≠sb:=by omega
  rw[hq] at Hpr Hpk hsb3 Hpn hq1
  rw[hsb] at Hpr Hpk hsb3 Hlo ⊢
  have Hq:=zh hq
  have Hfl:=zh (wfill_any sb A n c (.slice B m d) (.slice G k e) (.int .i64 sf) (.slice none 0 0) ch pa q pc ra rc k (prN ⟨co,me,ga,sf,(ch:Int)⟩ k) w3 hsb3 Hpk.out Hpr.out Hpn.out (by omega) (by omega) hq64 (by omega))
  clear hsb3 hsb hbl hq Hpr HL Hx2 Hb2 Hb1 Hx1
  go_upto_region 6 with ((with_reducible refine Hfl.out.mono ?_);rintro e' w4 ⟨rfl,tb,Tc,hS,hF⟩;have HR4:=zh (bsr_of hS hF (Hpk.out w4 hS.kx) Hx3.out hbs);have Hb4:=zh (Kx.low Hb3.out hS.kx (λj hj=>by rw[hj];exact Hlo.out) Hb3.out.size);clear hS hF)
  clear Hfl Hpk Hx3 Hb3 Hlo
  obtain⟨V,hV⟩:∃ V,(λi=>vF (prN ⟨co,me,ga,sf,(ch:Int)⟩ k) k q n (n-1-i))=V:=⟨_,rfl⟩
  rw[hV] at HR4
  have HV:=zh hV
  clear hV Hbx
  obtain⟨c1,hc1'⟩:∃ c1,ch+1=c1:=⟨_,rfl⟩
  rw[hc1'] at HR4
  obtain⟨rb0,ho⟩:=HR4.out.onr 0 (by omega)
  have o5:=ho.c5
  have os:=ho.lsb
  clear ho
  go_wp2_with fail
  clear o5 os
  go_loopw [7,8,9,10,30] (λs7 s8 _ _ s30 wr=>∃ (t:Nat) (r:Int×Nat),s30=.int .i64 (t:Nat)/\t<=q/\s7=.int .i64 r.1/\s8=.int .i64 (r.2:Nat)/\Hid (r=beF (V 0) ch t)/\Hid (Below w4.heap.size w4 wr)) (λ_ _ _ _ s30 _=>q-(intOf s30).toNat)
  case atStart=>exact⟨0,(-1,0),rfl,Nat.zero_le _,rfl,rfl,zh rfl,zh (Below.refl _ _)⟩
  case round =>
   obtain⟨t,⟨x,y⟩,rfl,ht,rfl,rfl,Hx,HW⟩:=hrel
   by_cases hlt:t<q
   ·have i1:(t:Int)<(q:Int):=by omega
    have HRw:=zh (HR4.out.below HW.out)
    have hblt:=HRw.out.blt
    obtain⟨u0,u1,u2,u3,u4,-⟩:=cells5 HRw.out.box
    obtain⟨rb,o5,o7,os,ot,orr,-,oc,oro⟩:=HRw.out.onr 0 (by omega)
    obtain⟨cb,v1,v2,v3⟩:=oro t hlt
    have v4:=v3 ch (by omega)
    obtain⟨cc,hcc⟩:∃ cc,V 0 t ch=cc:=⟨_,rfl⟩
    rw[hcc] at v4
    have Hcc:=zh hcc
    have Hx1:=zh (show (beF (V 0) ch t).1=x from by rw[← Hx.out])
    clear oro v3 hcc
    have i3:(ch:Int)<(c1:Int):=by omega
    have i4:(0:Int)<(n:Int):=by omega
    go_upto_region 10 with fail
    go_quiet (fail)
    go_upto_region 11 with fail
    have HW2:=zh (λj=>below_drewW HW.out j)
    clear u0 u1 u2 u3 u4 o5 o7 os ot orr oc v1 v2 v4
    by_cases h1:cc = -1
    ·have Hn:=zh (Hx.out.trans (beF_no (f:=V 0) (l:=ch) (t:=t) (λhh=>hh.1 (by rw[Hcc.out];exact h1))).symm)
     go_wp2_with fail
     exact⟨⟨t+1,(x,y),by go_num,by omega,rfl,rfl,Hn,zh (HW2.out _)⟩,by simp[intOf];omega⟩
    ·have h1b:(cc != -1)=true:=by simpa using h1
     by_cases h2:x = -1
     ·have Hn:=zh (show (cc,t)=beF (V 0) ch (t+1) from by rw[beF_yes ⟨by rw[Hcc.out];exact h1,.inl (by rw[Hx1.out];exact h2)⟩,Hcc.out])
      go_wp2_with fail
      exact⟨⟨t+1,(cc,t),by go_num,by omega,rfl,rfl,Hn,zh (HW2.out _)⟩,by simp[intOf];omega⟩
     ·have h2b:(x == -1)=false:=by simpa using h2
      by_cases h3:cc<x
      ·have Hn:=zh (show (cc,t)=beF (V 0) ch (t+1) from by rw[beF_yes ⟨by rw[Hcc.out];exact h1,.inr (by rw[Hx1.out,Hcc.out];exact h3)⟩,Hcc.out])
       go_wp2_with fail
       exact⟨⟨t+1,(cc,t),by go_num,by omega,rfl,rfl,Hn,zh (HW2.out _)⟩,by simp[intOf];omega⟩
      ·have Hn:=zh (Hx.out.trans (beF_no (f:=V 0) (l:=ch) (t:=t) (λhh=>hh.2.elim (λh=>h2 (by rw[← Hx1.out];exact h)) (λh=>h3 (by rw[Hx1.out,Hcc.out] at h;exact h)))).symm)
       have h5:decide (cc<x)=false:=decide_eq_false h3
       clear h3
       go_wp2_with fail
       exact⟨⟨t+1,(x,y),by go_num,by omega,rfl,rfl,Hn,zh (HW2.out _)⟩,by simp[intOf];omega⟩
   ·obtain rfl:q=t:=by omega
    have i1:¬ (q:Int)<(q:Int):=by omega
    have HR5:=zh (HR4.out.below HW.out)
    have Hb5:=zh (Hb4.out.trans (HW.out.mono Hb4.out.size))
    obtain⟨w5,rfl⟩:∃ w5,w5=wr:=⟨_,rfl⟩
    clear HR4 Hb4 HW
    have hbv:bestV ⟨co,me,ga,sf,(ch:Nat)⟩ m k=V:=by rw[← HV.out];unfold bestV;dsimp only;rw[← HNL.out,Hq.out]
    have hbf:beF (bestV ⟨co,me,ga,sf,(ch:Nat)⟩ m k 0) (Sc.ch ⟨co,me,ga,sf,(ch:Nat)⟩).toNat (m*k)=(x,y):=by rw[hbv,Hq.out];exact Hx.out.symm
    have HV0:=zh (show (beF (bestV ⟨co,me,ga,sf,(ch:Nat)⟩ m k 0) (Sc.ch ⟨co,me,ga,sf,(ch:Nat)⟩).toNat (m*k)).1=x from by rw[hbf])
    have Hbg:=zh (show bestG ⟨co,me,ga,sf,(ch:Nat)⟩ m k=λj=>(stF V k q y ch j).1 from by funext j;unfold bestG;rw[hbf,hbv,Hq.out];rfl)
    clear hbv hbf
    by_cases h1:x = -1
    ·subst h1
     go_wp2_with fail
     refine bodyPost_ret (v:=.tuple #[.slice none 0 0,.int .i64 0,.int .i64 6]) ?_ rfl (hR.out _ _ ⟨.inr (.inl ⟨HB.out,HV0.out,rfl⟩),Hb5.out⟩)
     simp[results,Tryz.results13,go_sem]
    ·have h1b:(x == -1)=false:=by simpa using h1
     obtain⟨hy,hv0⟩:=beF_ok (V 0) ch q (by rw[← Hx.out];exact h1)
     rw[← Hx.out] at hy hv0
     dsimp only at hy hv0
     have hne:vF (prN ⟨co,me,ga,sf,(ch:Int)⟩ k) k q n (n-1) y ch≠-1:=by
      have e:vF (prN ⟨co,me,ga,sf,(ch:Int)⟩ k) k q n (n-1) y ch=V 0 y ch:=by rw[← HV.out];rfl
      rw[e,hv0];exact h1
     have Hst:=zh (stF_ok hy (by omega) hne)
     have Hsum:=zh (stF_sum hy (by omega) hne)
     have Hcg:=zh (stF_chg hy (by omega) hne)
     have Hxs:=zh (show x=vF (prN ⟨co,me,ga,sf,(ch:Int)⟩ k) k q n (n-1) y ch from by rw[← hv0,← HV.out];rfl)
     rw[HV.out] at Hst Hsum Hcg
     clear hne hv0 Hx
     obtain⟨rb,ho⟩:=HR5.out.onr 0 (by omega)
     obtain⟨pb,po,pl,hpa,hpl,hpg,c0,c1'⟩:=ho.pk.at2k hy
     obtain rfl:=Option.some.inj ((pks_get hy).symm.trans hpg)
     dsimp only at c0 c1'
     have o5:=ho.c5
     rw[hpa] at o5
     have os:=ho.lsb
     have H1:=stF_one V k q y ch
     obtain⟨a0,ha0⟩:∃ a,y/k=a:=⟨_,rfl⟩
     obtain⟨b0,hb0⟩:∃ b,y%k=b:=⟨_,rfl⟩
     rw[ha0] at c0 H1
     rw[hb0] at c1' H1
     have j5:(y:Int)<(q:Int):=by omega
     have ho0:(w5.alloc (.cells #[.int .i64 (a0:Nat),.int .i64 (b0:Nat)] 55)).ownsRow w5.heap.size 55 2 (.slice (some ⟨w5.heap.size,0,none⟩) (0+1) 1) (0+1) (outL V k q y ch 0):=by
      rw[H1]
      exact own_at (sz:=2) (n:=1) (heap_alloc_new w5 (.cells #[.int .i64 (a0:Nat),.int .i64 (b0:Nat)] 55)) rfl (Nat.le_refl _) (by unfold maxLen;omega)
     have HO:=zh ho0
     have HW:=zh (below_new w5 (.cells #[.int .i64 (a0:Nat),.int .i64 (b0:Nat)] 55))
     clear ho hpg ha0 hb0 H1 ho0
     go_upto_region 17 with fail
     clear c0 c1' o5 os j5 hpl hpa
     obtain⟨w6,hw6⟩:∃ w6,w5.alloc (.cells #[.int .i64 (a0:Nat),.int .i64 (b0:Nat)] 55)=w6:=⟨_,rfl⟩
     rw[hw6] at HO HW ⊢
     clear hw6
     have HR6:=zh (HR5.out.below HW.out)
     have hblt:=HR6.out.blt
     obtain⟨u0,u1,u2,u3,u4,-⟩:=cells5 HR6.out.box
     go_wp2_with fail
     clear u0 u1 u2 u3 u4 hblt HR6
     go_loopw [8,11,12,13,14,15] (λs8 s11 s12 s13 _ _ wr=>∃ (j p l:Nat) (z:Int) (oa:Option Addr) (oc:Nat),s13=.int .i64 z/\z=(j:Int)+1/\j<n/\s8=.int .i64 (p:Nat)/\s12=.int .i64 (l:Nat)/\s11=.slice oa (j+1) oc/\Hid (stF V k q y ch j=(p,l))/\
      Hid (wr.ownsRow w5.heap.size 55 2 (.slice oa (j+1) oc) (j+1) (outL V k q y ch j))/\Hid (Below w5.heap.size w5 wr)) (λ_ _ _ s13 _ _ _=>n-(intOf s13).toNat)
     case atStart=>exact⟨0,y,ch,1,_,_,rfl,rfl,by omega,rfl,rfl,rfl,zh rfl,HO,HW⟩
     case round =>
      clear HO HW
      obtain⟨j,p,l,z,oa,oc,rfl,hz,hj,rfl,rfl,rfl,Hs,HO,HW⟩:=hrel
      have HRw:=zh (HR5.out.below HW.out)
      have hblt:=HRw.out.blt
      obtain⟨u0,u1,u2,u3,u4,-⟩:=cells5 HRw.out.box
      by_cases hlt2:z<n
      ·have hj2:j+1<n:=by omega
       have hz1:z-1=(j:Int):=by omega
       obtain⟨rb',hon⟩:=HRw.out.onr (j+1) hj2
       obtain⟨s1,s2,-,-,s5,-⟩:=Hst.out j hj
       have e1:(stF V k q y ch j).1=p:=by rw[Hs.out]
       have e2:(stF V k q y ch j).2=l:=by rw[Hs.out]
       rw[e1] at s1 s5
       rw[e2] at s2 s5
       have s6:=s5 hj2
       obtain⟨r,hr⟩:∃ r,onF (V (j+1)) k p l q=r:=⟨_,rfl⟩
       have hV1:vF (prN ⟨co,me,ga,sf,(ch:Int)⟩ k) k q n (n-1-(j+1))=V (j+1):=by rw[← HV.out]
       rw[hV1] at s6
       obtain⟨b1,b2,-⟩:=onF_ok _ k p l q s6
       rw[hr] at b1 b2
       have Hon:=zh (onward_any sb tb rb' pa q pc n c1 k (V (j+1)) j p l wr hon hj2 (by omega) s1 (by omega) (by omega) (by omega))
       rw[hr] at Hon
       obtain⟨x1,y1⟩:=r
       dsimp only at Hon b1 b2
       have hy1:=b1
       have hl96:l<=96:=by omega
       have Hr:=zh hr
       clear hon s1 s2 s5 s6 e1 e2 hr hV1 b1
       go_upto_region 22 with ((with_reducible refine Hon.out.mono ?_);rintro e' w6 ⟨rfl,hb6⟩;have HW6:=zh (HW.out.trans (hb6.mono HW.out.size));have HO6:=zh (ownsRow_below HO.out hb6);clear hb6)
       clear u0 u1 u2 u3 u4 hblt HRw
       obtain⟨rb3,ho3⟩:=(HR5.out.below HW6.out).onr 0 (by omega)
       by_cases hyp:y1=p
       ·have hL:=leftF_eq (a:=p) (l:=l) hyp
        have Hnx:=zh (show stF V k q y ch (j+1)=(p,l) from by have h:=stF_next Hs.out Hr.out hL;rwa [hyp] at h)
        have hypi:(y1:Int)=(p:Int):=by omega
        have hp1:p<q:=by omega
        clear hL b2
        obtain⟨pb,po,pl,hpa,hpl,hpg,c0,c1'⟩:=ho3.pk.at2k hp1
        obtain rfl:=Option.some.inj ((pks_get hp1).symm.trans hpg)
        dsimp only at c0 c1'
        have o5:=ho3.c5
        rw[hpa] at o5
        have os:=ho3.lsb
        obtain⟨a0,ha0⟩:∃ a,p/k=a:=⟨_,rfl⟩
        obtain⟨b0,hb0⟩:∃ b,p%k=b:=⟨_,rfl⟩
        have Hmore:=zh (stF_more Hnx.out ha0 hb0)
        rw[ha0] at c0
        rw[hb0] at c1'
        have j5:(p:Int)<(q:Int):=by omega
        have hbase:w5.heap.size<=w6.heap.size:=HW6.out.size
        clear ho3 hpg ha0 hb0
        go_wp2_with (at_builtin;refine wpList_app rfl (.tmp 94) (.tmp 102) _ rfl elemPick w5.heap.size _ _ _ rfl (HO6.out.kept (World.grownBy_alloc w6 _ none) (by cases (Value.slice oa (j+1) oc).ownBlock<;>simp)) _ _ _ _ rfl (Sl.new _ _ _ 2 1 rfl) (by simp[Value.oneCell']) (by unfold maxLen;omega) (by omega) (by simp;omega) ?_;intro A1 c1'' w7 ho7 hg7 _)
        have HW7:=zh (Kx.low HW6.out (own_kxW HO6.out hg7) (λj h=>h) hbase)
        have HO7:=zh (show w7.ownsRow w5.heap.size 55 2 (.slice A1 (j+1+1) c1'') (j+1+1) (outL V k q y ch (j+1)) from by rw[← Hmore.out];exact ho7)
        clear ho7 hg7
        first|exact⟨⟨j+1,p,l,z+1,A1,c1'',by go_num,by omega,by omega,rfl,rfl,rfl,Hnx,HO7,HW7⟩,by simp[intOf];omega⟩|exact⟨⟨_,_,_,_,⟨j+1,p,l,(j:Int)+1+1,rfl,by omega,by omega,rfl,rfl,A1,c1'',rfl,Hnx,HO7,HW7⟩,rfl,rfl,rfl,rfl⟩,by simp[intOf];omega⟩
       ·have hL:=leftF_ne (a:=p) (l:=l) hyp
        rw[hL] at b2
        obtain⟨l2,hl2⟩:∃ l2:Nat,(l:Int)-1=(l2:Int):=⟨l-1,by omega⟩
        have Hnx:=zh (stF_next Hs.out Hr.out (hL.trans hl2))
        have hypi:¬ (y1:Int)=(p:Int):=by omega
        have hl97:l2<=96:=by omega
        clear hL b2
        obtain⟨pb,po,pl,hpa,hpl,hpg,c0,c1'⟩:=ho3.pk.at2k hy1
        obtain rfl:=Option.some.inj ((pks_get hy1).symm.trans hpg)
        dsimp only at c0 c1'
        have o5:=ho3.c5
        rw[hpa] at o5
        have os:=ho3.lsb
        obtain⟨a0,ha0⟩:∃ a,y1/k=a:=⟨_,rfl⟩
        obtain⟨b0,hb0⟩:∃ b,y1%k=b:=⟨_,rfl⟩
        have Hmore:=zh (stF_more Hnx.out ha0 hb0)
        rw[ha0] at c0
        rw[hb0] at c1'
        have j5:(y1:Int)<(q:Int):=by omega
        have hbase:w5.heap.size<=w6.heap.size:=HW6.out.size
        clear ho3 hpg ha0 hb0
        go_wp2_with (at_builtin;refine wpList_app rfl (.tmp 94) (.tmp 102) _ rfl elemPick w5.heap.size _ _ _ rfl (HO6.out.kept (World.grownBy_alloc w6 _ none) (by cases (Value.slice oa (j+1) oc).ownBlock<;>simp)) _ _ _ _ rfl (Sl.new _ _ _ 2 1 rfl) (by simp[Value.oneCell']) (by unfold maxLen;omega) (by omega) (by simp;omega) ?_;intro A1 c1'' w7 ho7 hg7 _)
        have HW7:=zh (Kx.low HW6.out (own_kxW HO6.out hg7) (λj h=>h) hbase)
        have HO7:=zh (show w7.ownsRow w5.heap.size 55 2 (.slice A1 (j+1+1) c1'') (j+1+1) (outL V k q y ch (j+1)) from by rw[← Hmore.out];exact ho7)
        clear ho7 hg7
        first|exact⟨⟨j+1,y1,l2,z+1,A1,c1'',by go_num,by omega,by omega,rfl,rfl,rfl,Hnx,HO7,HW7⟩,by simp[intOf];omega⟩|exact⟨⟨_,_,_,_,⟨j+1,y1,l2,(j:Int)+1+1,rfl,by omega,by omega,rfl,rfl,A1,c1'',rfl,Hnx,HO7,HW7⟩,rfl,rfl,rfl,rfl⟩,by simp[intOf];omega⟩
      ·obtain rfl:n=j+1:=by omega
       go_wp2_with fail
       have hres:=hR.out (.returned (.tuple #[.slice oa (j+1) oc,.int .i64 x,.int .i64 0])) wr ⟨.inr (.inr ⟨HB.out,λhe=>h1 (HV0.out.symm.trans he),⟨oa,oc,by rw[Hbg.out,Hxs.out,Hsum.out,← HNL.out],by rw[Hbg.out];dsimp only;rw[← HNL.out];exact SlE.of_own (show wr.ownsRow w5.heap.size 55 2 (.slice oa (j+1) oc) (j+1) (((List.range (j+1)).map λj=>((stF V k q y ch j).1/k,(stF V k q y ch j).1%k)).flatMap pkE) from HO.out) (by simp)⟩,λi hi=>by
        dsimp only at hi ⊢
        rw[← HNL.out] at hi ⊢
        rw[Hbg.out]
        obtain⟨s1,s2,s3,s4,-⟩:=Hst.out i hi
        exact⟨by rw[Hq.out];exact s1,s4,(Hcg.out i hi).2⟩,by
         rw[Hbg.out]
         dsimp only
         rw[← HNL.out]
         have:=(Hcg.out (j+1-1) (by omega)).1
         omega⟩),Hb5.out.trans (HW.out.mono Hb5.out.size)⟩
       refine bodyPost_ret (v:=.tuple #[.slice oa (j+1) oc,.int .i64 x,.int .i64 0]) ?_ rfl hres
       simp[results,Tryz.results13,go_sem]
end
end
section
section
section
open Go.RowKit
def fitC(b:Bool)(l n:Nat):Int:=if b then if l=n then 0 else 2 else 1
theorem wfits_any(A:Option Addr)(n c:Nat)(B:Option Addr)(m d:Nat)(G:Option Addr)(k e:Nat)(x:Sc)(P:Option Addr)(np pc:Nat)(L:List (Nat×Nat))(w:World)(h:ScM w A n c B m d G k e x)(hp:SlE pkE 2 w P np L)(hr:∀ p∈L,p.1<m/\p.2<k)(hn:np<=1000) :
 Calls Tryz.prog 40 #[.agg (scA A n c B m d G k e x),.slice P np pc] w λe' w'=>e'=.returned (.int .i64 (fitC (scB x) np n))/\Below w.heap.size w w':=by
 refine calls_cps ?_
 intro R hR
 have H:=zh h
 have Hp:=zh hp
 have Hck:=zh (λW (hb:Below w.heap.size w W)=>wcheck_any A n c B m d G k e x W (h.below hb))
 have HR:=zh (show ∀ i,i=fitC (scB x) np n->∀ W,Below w.heap.size w W->R (.returned (.int .i64 i)) W from λi hi W g=>hR.out _ _ ⟨by rw[hi],g⟩)
 clear h hp hR
 have hnn:=H.out.n
 have hmm:=H.out.m
 have hkk:=H.out.k
 cases hB:scB x with
 |false =>
  rw[hB] at Hck HR
  have HF:=zh (HR.out 1 rfl)
  clear HR
  obtain⟨co,me,ga,sf,cg⟩:=x
  unfold scA at Hck ⊢
  dsimp only at Hck ⊢
  go_enter Tryz.func40,Tryz.ntmps40
  go_upto_region 1 with fail
  have Hb1:=zh (below_new w (.cells #[.slice A n c,.slice B m d,.slice G k e,.int .i64 sf,.int .i64 cg] 45))
  obtain⟨u0,u1,u2,u3,u4,-⟩:=cells5 (heap_alloc_new w (.cells #[.slice A n c,.slice B m d,.slice G k e,.int .i64 sf,.int .i64 cg] 45))
  go_wp2_with ((with_reducible refine (Hck.out _ Hb1.out).mono ?_);rintro e' w3 ⟨rfl,hb3⟩)
  exact HF.out _ (Hb1.out.trans (hb3.mono Hb1.out.size))
 |true =>
  rw[hB] at Hck HR
  obtain⟨co,me,ga,sf,cg⟩:=x
  unfold scA at Hck ⊢
  dsimp only at Hck ⊢
  go_enter Tryz.func40,Tryz.ntmps40
  go_upto_region 1 with fail
  have Hb1:=zh (below_new w (.cells #[.slice A n c,.slice B m d,.slice G k e,.int .i64 sf,.int .i64 cg] 45))
  have Hx1:=zh (heap_alloc_new w (.cells #[.slice A n c,.slice B m d,.slice G k e,.int .i64 sf,.int .i64 cg] 45))
  obtain⟨w1,hw1⟩:∃ w1,w.alloc (.cells #[.slice A n c,.slice B m d,.slice G k e,.int .i64 sf,.int .i64 cg] 45)=w1:=⟨_,rfl⟩
  rw[hw1] at Hb1 Hx1 ⊢
  clear hw1
  obtain⟨u0,u1,u2,u3,u4,-⟩:=cells5 Hx1.out
  obtain⟨bx,hbx⟩:∃ bx,w.heap.size=bx:=⟨_,rfl⟩
  rw[hbx] at Hx1 u0 u1 u2 u3 u4 ⊢
  have Hbx:=zh hbx
  clear hbx
  go_upto_region 4 with ((with_reducible refine (Hck.out _ Hb1.out).mono ?_);rintro e' w2 ⟨rfl,hb2⟩;have Hb2:=zh (Hb1.out.trans (hb2.mono Hb1.out.size));have Hx2:=zh ((hb2.block _ (Array.getElem?_eq_some_iff.1 Hx1.out).1).trans Hx1.out);clear hb2)
  clear u0 u1 u2 u3 u4 Hck
  go_wp2_with fail
  go_loopw [7,15] (λ_ s15 wr=>∃ (t:Nat),s15=.int .i64 (t:Nat)/\t<=np/\Hid (Below w2.heap.size w2 wr)) (λ_ s15 _=>np-(intOf s15).toNat)
  case atStart=>exact⟨0,rfl,Nat.zero_le _,zh (Below.refl _ _)⟩
  case round =>
   obtain⟨t,rfl,ht,HW⟩:=hrel
   have Hx3:=zh ((HW.out.block _ (Array.getElem?_eq_some_iff.1 Hx2.out).1).trans Hx2.out)
   have hbl:=(Array.getElem?_eq_some_iff.1 Hx3.out).1
   by_cases hlt:t<np
   ·have i1:(t:Int)<(np:Int):=by omega
    obtain⟨pb,po,l,rfl,hpl,hl,c0,c1⟩:=(Hp.out.below (Hb2.out.trans (HW.out.mono Hb2.out.size))).at2k hlt
    obtain⟨r1,r2⟩:=hr l (List.mem_of_getElem? hl)
    obtain⟨p1,p2⟩:=l
    dsimp only at c0 c1 r1 r2
    clear hl
    go_upto_region 7 with fail
    obtain⟨wa,hwa⟩:∃ wa,wr.alloc (.cells #[.int .i64 (p1:Nat),.int .i64 (p2:Nat)] 55)=wa:=⟨_,rfl⟩
    have Hba:=zh (show Below wr.heap.size wr wa from by rw[← hwa];exact below_new wr _)
    have Hxa:=zh (show wa.heap[wr.heap.size]?=some (.cells #[.int .i64 (p1:Nat),.int .i64 (p2:Nat)] 55 (0,0)) from by rw[← hwa];exact heap_alloc_new wr _)
    rw[hwa]
    obtain⟨t0,t1,-⟩:=cells2 Hxa.out
    have hll:=(Array.getElem?_eq_some_iff.1 Hxa.out).1
    obtain⟨lb,hlb⟩:∃ lb,wr.heap.size=lb:=⟨_,rfl⟩
    have Hx4:=zh ((Hba.out.block _ hbl).trans Hx3.out)
    have hbl4:=(Array.getElem?_eq_some_iff.1 Hx4.out).1
    rw[hlb] at t0 t1 hll ⊢
    obtain⟨u0,u1,u2,u3,u4,-⟩:=cells5 Hx4.out
    have HW4:=zh (HW.out.trans (Hba.out.mono HW.out.size))
    have g1:=inB_iffW.2 (show (1:Int)<=(p1:Int)+1/\(p1:Int)+1<=(m:Int) from by omega)
    have g2:=inB_iffW.2 (show (1:Int)<=(p2:Int)+1/\(p2:Int)+1<=(k:Int) from by omega)
    have K1:=zh (inW_any ((p1:Int)+1) (m:Int))
    have K2:=zh (inW_any ((p2:Int)+1) (k:Int))
    rw[g1] at K1
    rw[g2] at K2
    have e1:IntKind.i64.wrap ((p1:Int)+1)=(p1:Int)+1:=IntWalk.i64_in _ (by omega)
    have e2:IntKind.i64.wrap ((p2:Int)+1)=(p2:Int)+1:=IntWalk.i64_in _ (by omega)
    clear g1 g2 hwa hlb c0 c1 hpl hbl Hx3 Hba Hxa
    go_wp2_with (first|((with_reducible refine (K1.out _).mono ?_);rintro e' w3 ⟨rfl,rfl⟩)|((with_reducible refine (K2.out _).mono ?_);rintro e' w3 ⟨rfl,rfl⟩))
    exact⟨⟨t+1,by go_num,by omega,HW4⟩,by simp[intOf];omega⟩
   ·obtain rfl:np=t:=by omega
    have i1:¬ (np:Int)<(np:Int):=by omega
    obtain⟨u0,u1,u2,u3,u4,-⟩:=cells5 Hx3.out
    have HB:=zh (Hb2.out.trans (HW.out.mono Hb2.out.size))
    by_cases he:np=n
    ·have HF:=zh (HR.out 0 (by unfold fitC;rw[if_pos rfl,if_pos he]) _ HB.out)
     have j1:(np:Int)=(n:Int):=by omega
     go_wp2_with fail
     exact HF.out
    ·have HF:=zh (HR.out 2 (by unfold fitC;rw[if_pos rfl,if_neg he]) _ HB.out)
     have j1:¬ (np:Int)=(n:Int):=by omega
     go_wp2_with fail
     exact HF.out
end
end
section
section
open Go.RowKit
def tgP(x:Sc)(i:Nat)(p:Nat×Nat):Int:=(pullN (x.me.getD p.1 ⟨0,[]⟩).D (x.ga.getD p.2 0) (x.co.getD i ⟨0,0,0,0⟩).L (x.co.getD i ⟨0,0,0,0⟩).F:Nat)
theorem tgP_eq{x:Sc}{i:Nat}{p:Nat×Nat}{mt:Mtl}{s g:Int}{y:Crs}(h:Pk x p.1 p.2 mt s g)(hy:x.co[i]?=some y):tgP x i p=(pullN mt.D g y.L y.F:Nat):=by
 unfold tgP
 have h1:x.me.getD p.1 ⟨0,[]⟩=mt:=by rw[List.getD_eq_getElem?_getD,h.hme];rfl
 have h3:x.ga.getD p.2 0=g:=by rw[List.getD_eq_getElem?_getD,h.hg];rfl
 have h4:x.co.getD i ⟨0,0,0,0⟩=y:=by rw[List.getD_eq_getElem?_getD,hy];rfl
 rw[h1,h3,h4]
theorem sumL_range_succ(f:Nat->Int)(t:Nat):sumI ((List.range (t+1)).map f)=sumI ((List.range t).map f)+f t:=by
 rw[List.range_succ,List.map_append,List.map_singleton,sumI_snoc]
theorem wpull_any(A:Option Addr)(n c:Nat)(B:Option Addr)(m d:Nat)(G:Option Addr)(k e:Nat)(x:Sc)(P:Option Addr)(np pc:Nat)(L:List (Nat×Nat))(w:World)(h:ScM w A n c B m d G k e x)(hp:SlE pkE 2 w P np L)(hr:∀ p∈L,p.1<m/\p.2<k)(hn:np<=1000)(hi:∀ y∈x.co,InR y.T/\InR y.W) :
 Calls Tryz.prog 15 #[.agg (scA A n c B m d G k e x),.slice P np pc] w λe' w'=>e'=.returned (if fitC (scB x) np n=0 then .tuple #[.int .i64 (sumI ((List.range np).map λi=>tgP x i (L.getD i (0,0)))),.int .i64 0] else .tuple #[.int .i64 0,.int .i64 (fitC (scB x) np n)])/\Below w.heap.size w w':=by
 refine calls_cps ?_
 intro R hR
 have H:=zh h
 have Hp:=zh hp
 have Hft:=zh (λW (hb:Below w.heap.size w W)=>wfits_any A n c B m d G k e x P np pc L W (h.below hb) (hp.below hb) hr hn)
 by_cases hC:fitC (scB x) np n=0
 ·rw[hC] at Hft
  rw[if_pos hC] at hR
  have hB:scB x=true:=by
   cases hb:scB x with
   |true=>rfl
   |false=>rw[hb] at hC;unfold fitC at hC;simp at hC
  have hpn:np=n:=by
   refine Classical.byContradiction λhe=>?_
   rw[hB] at hC
   unfold fitC at hC
   rw[if_pos rfl,if_neg he] at hC
   omega
  subst hpn
  have Hok:=zh (scB_ok hB hi)
  have HR:=zh (show ∀ s,s=sumI ((List.range np).map λi=>tgP x i (L.getD i (0,0)))->∀ W,Below w.heap.size w W->R (.returned (.tuple #[.int .i64 s,.int .i64 0])) W from λs hs W g=>hR.out _ _ ⟨by rw[hs],g⟩)
  clear h hp hR hC hB hi
  obtain⟨co,me,ga,sf,cg⟩:=x
  have Htt:=zh (λy i j mt s g W (hb:Below w.heap.size w W)=>tight_any A np c B m d G k e ⟨co,me,ga,sf,cg⟩ y i j mt s g W (H.out.below hb))
  unfold scA at Hft Htt ⊢
  dsimp only at Hft Htt ⊢
  go_enter Tryz.func15,Tryz.ntmps15
  go_upto_region 1 with fail
  have Hb1:=zh (below_new w (.cells #[.slice A np c,.slice B m d,.slice G k e,.int .i64 sf,.int .i64 cg] 45))
  have Hx1:=zh (heap_alloc_new w (.cells #[.slice A np c,.slice B m d,.slice G k e,.int .i64 sf,.int .i64 cg] 45))
  obtain⟨w1,hw1⟩:∃ w1,w.alloc (.cells #[.slice A np c,.slice B m d,.slice G k e,.int .i64 sf,.int .i64 cg] 45)=w1:=⟨_,rfl⟩
  rw[hw1] at Hb1 Hx1 ⊢
  clear hw1
  obtain⟨u0,u1,u2,u3,u4,-⟩:=cells5 Hx1.out
  obtain⟨bx,hbx⟩:∃ bx,w.heap.size=bx:=⟨_,rfl⟩
  rw[hbx] at Hx1 u0 u1 u2 u3 u4 ⊢
  clear hbx
  go_upto_region 4 with ((with_reducible refine (Hft.out _ Hb1.out).mono ?_);rintro e' w2 ⟨rfl,hb2⟩;have Hb2:=zh (Hb1.out.trans (hb2.mono Hb1.out.size));have Hx2:=zh ((hb2.block _ (Array.getElem?_eq_some_iff.1 Hx1.out).1).trans Hx1.out);clear hb2)
  clear u0 u1 u2 u3 u4 Hft
  go_wp2_with fail
  go_loopw [7,8,9,18] (λs7 _ _ s18 wr=>∃ (t:Nat) (s:Int),s18=.int .i64 (t:Nat)/\t<=np/\s7=.int .i64 s/\0<=s/\s<=4000000000000*(t:Int)/\Hid (s=sumI ((List.range t).map λi=>tgP ⟨co,me,ga,sf,cg⟩ i (L.getD i (0,0))))/\Hid (Below w2.heap.size w2 wr)) (λ_ _ _ s18 _=>np-(intOf s18).toNat)
  case atStart=>exact⟨0,0,rfl,Nat.zero_le _,rfl,by omega,by omega,zh rfl,zh (Below.refl _ _)⟩
  case round =>
   obtain⟨t,s,rfl,ht,rfl,hs0,hs1,Hs,HW⟩:=hrel
   have Hx3:=zh ((HW.out.block _ (Array.getElem?_eq_some_iff.1 Hx2.out).1).trans Hx2.out)
   have hbl:=(Array.getElem?_eq_some_iff.1 Hx3.out).1
   have Hb3:=zh (Hb2.out.trans (HW.out.mono Hb2.out.size))
   by_cases hlt:t<np
   ·have i1:(t:Int)<(np:Int):=by omega
    obtain⟨pb,po,l,rfl,hpl,hl,c0,c1⟩:=(Hp.out.below Hb3.out).at2k hlt
    obtain⟨r1,r2⟩:=hr l (List.mem_of_getElem? hl)
    have hl2:L.getD t (0,0)=l:=by rw[List.getD_eq_getElem?_getD,hl];rfl
    obtain⟨b,o,y,rfl,hbl2,hy,q0,q1,q2,q3⟩:=(H.out.below Hb3.out).co.at4c (k:=t) (by omega)
    obtain⟨mt,ss,g,hpk⟩:=Hok.out.pk l.1 l.2 (by have:=H.out.me.1;dsimp only at this ⊢;omega) (by have:=H.out.ga.1;dsimp only at this ⊢;omega)
    have htg:=tgP_eq hpk hy
    have hyo:=Hok.out.co y (List.mem_of_getElem? hy)
    have hlt2:=pullN_lt (d:=mt.D) (a:=g) hpk.D.2 hpk.gr.2 hyo.L.2 hyo.F.2
    obtain⟨v,hv⟩:∃ v:Nat,pullN mt.D g y.L y.F=v:=⟨_,rfl⟩
    have Hcall:=zh (λW (hb:Below w.heap.size w W)=>Htt.out y l.1 l.2 mt ss g W hb hpk hyo)
    rw[hv] at Hcall htg hlt2
    unfold Crs.val pickV at Hcall
    obtain⟨p1,p2⟩:=l
    dsimp only at c0 c1 r1 r2 Hcall
    have Hn:=zh (show s+(v:Int)=sumI ((List.range (t+1)).map λi=>tgP ⟨co,me,ga,sf,cg⟩ i (L.getD i (0,0))) from by rw[sumL_range_succ,← Hs.out,hl2,htg])
    have e5:IntKind.i64.wrap (s+(v:Int))=s+(v:Int):=IntWalk.i64_in _ (by omega)
    clear hl hl2 hv hpk hyo htg hy
    go_upto_region 8 with fail
    obtain⟨wa,hwa⟩:∃ wa,wr.alloc (.cells #[.int .i64 (p1:Nat),.int .i64 (p2:Nat)] 55)=wa:=⟨_,rfl⟩
    have hba:Below wr.heap.size wr wa:=by rw[← hwa];exact below_new wr _
    have hxa:wa.heap[wr.heap.size]?=some (.cells #[.int .i64 (p1:Nat),.int .i64 (p2:Nat)] 55 (0,0)):=by rw[← hwa];exact heap_alloc_new wr _
    rw[hwa]
    obtain⟨t0,t1,-⟩:=cells2 hxa
    have hll:=(Array.getElem?_eq_some_iff.1 hxa).1
    have Hx4:=zh ((hba.block _ hbl).trans Hx3.out)
    have hbl4:=(Array.getElem?_eq_some_iff.1 Hx4.out).1
    have HW4:=zh (HW.out.trans (hba.mono HW.out.size))
    have Hb4:=zh (Hb3.out.trans (hba.mono Hb3.out.size))
    have q0:=(hba.cell hbl2).trans q0
    have q1:=(hba.cell hbl2).trans q1
    have q2:=(hba.cell hbl2).trans q2
    have q3:=(hba.cell hbl2).trans q3
    have hbl2:b<wa.heap.size:=Nat.lt_of_lt_of_le hbl2 hba.size
    obtain⟨lb,hlb⟩:∃ lb,wr.heap.size=lb:=⟨_,rfl⟩
    rw[hlb] at t0 t1 hll ⊢
    obtain⟨u0,u1,u2,u3,u4,-⟩:=cells5 Hx4.out
    clear hwa hba hxa hlb c0 c1 hpl hbl Hx3
    obtain⟨ι,mk,hmk⟩:=cls_exW wa.heap.size wa
    have hd:=hmk.drew
    have hnei:=hmk.ne
    have u0:=λx=>((hmk.below x).cell hbl4).trans u0
    have u1:=λx=>((hmk.below x).cell hbl4).trans u1
    have u2:=λx=>((hmk.below x).cell hbl4).trans u2
    have u3:=λx=>((hmk.below x).cell hbl4).trans u3
    have u4:=λx=>((hmk.below x).cell hbl4).trans u4
    have t0:=λx=>((hmk.below x).cell hll).trans t0
    have t1:=λx=>((hmk.below x).cell hll).trans t1
    have q0:=λx=>((hmk.below x).cell hbl2).trans q0
    have q1:=λx=>((hmk.below x).cell hbl2).trans q1
    have q2:=λx=>((hmk.below x).cell hbl2).trans q2
    have q3:=λx=>((hmk.below x).cell hbl2).trans q3
    have HC:=zh (λx=>hmk.call (Hcall.out (mk x) (Hb4.out.trans ((hmk.below x).mono Hb4.out.size))))
    have Hbl:=zh (λx=>hmk.below x)
    clear hmk
    refine wp_region_clsW (C:=λw'=>∃ x,w'=mk x) (by kernel_rfl) (by kernel_rfl) hd ?_
    repeat (go_big_quiet_step (with_reducible exact HC.out _))
    refine wpQuiet_nil ?_
    intro _ hw'
    obtain⟨x,rfl⟩:=hw'
    have HW5:=zh (HW4.out.trans ((Hbl.out x).mono HW4.out.size))
    clear u0 u1 u2 u3 u4 t0 t1 q0 q1 q2 q3
    go_wp2_with fail
    exact⟨⟨t+1,s+v,by go_num,by omega,rfl,by omega,by omega,Hn,HW5⟩,by simp[intOf];omega⟩
   ·obtain rfl:np=t:=by omega
    have i1:¬ (np:Int)<(np:Int):=by omega
    go_wp2_with fail
    exact HR.out s Hs.out _ Hb3.out
 ·have HF:=zh (λW (hb:Below w.heap.size w W)=>hR.out _ W ⟨by rw[if_neg hC],hb⟩)
  obtain⟨cc,hcc⟩:∃ cc,fitC (scB x) np n=cc:=⟨_,rfl⟩
  rw[hcc] at hC Hft HF
  clear hR hcc h hp hi
  have hcb:(cc != 0)=true:=by simpa using hC
  obtain⟨co,me,ga,sf,cg⟩:=x
  unfold scA at Hft ⊢
  dsimp only at Hft ⊢
  go_enter Tryz.func15,Tryz.ntmps15
  go_upto_region 1 with fail
  have Hb1:=zh (below_new w (.cells #[.slice A n c,.slice B m d,.slice G k e,.int .i64 sf,.int .i64 cg] 45))
  obtain⟨u0,u1,u2,u3,u4,-⟩:=cells5 (heap_alloc_new w (.cells #[.slice A n c,.slice B m d,.slice G k e,.int .i64 sf,.int .i64 cg] 45))
  go_wp2_with ((with_reducible refine (Hft.out _ Hb1.out).mono ?_);rintro e' w3 ⟨rfl,hb3⟩)
  exact HF.out _ (Hb1.out.trans (hb3.mono Hb1.out.size))
end
end
end
section
section
open Go.RowKit
def chgT(g:Nat->Nat)(t:Nat):Nat:=chgN g (t-1)
theorem chgT_le(g:Nat->Nat):∀ t,chgN g t<=t
 |0=>Nat.le_refl _
 |t+1=>by
  have:=chgT_le g t
  rw[chgN]
  split<;>omega
theorem prN_eq{x:Sc}(hx:ScOk x){k t p:Nat}(ht:t<x.co.length)(h1:p/k<x.me.length)(h2:p%k<x.ga.length)(hne:prN x k t p≠-1):∃ y mt s g,x.co[t]?=some y/\Pk x (p/k) (p%k) mt s g/\y.Ok/\holdsB mt.D s y.L y.F x.sf=true/\prN x k t p=pricF mt.D g y:=by
 obtain⟨mt,s,g,hpk⟩:=hx.pk (p/k) (p%k) h1 h2
 have hy:x.co[t]?=some (x.co[t]'ht):=List.getElem?_eq_getElem ht
 have e:x.co.getD t ⟨0,0,0,0⟩=x.co[t]'ht:=by rw[List.getD_eq_getElem?_getD,hy];rfl
 have hp:=prc_eq hpk (x.co[t]'ht)
 unfold prN at hne ⊢
 rw[e,hp] at hne ⊢
 cases hh:holdsB mt.D s (x.co[t]'ht).L (x.co[t]'ht).F x.sf with
 |false=>rw[hh] at hne;exact absurd rfl hne
 |true=>exact⟨_,mt,s,g,hy,hpk,hx.co _ (List.mem_of_getElem? hy),hh,by rw[if_pos rfl]⟩
theorem wcost_any(A:Option Addr)(n c:Nat)(B:Option Addr)(m d:Nat)(G:Option Addr)(k e:Nat)(x:Sc)(P:Option Addr)(pc:Nat)(f:Nat->Nat)(w:World)(h:ScM w A n c B m d G k e x)(hB:scB x=true)(hi:∀ y∈x.co,InR y.T/\InR y.W)(hp:SlE pkE 2 w P n ((List.range n).map λi=>(f i/k,f i%k)))
 (hf:∀ i,i<n->f i<m*k/\prN x k i (f i)≠-1/\(i+1<n->folB k (f i) (f (i+1))=true)) (hch:(chgN f (n-1):Int)<=x.ch) :
 Calls Tryz.prog 16 #[.agg (scA A n c B m d G k e x),.slice P n pc] w λe' w'=>e'=.returned (.tuple #[.int .i64 (sumI ((List.range n).map λi=>prN x k i (f i))),.int .i64 0])/\Below w.heap.size w w':=by
 refine calls_cps ?_
 intro R hR
 have H:=zh h
 have Hp:=zh hp
 have hdm:∀ i,i<n->f i/k<m/\f i%k<k:=λi hi=>by
  have h1:=(hf i hi).1
  have hk:0<k:=Nat.pos_of_ne_zero λe=>by rw[e,Nat.mul_zero] at h1;omega
  exact⟨(Nat.div_lt_iff_lt_mul hk).2 h1,Nat.mod_lt _ hk⟩
 have hok:=scB_ok hB hi
 have hn96:=hok.n
 have hnl:=h.co.1
 have hml:=h.me.1
 have hkl:=h.ga.1
 rw[← hnl] at hn96
 have Hft:=zh (λW (hb:Below w.heap.size w W)=>wfits_any A n c B m d G k e x P n pc _ W (h.below hb) (hp.below hb) (λp hq=>by
  obtain⟨i,hi,rfl⟩:=List.mem_map.1 hq
  exact hdm i (List.mem_range.1 hi)) (by omega))
 rw[hB,show fitC true n n=0 by simp[fitC]] at Hft
 have Hdm:=zh hdm
 have Hok:=zh hok
 have Hf:=zh hf
 have hHn:n<=x.co.length:=Nat.le_of_eq hnl
 have Hrng:=zh (λi (hi:i<n)=>prN_rng hok (i:=i) (p:=f i) (by omega) (by rw[← hml,← hkl];exact (hf i hi).1))
 rw[← hkl] at Hrng
 have Hpe:=zh (λi (hi:i<n)=>prN_eq hok (k:=k) (t:=i) (p:=f i) (by omega) (by rw[← hml];exact (hdm i hi).1) (by rw[← hkl];exact (hdm i hi).2) (hf i hi).2.1)
 have HR:=zh (show ∀ s,s=sumI ((List.range n).map λi=>prN x k i (f i))->∀ W,Below w.heap.size w W->R (.returned (.tuple #[.int .i64 s,.int .i64 0])) W from λs hs W g=>hR.out _ _ ⟨by rw[hs],g⟩)
 clear h hp hR hB hi hdm hok hf hnl hml hkl hHn
 obtain⟨co,me,ga,sf,cg⟩:=x
 have Hst:=zh (λy i j mt s g W (hb:Below w.heap.size w W)=>strong_any A n c B m d G k e ⟨co,me,ga,sf,cg⟩ y i j mt s g W (H.out.below hb))
 have Hpr:=zh (λy i j mt s g W (hb:Below w.heap.size w W)=>price_any A n c B m d G k e ⟨co,me,ga,sf,cg⟩ y i j mt s g W (H.out.below hb))
 unfold scA at Hft Hst Hpr ⊢
 dsimp only at Hft Hst Hpr hch ⊢
 go_enter Tryz.func16,Tryz.ntmps16
 go_upto_region 1 with fail
 have Hb1:=zh (below_new w (.cells #[.slice A n c,.slice B m d,.slice G k e,.int .i64 sf,.int .i64 cg] 45))
 have Hx1:=zh (heap_alloc_new w (.cells #[.slice A n c,.slice B m d,.slice G k e,.int .i64 sf,.int .i64 cg] 45))
 obtain⟨w1,hw1⟩:∃ w1,w.alloc (.cells #[.slice A n c,.slice B m d,.slice G k e,.int .i64 sf,.int .i64 cg] 45)=w1:=⟨_,rfl⟩
 rw[hw1] at Hb1 Hx1 ⊢
 clear hw1
 obtain⟨u0,u1,u2,u3,u4,-⟩:=cells5 Hx1.out
 obtain⟨bx,hbx⟩:∃ bx,w.heap.size=bx:=⟨_,rfl⟩
 rw[hbx] at Hx1 u0 u1 u2 u3 u4 ⊢
 clear hbx
 go_upto_region 4 with ((with_reducible refine (Hft.out _ Hb1.out).mono ?_);rintro e' w2 ⟨rfl,hb2⟩;have Hb2:=zh (Hb1.out.trans (hb2.mono Hb1.out.size));have Hx2:=zh ((hb2.block _ (Array.getElem?_eq_some_iff.1 Hx1.out).1).trans Hx1.out);clear hb2)
 clear u0 u1 u2 u3 u4 Hft
 go_wp2_with fail
 go_loopw [7,8,9,10,11,20] (λs7 s8 _ _ _ s20 wr=>∃ (t:Nat) (s:Int) (q:Nat),s20=.int .i64 (t:Nat)/\t<=n/\s7=.int .i64 s/\-4000000000000000*(t:Int)<=s/\s<=4000000000000000*(t:Int)/\s8=.int .i64 (q:Nat)/\q<=t/\Hid (q=chgT f t)/\Hid (s=sumI ((List.range t).map λi=>prN ⟨co,me,ga,sf,cg⟩ k i (f i)))/\Hid (Below w2.heap.size w2 wr)) (λ_ _ _ _ _ s20 _=>n-(intOf s20).toNat)
 case atStart=>exact⟨0,0,0,rfl,Nat.zero_le _,rfl,by omega,by omega,rfl,Nat.le_refl _,zh rfl,zh rfl,zh (Below.refl _ _)⟩
 case round =>
  obtain⟨t,s,q,rfl,ht,rfl,hs0,hs1,rfl,hqt,Hq,Hs,HW⟩:=hrel
  have Hx3:=zh ((HW.out.block _ (Array.getElem?_eq_some_iff.1 Hx2.out).1).trans Hx2.out)
  have hbl:=(Array.getElem?_eq_some_iff.1 Hx3.out).1
  have Hb3:=zh (Hb2.out.trans (HW.out.mono Hb2.out.size))
  by_cases hlt:t<n
  ·have i1:(t:Int)<(n:Int):=by omega
   obtain⟨pb,po,l,rfl,hpl,hl,c0,c1⟩:=(Hp.out.below Hb3.out).at2k hlt
   have hl2:l=(f t/k,f t%k):=by
    rw[List.getElem?_map,List.getElem?_range hlt] at hl
    exact (Option.some.inj hl).symm
   obtain⟨p1,p2⟩:=l
   simp only[Prod.mk.injEq] at hl2
   obtain⟨hp1,hp2⟩:=hl2
   dsimp only at c0 c1
   have Hp1:=zh hp1
   have Hp2:=zh hp2
   clear hl hp1 hp2
   go_upto_region 8 with fail
   obtain⟨wa,hwa⟩:∃ wa,wr.alloc (.cells #[.int .i64 (p1:Nat),.int .i64 (p2:Nat)] 55)=wa:=⟨_,rfl⟩
   have hba:Below wr.heap.size wr wa:=by rw[← hwa];exact below_new wr _
   have hxa:wa.heap[wr.heap.size]?=some (.cells #[.int .i64 (p1:Nat),.int .i64 (p2:Nat)] 55 (0,0)):=by rw[← hwa];exact heap_alloc_new wr _
   rw[hwa]
   have HXa:=zh hxa
   have HBa:=zh hba
   obtain⟨lb,hlb⟩:∃ lb,wr.heap.size=lb:=⟨_,rfl⟩
   rw[hlb] at HXa ⊢
   have HW4:=zh (HW.out.trans (hba.mono HW.out.size))
   have Hb4:=zh (Hb3.out.trans (hba.mono Hb3.out.size))
   clear hwa hba hxa hlb c0 c1 hpl
   go_upto_if 26 with fail
   go_cut [8] (λs8 wx=>s8=.int .i64 (chgT f (t+1):Nat)/\Hid (Below wa.heap.size wa wx))
   case first =>
    rcases Nat.eq_zero_or_pos t with h0|h0
    ·subst h0
     have hq0:q=0:=by omega
     subst hq0
     go_wp2_with fail
     go_meet
     exact⟨rfl,zh (Below.refl _ _)⟩
    ·obtain⟨j,rfl⟩:∃ j,t=j+1:=⟨t-1,by omega⟩
     have hj:j<n:=by omega
     obtain⟨pb',po',l,e1,hpl2,hl,c0,c1⟩:=(Hp.out.below Hb4.out).at2k hj
     cases e1
     have hl2:l=(f j/k,f j%k):=by
      rw[List.getElem?_map,List.getElem?_range hj] at hl
      exact (Option.some.inj hl).symm
     obtain⟨l1,l2⟩:=l
     simp only[Prod.mk.injEq] at hl2
     obtain⟨hl1,hl2⟩:=hl2
     dsimp only at c0 c1
     have hfol:=(Hf.out j hj).2.2 (by omega)
     unfold folB at hfol
     rw[Bool.and_eq_true,decide_eq_true_eq,decide_eq_true_eq,← Hp1.out,← Hp2.out,← hl1,← hl2] at hfol
     have i2:(0:Int)<((j+1:Nat):Int):=by omega
     have i3:¬ (p1:Int)<(l1:Int):=by omega
     have i4:¬ (p2:Int)<(l2:Int):=by omega
     have i5:(((j+1:Nat):Int)-1)=(j:Int):=by omega
     have i6:(j:Int)<(n:Int):=by omega
     obtain⟨t0,t1,-⟩:=cells2 HXa.out
     have hll:=(Array.getElem?_eq_some_iff.1 HXa.out).1
     have Hl1:=zh hl1
     have Hl2:=zh hl2
     clear hl hl1 hl2 hfol
     go_upto_region 12 with fail
     have HB9:=zh (below_new wa (.cells #[.int .i64 (l1:Nat),.int .i64 (l2:Nat)] 55))
     have hn1:chgT f (j+1+1)=chgT f (j+1)+(if f (j+1)=f j then 0 else 1):=by
      unfold chgT
      rw[Nat.add_sub_cancel,Nat.add_sub_cancel]
      rfl
     by_cases he:f (j+1)=f j
     ·have e1:p1=l1:=by rw[Hp1.out,Hl1.out,he]
      have e2:p2=l2:=by rw[Hp2.out,Hl2.out,he]
      subst e1 e2
      rw[if_pos he,Nat.add_zero] at hn1
      have Hn1:=zh (show q=chgT f (j+1+1) from Hq.out.trans hn1.symm)
      clear i3 i4 he hn1
      go_wp2_with fail
      go_meet
      exact⟨by rw[← Hn1.out],HB9⟩
     ·have hne:¬ (p1=l1/\p2=l2):=λhh=>he (by
       have a1:=Nat.div_add_mod (f (j+1)) k
       have a2:=Nat.div_add_mod (f j) k
       rw[← Hp1.out,← Hp2.out,hh.1,hh.2] at a1
       rw[← Hl1.out,← Hl2.out] at a2
       exact a1.symm.trans a2)
      rw[if_neg he] at hn1
      have Hn1:=zh (show q+1=chgT f (j+1+1) from by rw[hn1,Hq.out])
      have hne2:¬ ((p1:Int)=(l1:Int)/\(p2:Int)=(l2:Int)):=λhh=>hne ⟨by omega,by omega⟩
      have hne3:((p1:Int)==(l1:Int)&&(p2:Int)==(l2:Int))=false:=by
       rw[Bool.eq_false_iff]
       intro hh
       rw[Bool.and_eq_true] at hh
       exact hne2 ⟨eq_of_beq hh.1,eq_of_beq hh.2⟩
      clear i3 i4 he hn1 hne
      go_wp2_with fail
      all_goals
       go_meet
       exact⟨by rw[← Hn1.out];rfl,HB9⟩
   case rest =>
    obtain⟨rfl,HBx⟩:=hcut
    obtain⟨y,mt,sg,g,hy,hpk,hyo,hho,hpe⟩:=Hpe.out t hlt
    rw[← Hp1.out,← Hp2.out] at hpk
    obtain⟨b,o,y',rfl,hbl2,hy',q0,q1,q2,q3⟩:=(H.out.below (Hb4.out.trans (HBx.out.mono Hb4.out.size))).co.at4c (k:=t) hlt
    obtain rfl:=Option.some.inj (hy.symm.trans hy')
    have hr9:=Hrng.out t hlt
    have HC1:=zh (λW (hb:Below w.heap.size w W)=>Hst.out y p1 p2 mt sg g W hb hpk hyo)
    have HC2:=zh (λW (hb:Below w.heap.size w W)=>Hpr.out y p1 p2 mt sg g W hb hpk hyo)
    rw[hho] at HC1
    rw[← hpe] at HC2
    unfold Crs.val pickV at HC1 HC2
    obtain⟨v,hv⟩:∃ v,prN ⟨co,me,ga,sf,cg⟩ k t (f t)=v:=⟨_,rfl⟩
    rw[hv] at HC2 hr9
    have Hn:=zh (show s+v=sumI ((List.range (t+1)).map λi=>prN ⟨co,me,ga,sf,cg⟩ k i (f i)) from by rw[sumL_range_succ,← Hs.out,hv])
    have e5:IntKind.i64.wrap (s+v)=s+v:=IntWalk.i64_in _ (by omega)
    have hbl4:=Nat.lt_of_lt_of_le hbl (Nat.le_trans HBa.out.size HBx.out.size)
    have HX5:=zh ((HBx.out.block _ (Nat.lt_of_lt_of_le hbl HBa.out.size)).trans ((HBa.out.block _ hbl).trans Hx3.out))
    have hll:=(Array.getElem?_eq_some_iff.1 HXa.out).1
    obtain⟨t0,t1,-⟩:=cells2 ((HBx.out.block _ hll).trans HXa.out)
    obtain⟨u0,u1,u2,u3,u4,-⟩:=cells5 HX5.out
    have hll5:=Nat.lt_of_lt_of_le hll HBx.out.size
    have HW5:=zh (HW4.out.trans (HBx.out.mono HW4.out.size))
    have Hb5:=zh (Hb4.out.trans (HBx.out.mono Hb4.out.size))
    have hchg:=chgT_le f t
    have hct:chgT f (t+1)<=t+1:=by
     show chgN f t<=t+1
     omega
    clear hv hpk hyo hy hy' hho hpe hll hbl
    obtain⟨ι,mk,hmk⟩:=cls_exW wc.heap.size wc
    have hd:=hmk.drew
    have hnei:=hmk.ne
    have u0:=λx=>((hmk.below x).cell hbl4).trans u0
    have u1:=λx=>((hmk.below x).cell hbl4).trans u1
    have u2:=λx=>((hmk.below x).cell hbl4).trans u2
    have u3:=λx=>((hmk.below x).cell hbl4).trans u3
    have u4:=λx=>((hmk.below x).cell hbl4).trans u4
    have t0:=λx=>((hmk.below x).cell hll5).trans t0
    have t1:=λx=>((hmk.below x).cell hll5).trans t1
    have q0:=λx=>((hmk.below x).cell hbl2).trans q0
    have q1:=λx=>((hmk.below x).cell hbl2).trans q1
    have q2:=λx=>((hmk.below x).cell hbl2).trans q2
    have q3:=λx=>((hmk.below x).cell hbl2).trans q3
    have HCa:=zh (λx=>hmk.call (HC1.out (mk x) (Hb5.out.trans ((hmk.below x).mono Hb5.out.size))))
    have HCb:=zh (λx=>hmk.call (HC2.out (mk x) (Hb5.out.trans ((hmk.below x).mono Hb5.out.size))))
    have Hbl:=zh (λx=>hmk.below x)
    have hdx:∀ x,∃ n,{ mk x with drawn:=(mk x).drawn+1 }=mk n:=λx=>(hmk.iff _).1 (hmk.below x).drew
    clear hmk
    go_upto_region 14 with fail
    refine wp_region_clsW (C:=λw'=>∃ x,w'=mk x) (by kernel_rfl) (by kernel_rfl) hd ?_
    repeat (go_big_quiet_step (with_reducible exact HCa.out _))
    refine wpQuiet_nil ?_
    intro _ hw'
    obtain⟨x,rfl⟩:=hw'
    go_upto_region 16 with fail
    refine wp_region_clsW (C:=λw'=>∃ x,w'=mk x) (by kernel_rfl) (by kernel_rfl) (hdx x) ?_
    repeat (go_big_quiet_step (with_reducible exact HCb.out _))
    refine wpQuiet_nil ?_
    intro _ hw'
    obtain⟨x2,rfl⟩:=hw'
    have HW6:=zh (HW5.out.trans ((Hbl.out x2).mono HW5.out.size))
    clear u0 u1 u2 u3 u4 t0 t1 q0 q1 q2 q3 hd hdx
    go_wp2_with fail
    exact⟨⟨t+1,s+v,chgT f (t+1),by go_num,by omega,rfl,by omega,by omega,rfl,hct,zh rfl,Hn,HW6⟩,by simp[intOf];omega⟩
  ·obtain rfl:n=t:=by omega
   have i1:¬ (n:Int)<(n:Int):=by omega
   obtain⟨u0,u1,u2,u3,u4,-⟩:=cells5 Hx3.out
   have hq2:(q:Int)<=cg:=by rw[Hq.out];exact hch
   have i2:¬ cg<(q:Int):=by omega
   go_wp2_with fail
   exact HR.out s Hs.out _ Hb3.out
end
end
end Go.Proofs.YtjibohkeapdalaaGreatDoor
