/-
The contracts of match; conditions: those of each theorem.
-/
import Derived.Test.YtgbnicokglpdbaaGreatDoorCg
namespace Go.Proofs.YtgbnicokglpdbaaGreatDoor
set_option maxHeartbeats 16000000
set_option maxRecDepth 100000
section
open Go.RowKit
end
section
open Go.RowKit
end
section
open Go.RowKit
def mw(x:Int):Prop := -2000000000000000000<=x/\x<=2000000000000000000
def ui(l:List Int)(k:Nat):Prop:=∀ i,i<k->mw (l.getD i 0)
theorem DB{l:List Int}{k:Nat}{x:Int}(h:ui l k)(hx:l[k]?=some x)(h1:mw x):ui l (k+1):=λi hi=>by
 by_cases e:i=k
 ·subst e;rw[List.getD_eq_getElem?_getD,hx];exact h1
 exact h i (by omega)
theorem ye{a b:List Int}{i:Nat}(h:ui (a++b) (a.length+b.length))(hi:i<a.length):mw (a.getD i 0):=by
 have:=h i (by omega)
 rwa [List.getD_eq_getElem?_getD,List.getElem?_append_left hi,← List.getD_eq_getElem?_getD] at this
theorem vE{a b:List Int}{j:Nat}(h:ui (a++b) (a.length+b.length))(hj:j<b.length):mw (b.getD j 0):=by
 have:=h (a.length+j) (by omega)
 rwa [List.getD_eq_getElem?_getD,List.getElem?_append_right (by omega),Nat.add_sub_cancel_left,← List.getD_eq_getElem?_getD] at this
theorem xJ{l:List Int}{n:Nat}(hn:l.length=n)(x:Int):x∈l ↔ ∃ i,i<n/\l.getD i 0=x:=by
 subst hn
 constructor
 ·intro h
  obtain⟨i,hi,e⟩:=List.getElem_of_mem h
  exact⟨i,hi,by rw[aw _ _ _ hi];exact e⟩
 rintro⟨i,hi,e⟩
 rw[aw _ _ _ hi] at e
 rw[← e];exact List.getElem_mem hi
def sY(lt lv:List Int)(k:Nat):Prop:=∀ j,j<k->lv.getD j 0<=0/\(lv.getD j 0=0\/(j:Int)∈lt)
theorem FO{lt lv:List Int}{k:Nat}{x:Int}(hx:lv.getD k 0=x):sY lt lv (k+1) ↔ sY lt lv k/\x<=0/\(x=0\/(k:Int)∈lt):=by
 subst hx
 constructor
 ·intro h;exact⟨λj hj=>h j (by omega),h k (by omega)⟩
 rintro⟨h1,h2⟩ j hj
 by_cases e:j=k
 ·subst e;exact h2
 exact h1 j (by omega)
theorem wJ{P:Nat->Prop}{k:Nat}:(∀ j,j<k+1->P j) ↔ (∀ j,j<k->P j)/\P k:=by
 constructor
 ·intro h;exact⟨λj hj=>h j (by omega),h k (by omega)⟩
 rintro⟨h1,h2⟩ j hj
 by_cases e:j=k
 ·subst e;exact h2
 exact h1 j (by omega)
theorem IE{T:List (List Int)}{n m:Nat}{lt lu lv:List Int}{s:Int}(aF:lt.length=n)(hlu:lu.length=n)(hlv:lv.length=m)(hr:ui (lu++lv) (n+m)) :
 oY T n m lt lu lv s ↔ (j8 T lt n=s/\sY lt lv m)/\∀ i,i<n->∀ j,j<m->xZ T lt lu lv i j:=by
 rw[← hlu,← hlv] at hr
 constructor
 ·rintro⟨h1,_,h3,h4⟩
  exact⟨⟨h1,λj hj=>⟨(h3 j hj).2.1,(h3 j hj).2.2.elim (λh=>.inr ((xJ aF _).2 h)) .inl⟩⟩,h4⟩
 rintro⟨⟨h1,h3⟩,h4⟩
 exact⟨h1,λi hi=>ye hr (by omega),λj hj=>⟨(vE hr (by omega)).1,(h3 j hj).1,(h3 j hj).2.elim .inr (λh=>.inl ((xJ aF _).1 h))⟩,h4⟩
theorem Fo{T:List (List Int)}{n m:Nat}{lt lu lv:List Int}{s x:Int}{k:Nat}(hlu:lu.length=n)(_hlv:lv.length=m)(hk:k<n+m)(hx:(lu++lv)[k]?=some x)(hn:¬ mw x):¬ oY T n m lt lu lv s:=by
 rintro⟨_,h2,h3,_⟩
 apply hn
 by_cases h:k<n
 ·rw[List.getElem?_append_left (by omega)] at hx
  have:=h2 k h
  rw[List.getD_eq_getElem?_getD,hx] at this
  exact this
 rw[List.getElem?_append_right (by omega)] at hx
 have:=h3 (k-n) (by omega)
 rw[hlu] at hx
 rw[List.getD_eq_getElem?_getD,hx] at this
 have h1 : -2000000000000000000<=x:=this.1
 have h2:x<=0:=this.2.1
 exact⟨h1,by omega⟩
theorem yU(A:Option Addr)(n c m:Nat)(T:List (List Int))(A1 A2 A3:Option Addr)(c1 c2 c3:Nat)(lt lu lv:List Int)(s:Int)(w:World)(hT:d8 w A n T)(ad:fP T m)
 (h1:ag ak 1 w A1 n lt) (h2:ag ak 1 w A2 n lu) (h3:ag ak 1 w A3 m lv) (e7:ny T m lt) :
 Calls Tryz.prog 22 #[.slice A n c,.agg #[.slice A1 n c1,.slice A2 n c2,.slice A3 m c3,.int .i64 s]] w λe w'=>(oY T n m lt lu lv s/\e=.returned (.tuple #[.bool true,.int .i64 0])\/¬ oY T n m lt lu lv s/\e=.returned (.tuple #[.bool false,.int .i64 0]))/\Below w.heap.size w w':=by
 refine ae ?_
 intro R hR
 have ev:1<=n:=by rw[hT.1];exact ad.n1
 have g4:=ad.m64
 have hl:n<=m:=by rw[hT.1];exact ad.nm
 have hb:=ab w (.cells #[.slice A1 n c1,.slice A2 n c2,.slice A3 m c3,.int .i64 s] 77)
 have HT:=zh (hT.below hb)
 have H1:=zh (h1.below hb)
 have H2:=zh (h2.below hb)
 have H3:=zh (h3.below hb)
 have HX:=zh (heap_alloc_new w (.cells #[.slice A1 n c1,.slice A2 n c2,.slice A3 m c3,.int .i64 s] 77))
 have Hb:=zh hb
 have bc:=zh ad
 have eI:∀ r∈T,r.length<=9223372036854775807:=λr hr=>by rw[ad.rect r hr];omega
 have gg:=zh eI
 have Ht:=zh (show iL T=true from oM.2 (by rw[ad.wid];exact ad))
 have f8:=zh h1.1
 have bD:=zh h2.1
 have bE:=zh h3.1
 obtain⟨b,o,A0,c0,rfl,_⟩:=hT.head (by omega)
 have en:=zh e7
 clear hT h1 h2 h3 hb ad eI e7
 go_enter Tryz.func22,Tryz.ntmps22
 go_wp2_with fail
 refine (lq _ n c T _ HT.out (by omega) gg.out).mono ?_
 rw[if_pos Ht.out]
 rintro e w1 ⟨rfl,rfl⟩
 obtain⟨r0,r1,r2,r3,r4⟩:=an HX.out
 go_wp2_with fail
 refine (D7 _ n c m T A1 n c1 lt _ HT.out bc.out H1.out (by omega)).mono ?_
 rintro e w2 ⟨⟨_,rfl⟩|⟨cp,_⟩,aa⟩
 rotate_left
 ·exact absurd en.out cp
 obtain⟨t,ht⟩:∃ t,j8 T lt n=t:=⟨_,rfl⟩
 rw[ht]
 have gN:=zh ht
 have dq:=(aa.block _ (by simp)).trans HX.out
 have d5:=zh (HT.out.below aa)
 have fa:=zh (H1.out.below aa)
 have fc:=zh (H2.out.below aa)
 have fu:=zh (H3.out.below aa)
 have f4:=zh dq
 have a9:=zh (Hb.out.trans (aa.mono Hb.out.size))
 clear aa ht r0 r1 r2 r3 r4
 obtain⟨r0,r1,r2,r3,r4⟩:=an dq
 clear dq
 obtain⟨b',o',A0',c0',e',hh⟩:=d5.out.head (by omega)
 simp only[Option.some.injEq,Addr.mk.injEq,and_true] at e'
 obtain⟨rfl,rfl⟩:=e'
 rw[bc.out.wid] at hh
 have g1:((n:Int) != (n:Int))=false:=by simp
 have g2:((m:Int) != (m:Int))=false:=by simp
 go_wp2_with fail
 go_quiet (fail)
 rename_i nq
 have f1:=zh (show d8 (w2.drewN nq) _ n T from d5.out)
 have fb:=zh (show ag ak 1 (w2.drewN nq) A1 n lt from fa.out)
 have dx:=zh (show ag ak 1 (w2.drewN nq) A2 n lu from fc.out)
 have dz:=zh (show ag ak 1 (w2.drewN nq) A3 m lv from fu.out)
 have cI:=zh (show (w2.drewN nq).heap[w.heap.size]?=_ from f4.out)
 have d6:=zh (show Below w.heap.size w (w2.drewN nq) from dT a9.out nq)
 clear r0 r1 r2 r3 r4 hh g1 g2
 generalize w2.drewN nq=w3 at *
 obtain⟨r0,r1,r2,r3,r4⟩:=an cI.out
 go_wp2_with fail
 have b7:=ab w3 (.cells #[.slice A2 n c2,.slice A3 m c3] 27)
 obtain⟨v0,v1,_⟩:=ap (heap_alloc_new w3 (.cells #[.slice A2 n c2,.slice A3 m c3] 27))
 refine (yJ w3.heap.size 0 2 A2 A3 n c2 m c3 (lu.flatMap ak) (lv.flatMap ak) _ (by simp) v0 v1 (dx.out.2.below b7) (dz.out.2.below b7) (lH _) (lH _) (by omega) (by omega)).mono ?_
 rintro e w4 ⟨A4,c4,rfl,c9,cd⟩
 have bg:=b7.trans (cd.mono b7.size)
 rw[← List.flatMap_append] at c9
 have gw:=zh (ag.of_own c9 (by rw[List.length_append,← bD.out,← bE.out]))
 have cC:=zh (f1.out.below bg)
 have dt:=zh (fb.out.below bg)
 have fo:=zh (dx.out.below bg)
 have d4:=zh (dz.out.below bg)
 have e9:=(bg.block _ (Array.getElem?_eq_some_iff.1 cI.out).1).trans cI.out
 have d7:=zh (d6.out.trans (bg.mono d6.out.size))
 have bI:=zh (show ¬ oY T n m lt lu lv s->R (.returned (.tuple #[.bool false,.int .i64 0])) w4 from λh=>hR.out _ _ ⟨.inr ⟨h,rfl⟩,d7.out⟩)
 have b5:=zh (show oY T n m lt lu lv s->R (.returned (.tuple #[.bool true,.int .i64 0])) w4 from λh=>hR.out _ _ ⟨.inl ⟨h,rfl⟩,d7.out⟩)
 clear hR c9 cd bg b7 v0 v1 r0 r1 r2 r3 r4
 obtain⟨r0,r1,r2,r3,r4⟩:=an e9
 clear e9
 go_wp2_with fail
 go_loop [10,58] (λ_ s58=>∃ k:Nat,k<=n+m/\s58=.int .i64 ((k:Nat):Int)/\Hid (ui (lu++lv) k)) (λ_ s58=>(n+m)-(intOf s58).toNat)
 case atStart=>exact⟨0,by omega,rfl,zh (λi hi=>by omega)⟩
 obtain⟨k,hk,rfl,Hk⟩:=hrel
 by_cases aF:k<n+m
 ·obtain⟨b4,o4,x,rfl,_,hx,q0⟩:=gw.out.at1 aF
  have i1:(k:Int)<((n+m:Nat):Int):=by omega
  have i1':(k:Int)<(n:Int)+(m:Int):=by omega
  by_cases a0:mw x
  ·have HR:=zh (DB Hk.out hx a0)
   have e1 : -2000000000000000000<=x:=a0.1
   have e2:x<=2000000000000000000:=a0.2
   clear hx a0
   go_wp2
   exact⟨⟨k+1,by omega,by go_num,HR⟩,by simp[intOf];omega⟩
  have Hf:=zh (bI.out (Fo bD.out.symm bE.out.symm aF hx a0))
  by_cases e1:x < -2000000000000000000
  ·clear hx a0
   go_wp2
   exact Hf.out
  have e2:2000000000000000000<x:=by
   by_cases e2:2000000000000000000<x
   ·exact e2
   exact absurd ⟨by omega,by omega⟩ a0
  have e3 : -2000000000000000000<=x:=by omega
  clear hx a0 e1
  go_wp2
  exact Hf.out
 obtain rfl:k=n+m:=by omega
 have ej:=zh (IE (T:=T) (s:=s) f8.out.symm bD.out.symm bE.out.symm Hk.out)
 have cn:=Hk.out
 rw[show n+m=lu.length+lv.length by rw[← bD.out,← bE.out]] at cn
 have go:=zh (show ∀ i,i<n->mw (lu.getD i 0) from λi hi=>ye cn (by rw[← bD.out];exact hi))
 have gs:=zh (show ∀ i,i<m->mw (lv.getD i 0) from λi hi=>vE cn (by rw[← bE.out];exact hi))
 rw[gN.out] at ej
 obtain⟨ts,g7⟩:∃ ts,(t==s)=ts:=⟨_,rfl⟩
 have eo:=zh (show ts=true ↔ t=s from by rw[← g7];simp)
 clear cn aF hk
 go_wp2_with fail
 go_loop [11,12,13,76] (λs11 _ _ s76=>∃ (k:Nat) (pf:Bool),k<=m/\s76=.int .i64 ((k:Nat):Int)/\s11=.bool pf/\Hid (pf=true ↔ (t=s/\sY lt lv k))) (λ_ _ _ s76=>m-(intOf s76).toNat)
 case atStart=>exact⟨0,ts,by omega,rfl,rfl,zh ⟨λh=>⟨eo.out.1 h,λj hj=>by omega⟩,λh=>eo.out.2 h.1⟩⟩
 obtain⟨k,pf,hk,rfl,rfl,bf⟩:=hrel
 by_cases aF:k<m
 ·obtain⟨bv,ov,y,rfl,_,hy,qv⟩:=d4.out.at1 aF
  have bm:lv.getD k 0=y:=by rw[List.getD_eq_getElem?_getD,hy];rfl
  have bS:=zh (FO (lt:=lt) bm)
  have i1:(k:Int)<(m:Int):=by omega
  clear hy bm
  cases pf with
  |false =>
   have HP:=zh (show (false=true ↔ (t=s/\sY lt lv (k+1))) from ⟨(λh=>by cases h),λh=>bf.out.2 ⟨h.1,(bS.out.1 h.2).1⟩⟩)
   go_wp2
   exact⟨⟨k+1,false,by omega,by go_num,rfl,HP⟩,by simp[intOf];omega⟩
  |true =>
   by_cases cA:y<=0
   ·by_cases bp:y=0
    ·have g1:(y==0)=true:=by simp[bp]
     have HP:=zh (show (true=true ↔ (t=s/\sY lt lv (k+1))) from ⟨λ_=>⟨(bf.out.1 rfl).1,bS.out.2 ⟨(bf.out.1 rfl).2,cA,.inl bp⟩⟩,λ_=>rfl⟩)
     clear bp
     go_wp2
     exact⟨⟨k+1,true,by omega,by go_num,rfl,HP⟩,by simp[intOf];omega⟩
    have g1:(y==0)=false:=by simpa using bp
    obtain⟨cb,b8⟩:∃ cb,decide ((k:Int)∈lt)=cb:=⟨_,rfl⟩
    have HP:=zh (show (cb=true ↔ (t=s/\sY lt lv (k+1))) from ⟨λh=>⟨(bf.out.1 rfl).1,bS.out.2 ⟨(bf.out.1 rfl).2,cA,.inr (by rw[h] at b8;exact of_decide_eq_true b8)⟩⟩,λh=>by
     rw[← b8]
     exact decide_eq_true ((bS.out.1 h.2).2.2.elim (λh=>absurd h bp) id)⟩)
    have hC:=xa A1 n c1 lt (k:Int) w4 dt.out (by omega)
    rw[b8] at hC
    have HC:=zh hC
    clear bp b8 hC
    go_wp2_with fail
    refine HC.out.mono ?_
    rintro e w5 ⟨rfl,rfl⟩
    go_wp2
    exact⟨⟨k+1,cb,by omega,by go_num,rfl,HP⟩,by simp[intOf];omega⟩
   have hm:0<y:=by omega
   have HP:=zh (show (false=true ↔ (t=s/\sY lt lv (k+1))) from ⟨(λh=>by cases h),λh=>absurd (bS.out.1 h.2).2.1 cA⟩)
   clear cA
   go_wp2
   exact⟨⟨k+1,false,by omega,by go_num,rfl,HP⟩,by simp[intOf];omega⟩
 obtain rfl:k=m:=by omega
 have HB:=zh (show pf=true ↔ (t=s/\sY lt lv k) from bf.out)
 clear aF hk bf
 go_wp2_with fail
 go_loop [11,14,15,16,17,18,100] (λs11 _ _ _ _ _ s100=>∃ (i:Nat) (pg:Bool),i<=n/\s100=.int .i64 ((i:Nat):Int)/\s11=.bool pg/\Hid (pg=true ↔ (pf=true/\∀ a,a<i->∀ b,b<k->xZ T lt lu lv a b))) (λ_ _ _ _ _ _ s100=>n-(intOf s100).toNat)
 case atStart=>exact⟨0,pf,by omega,rfl,rfl,zh ⟨λh=>⟨h,λa ha=>by omega⟩,λh=>h.1⟩⟩
 obtain⟨i,pg,hi,rfl,rfl,ei⟩:=hrel
 by_cases am:i<n
 ·obtain⟨bu,ou,x,rfl,_,hx,qu⟩:=fo.out.at1 am
  have c6:lu.getD i 0=x:=by rw[List.getD_eq_getElem?_getD,hx];rfl
  have cr:=go.out i am
  rw[c6] at cr
  have e1 : -2000000000000000000<=x:=cr.1
  have e2:x<=2000000000000000000:=cr.2
  have f7:=zh c6
  have i1:(i:Int)<(n:Int):=by omega
  clear hx c6 cr
  go_wp2_with fail
  go_loop [11,16,17,18,108] (λs11 _ _ _ s108=>∃ (j:Nat) (ph:Bool),j<=k/\s108=.int .i64 ((j:Nat):Int)/\s11=.bool ph/\Hid (ph=true ↔ (pg=true/\∀ b,b<j->xZ T lt lu lv i b))) (λ_ _ _ _ s108=>k-(intOf s108).toNat)
  case atStart=>exact⟨0,pg,by omega,rfl,rfl,zh ⟨λh=>⟨h,λa ha=>by omega⟩,λh=>h.1⟩⟩
  obtain⟨j,ph,hj,rfl,rfl,cL⟩:=hrel
  by_cases b9:j<k
  ·obtain⟨b',o',Ai,ci,bi,oi,e5,_,_,t1,rfl,t2⟩:=iM cC.out bc.out.rect (Below.refl _ _) am b9
   simp only[Option.some.injEq,Addr.mk.injEq,and_true] at e5
   obtain⟨rfl,rfl⟩:=e5
   obtain⟨bv,ov,y,rfl,_,hy,qv⟩:=d4.out.at1 b9
   obtain⟨bt,ot,z,rfl,_,hz,qt⟩:=dt.out.at1 am
   have bm:lv.getD j 0=y:=by rw[List.getD_eq_getElem?_getD,hy];rfl
   have c8:lt.getD i 0=z:=by rw[List.getD_eq_getElem?_getD,hz];rfl
   have cx:=gs.out j b9
   rw[bm] at cx
   have e3 : -2000000000000000000<=y:=cx.1
   have e4:y<=2000000000000000000:=cx.2
   obtain⟨v,hv⟩:∃ v,ct T i j=v:=⟨_,rfl⟩
   rw[hv] at t2
   have e8:=bc.out.costOk i j (by rw[← cC.out.1];exact am) b9
   have he:z=(j:Int)->0<=v:=λh=>by
    have h1:=(en.out.2 i (by rw[← cC.out.1];exact am)).2.2.1
    rw[c8,h,Int.toNat_natCast,hv] at h1
    exact h1
   rw[hv] at e8
   obtain⟨b1,bk⟩:∃ b1,(v == -1)=b1:=⟨_,rfl⟩
   obtain⟨b2,aa⟩:∃ b2,decide (x+y<=v)=b2:=⟨_,rfl⟩
   obtain⟨b3,g0⟩:∃ b3,(z != (j:Int))=b3:=⟨_,rfl⟩
   obtain⟨b4,cd⟩:∃ b4,(x+y==v)=b4:=⟨_,rfl⟩
   have HP:=zh (show ((ph&&(b1||b2))&&(b3||b4))=true ↔ (pg=true/\∀ b,b<j+1->xZ T lt lu lv i b) from by
    rw[wJ,← and_assoc,← cL.out,Bool.and_eq_true,Bool.and_eq_true,Bool.or_eq_true,Bool.or_eq_true,← bk,← aa,← g0,← cd]
    unfold xZ
    rw[hv,f7.out,bm,c8]
    simp only[beq_iff_eq,decide_eq_true_eq,bne_iff_ne,ne_eq]
    constructor
    ·rintro⟨⟨h1,h2⟩,h3⟩
     exact⟨h1,by omega,by omega⟩
    rintro⟨h1,h2,h3⟩
    exact⟨⟨h1,by omega⟩,by omega⟩)
   have i2:(j:Int)<(k:Int):=by omega
   clear hy hz bm c8 cx hv e8 he
   cases ph<;>cases b1<;>cases b2<;>cases b3<;>cases b4
   all_goals
    go_wp2_with fail
    exact⟨⟨j+1,_,by omega,by go_num,rfl,HP⟩,by simp[intOf];omega⟩
  obtain rfl:j=k:=by omega
  have HP:=zh (show ph=true ↔ (pf=true/\∀ a,a<i+1->∀ b,b<j->xZ T lt lu lv a b) from by
   rw[wJ,← and_assoc,← ei.out]
   exact cL.out)
  clear b9 hj cL
  go_wp2
  exact⟨⟨i+1,ph,by omega,by go_num,rfl,HP⟩,by simp[intOf];omega⟩
 obtain rfl:i=n:=by omega
 have cl:pg=true ↔ oY T i k lt lu lv s:=by
  rw[ej.out,← HB.out]
  exact ei.out
 cases pg with
 |true =>
  have Hf:=zh (b5.out (cl.1 rfl))
  clear cl
  go_wp2
  exact Hf.out
 |false =>
  have Hf:=zh (bI.out (λh=>by have:=cl.2 h;cases this))
  clear cl
  go_wp2
  exact Hf.out
end
section
open Go.RowKit
end
section
open Go.RowKit
theorem wT{w:World}{A:Option Addr}{n i:Nat}{l:List Nat}(h:ag ak 1 w A n (aX l))(hi:i<n):∃ b o,A=some ⟨b,o,none⟩/\w.cell? ⟨b,o+i,none⟩=some (.int .i64 ((l.getD i 0:Nat):Int)):=by
 obtain⟨b,o,x,hA,_,hx,hc⟩:=h.at1 hi
 refine⟨b,o,hA,?_⟩
 rw[hc,← nD,List.getD_eq_getElem?_getD,hx]
 rfl
end
section
open Go.RowKit
def kU(js qs:List (Int×Int))(l:List Nat)(i:Nat):Int:=(qs.getD (l.getD i 0) (0,0)).2-(js.getD i (0,0)).2
def dM(js qs:List (Int×Int))(l:List Nat)(n:Nat):List Int:=(List.range n).map (kU js qs l)
theorem vl(js qs:List (Int×Int))(l:List Nat)(n:Nat):dM js qs l (n+1)=dM js qs l n++[kU js qs l n]:=by
 unfold dM
 rw[List.range_succ,List.map_append]
 rfl
theorem nZ(js qs:List (Int×Int))(l:List Nat)(n:Nat):(dM js qs l n).length=n:=by simp[dM]
theorem CA{be tr:Int}{js qs:List (Int×Int)}{i c:Nat}{j q:Int×Int}(hj:js[i]?=some j)(hq:qs[c]?=some q):ct (eJ be tr js qs) i c=ent be tr j q:=by
 unfold ct eJ
 rw[List.getD_eq_getElem?_getD (l:=js.map (jz be tr qs)),List.getElem?_map,hj]
 show (jz be tr qs j).getD c (-1)=_
 unfold jz
 rw[List.getD_eq_getElem?_getD,List.getElem?_map,hq]
 rfl
theorem j7(be tr:Int)(js qs:List (Int×Int)):(eJ be tr js qs).length=js.length:=by simp[eJ]
theorem xS{be tr:Int}{js qs:List (Int×Int)}{l:List Nat}(h:iN (eJ be tr js qs) qs.length l){i:Nat}(hi:i<js.length):l.getD i 0<qs.length/\0<=kU js qs l i:=by
 obtain⟨h1,h2⟩:=h.ok i (by rw[j7];exact hi)
 refine⟨h1,?_⟩
 rw[CA (List.getElem?_eq_getElem hi) (List.getElem?_eq_getElem h1)] at h2
 unfold ent at h2
 unfold kU
 rw[aw _ _ _ hi,aw qs _ _ h1]
 split at h2
 ·omega
 omega
theorem eZ{x y:Int}(h:cy (x,y)=true):(0<=x/\x<=10000)/\(0<=y/\y<=10000):=by
 unfold cy at h
 rwa [Bool.and_eq_true,eU,eU] at h
theorem vp{W:World}{base e size n:Nat}{v:Value}{xs:List Value}(h:W.ownsRow base e size v n xs):W.drew.ownsRow base e size v n xs:=h
def J5(js qs:List (Int×Int))(be tr:Int)(n:Nat)(w':World)(e:Ending):Prop:=
 (eC js qs be tr=false/\e=.returned (.tuple #[.slice none 0 0,.slice none 0 0,.int .i64 0,.int .i64 1]))\/
 (eC js qs be tr=true/\fq (eJ be tr js qs) qs.length=none/\e=.returned (.tuple #[.slice none 0 0,.slice none 0 0,.int .i64 0,.int .i64 6]))\/
 (eC js qs be tr=true/\∃ l s,fq (eJ be tr js qs) qs.length=some (l,s)/\∃ B c A d,e=.returned (.tuple #[.slice B n c,.slice A n d,.int .i64 s,.int .i64 0])/\ag ak 1 w' B n (aX l)/\ag ak 1 w' A n (dM js qs l n))
theorem Br(A1 A2:Option Addr)(n1 n2 c1 c2:Nat)(js qs:List (Int×Int))(be tr:Int)(w:World)(h1:ag iV 2 w A1 n1 js)(h2:ag iV 2 w A2 n2 qs)(ev:n1<=9223372036854775807)(g5:n2<=9223372036854775807) :
 Calls Tryz.prog 197 #[.slice A1 n1 c1,.slice A2 n2 c2,.int .i64 be,.int .i64 tr] w λe w'=>J5 js qs be tr n1 w' e/\Below w.heap.size w w':=by
 refine ae ?_
 intro R hR
 have ec:=zh h1.1
 have bw:=zh h2.1
 have H1:=zh h1
 have H2:=zh h2
 clear h1 h2
 go_enter Tryz.func197,Tryz.ntmps197
 go_wp2_with fail
 refine (nV A1 A2 n1 n2 c1 c2 js qs be tr w H1.out H2.out ev g5).mono ?_
 rintro e w1 ⟨⟨cp,rfl⟩|⟨ds,A,c,rfl,hs⟩,bk⟩
 ·have Hf:=zh (hR.out (.returned (.tuple #[.slice none 0 0,.slice none 0 0,.int .i64 0,.int .i64 1])) w1 ⟨.inl ⟨cp,rfl⟩,bk⟩)
  clear cp bk
  go_wp2
  refine bodyPost_ret (v:=.tuple #[.slice none 0 0,.slice none 0 0,.int .i64 0,.int .i64 1]) ?_ rfl Hf.out
  simp[results,Tryz.results197,go_sem]
 have b5:=zh ds
 have ad:=tt ds
 obtain⟨T,hT⟩:∃ T,eJ be tr js qs=T:=⟨_,rfl⟩
 have cO:T.length=n1:=by rw[← hT,j7,ec.out]
 rw[← bw.out] at ad
 rw[hT] at hs ad
 have Hs:=zh hs
 have bc:=zh ad
 have HT:=zh hT
 have f2:=zh cO
 have ca:=zh bk
 have hg:n1<=64:=by rw[← cO];exact Nat.le_trans ad.nm ad.m64
 have g4:=ad.m64
 clear ds hs ad hT cO bk
 by_cases cc:cE (gT T) n2 (List.range n1)=n1
 ·have HK:=zh cc
  clear cc
  go_wp2_with fail
  refine (vg A n1 c n2 T w1 Hs.out bc.out HK.out).mono ?_
  rintro e w2 ⟨B1,B2,B3,d1,d2,d3,l,s,lu,lv,rfl,hB,s1,_,_,_,_,_,_,_,_,aa⟩
  have Hx:=zh (heap_alloc_new w2 (.cells #[.slice B1 n1 d1,.slice B2 n1 d2,.slice B3 n2 d3,.int .i64 s] 77))
  have b6:=aa.trans ((ab w2 (.cells #[.slice B1 n1 d1,.slice B2 n1 d2,.slice B3 n2 d3,.int .i64 s] 77)).mono aa.size)
  have a9:=zh (ca.out.trans (b6.mono ca.out.size))
  have cN:=zh (s1.below (ab w2 (.cells #[.slice B1 n1 d1,.slice B2 n1 d2,.slice B3 n2 d3,.int .i64 s] 77)))
  obtain⟨w3,dk⟩:∃ w3,w2.alloc (.cells #[.slice B1 n1 d1,.slice B2 n1 d2,.slice B3 n2 d3,.int .i64 s] 77)=w3:=⟨_,rfl⟩
  obtain⟨gb,c5⟩:∃ gb,w2.heap.size=gb:=⟨_,rfl⟩
  have gO:=zh dk
  have f6:=zh c5
  rw[dk] at Hx a9 cN
  rw[c5] at Hx
  have f9:=zh (show ∀ i,i<n1->l.getD i 0<n2/\0<=kU js qs l i from λi hi=>by
   have h:=hB.best.asg
   rw[← HT.out,bw.out] at h
   rw[bw.out]
   exact xS h (by rw[← ec.out];exact hi))
  have HB:=zh (wQ hB.best)
  have Hq:=zh (by
   have h:=b5.out
   unfold eC at h
   simp only[Bool.and_eq_true,List.all_eq_true] at h
   exact (⟨h.1.2,h.2⟩:(∀ x∈js,cy x=true)/\∀ x∈qs,cy x=true))
  clear hB s1 aa b6 dk c5
  obtain⟨r0,r1,r2,r3,r4⟩:=an Hx.out
  go_wp2_with (rw[gO.out,f6.out])
  go_loopg [15,40] n1 (λgk s15 s40 wr=>∃ (i:Nat) (A:Option Addr) (c:Nat),i+gk=n1/\s40=.int .i64 ((i:Nat):Int)/\s15=.slice A i c/\wr.ownsRow w3.heap.size 3 1 (.slice A i c) i ((dM js qs l i).flatMap ak)/\Below w3.heap.size w3 wr)
  case atStart=>exact⟨0,none,0,by omega,rfl,rfl,⟨rfl,.inl ⟨rfl,rfl⟩⟩,Below.refl _ _⟩
  obtain⟨i,Ao,co,hf,rfl,rfl,ho,hb⟩:=hrel
  obtain⟨wi,rfl⟩:∃ wi:World,wi=wr:=⟨_,rfl⟩
  have Ho:=zh ho
  have Hb:=zh hb
  have g6:=hb.size
  clear ho hb r0 r1 r2 r3 r4
  by_cases am:i<n1
  ·obtain⟨bt,ot,rfl,t0⟩:=wT (cN.out.below Hb.out) am
   obtain⟨et,g3⟩:=f9.out i am
   have cV:Below w.heap.size w wi:=a9.out.trans (Hb.out.mono a9.out.size)
   obtain⟨bj,oj,jx,jy,rfl,_,hj,_,j1⟩:=(H1.out.below cV).atM2 am
   obtain⟨bq,oq,qx,qy,rfl,_,dd,_,q1⟩:=(H2.out.below cV).atM2 et
   have eF:kU js qs l i=qy-jy:=by
    unfold kU
    rw[List.getD_eq_getElem?_getD (l:=qs),dd,List.getD_eq_getElem?_getD (l:=js),hj]
    rfl
   have HO:=zh (show dM js qs l (i+1)=dM js qs l i++[qy-jy] by rw[vl,eF])
   have cS:=(eZ (Hq.out.1 _ (List.mem_of_getElem? hj))).2
   have cT:=(eZ (Hq.out.2 _ (List.mem_of_getElem? dd))).2
   obtain⟨lc,eu⟩:∃ lc,l.getD i 0=lc:=⟨_,rfl⟩
   rw[eu] at t0 et q1
   have i1:(i:Int)<(n1:Int):=by omega
   have i2:(lc:Int)<(n2:Int):=by omega
   have z1:IntKind.i64.wrap (qy-jy)=qy-jy:=IntWalk.i64_in _ (by omega)
   have m1:=cS.1
   have m2:=cS.2
   have m3:=cT.1
   have m4:=cT.2
   have eg:=zh (show (wi.alloc (.cells #[.int .i64 (qy-jy)] 3)).drew.ownsRow w3.heap.size 3 1 (.slice Ao i co) i ((dM js qs l i).flatMap ak) from vp (Ho.out.kept (World.grownBy_alloc wi _ none) (by cases (Value.slice Ao i co).ownBlock<;>simp)))
   have f5:=zh (show Below w3.heap.size w3 (wi.alloc (.cells #[.int .i64 (qy-jy)] 3)).drew from (Hb.out.alloc g6 _).drew)
   have gC:=zh (show Sl (wi.alloc (.cells #[.int .i64 (qy-jy)] 3)).drew 1 (some ⟨wi.heap.size,0,none⟩) 1 [.int .i64 (qy-jy)] from (Sl.new wi #[.int .i64 (qy-jy)] 3 1 1 rfl).drew)
   have e6:w3.heap.size<=(wi.alloc (.cells #[.int .i64 (qy-jy)] 3)).drew.heap.size:=by show w3.heap.size<=(wi.alloc (.cells #[.int .i64 (qy-jy)] 3)).heap.size;rw[World.size_alloc];omega
   have ga:=zh (show ∀ u∈[Value.int .i64 (qy-jy)],u.oneCell'=true from by simp[Value.oneCell'])
   have gI:=zh (λ(A7:Option Addr) (c7:Nat) (w7:World) (cq:w7.ownsRow w3.heap.size 3 1 (.slice A7 (i+1) c7) (i+1) ((dM js qs l i).flatMap ak++[.int .i64 (qy-jy)])) (cj:(wi.alloc (.cells #[.int .i64 (qy-jy)] 3)).drew.grownBy w7 (Value.slice Ao i co).ownBlock)=>(⟨aL f5.out eg.out (Nat.le_refl _) e6 cj,by rw[HO.out,List.flatMap_append];exact cq⟩:Below w3.heap.size w3 w7/\w7.ownsRow w3.heap.size 3 1 (.slice A7 (i+1) c7) (i+1) ((dM js qs l (i+1)).flatMap ak)))
   clear g3 cV hj dd eF cS cT eu
   go_wp2_with fail
   go_region_law ((refine er rfl (.tmp 45) (.tmp 57) 27 rfl lG w3.heap.size (.slice Ao i co) i _ ?_ eg.out (some ⟨wi.heap.size,0,none⟩) 1 1 [.int .i64 (qy-jy)] ?_ gC.out ga.out (by unfold maxLen;omega) (by omega) e6 ?_;(· (simp[Act.eval]));(· (simp[Act.eval]));intro A7 c7 w7 cq cj _;obtain⟨es,eB⟩:=gI.out A7 c7 w7 cq cj))
   all_goals
    have f0:=zh eB
    have fz:=zh es
    clear cq cj eB es
    go_wp2_with fail
    go_roundg (gk-1)
    case measure=>omega
    case rel=>exact⟨i+1,A7,c7,by omega,by go_num,rfl,f0.out,fz.out⟩
  obtain rfl:i=n1:=by omega
  have hx:=(Hb.out.block gb (Array.getElem?_eq_some_iff.1 Hx.out).1).trans Hx.out
  obtain⟨r0,r1,r2,r3,r4⟩:=an hx
  have Hf:=zh (show ∀ q,R (.returned (.tuple #[.slice B1 i d1,.slice Ao i co,.int .i64 s,.int .i64 0])) (wi.drewN q) from λq=>hR.out _ _ ⟨.inr (.inr ⟨b5.out,l,s,by rw[HT.out,← bw.out];exact HB.out,B1,d1,Ao,co,rfl,(cN.out.below Hb.out).drewN q,(ag.of_own Ho.out (nZ _ _ _ _).symm).drewN q⟩),dT (a9.out.trans (Hb.out.mono a9.out.size)) q⟩)
  clear hx
  go_wp2_with fail
  go_quiet (fail)
  go_wp2
  refine bodyPost_ret (v:=.tuple #[.slice B1 i d1,.slice Ao i co,.int .i64 s,.int .i64 0]) ?_ rfl (Hf.out _)
  simp[results,Tryz.results197,go_sem]
 have bI:=zh cc
 clear cc
 go_wp2_with fail
 refine (uG A n1 c n2 T w1 Hs.out bc.out bI.out).mono ?_
 rintro e w2 ⟨rfl,aa⟩
 have b6:=aa.trans ((ab w2 (.cells #[.slice none 0 0,.slice none 0 0,.slice none 0 0,.int .i64 0] 77)).mono aa.size)
 have Hf:=zh (hR.out (.returned (.tuple #[.slice none 0 0,.slice none 0 0,.int .i64 0,.int .i64 6])) _ ⟨.inr (.inl ⟨b5.out,by rw[HT.out,← bw.out];exact (pd T n2).2 (by rw[f2.out];exact bI.out),rfl⟩),ca.out.trans (b6.mono ca.out.size)⟩)
 clear aa b6
 go_wp2
 refine bodyPost_ret (v:=.tuple #[.slice none 0 0,.slice none 0 0,.int .i64 0,.int .i64 6]) ?_ rfl Hf.out
 simp[results,Tryz.results197,go_sem]
end
end Go.Proofs.YtgbnicokglpdbaaGreatDoor
