/-
Plain; conditions: those of each theorem.
-/
import Derived.Test.YtgbnicokglpdbaaGreatDoorBa
import Derived.Test.YtgbnicokglpdbaaGreatDoorA1
import Derived.Deep.CutBlock
import Derived.Deep.RegionHeld
namespace Go.Proofs.YtgbnicokglpdbaaGreatDoor
set_option maxHeartbeats 8000000
set_option maxRecDepth 8000
section
section
def nP(T:List Tk):Nat:=2+2*T.length
theorem Cw:∀ (T:List Tk),(∀ (i:Nat) (t:Tk),T[i]?=some t->0<=t.C/\t.C<=t.N/\t.N<=1000/\0<=t.R/\t.R<=10000)->0<=wX T/\wX T<=10000000*(T.length:Int)
 |[],_=>by simp[wX]
 |t :: T,h=>by
  obtain⟨h1,h2,h3,h4,h5⟩:=h 0 t rfl
  have ih:=Cw T λi u hu=>h (i+1) u hu
  have e1:0<=t.R*(t.N-t.C):=Int.mul_nonneg h4 (by omega)
  have e2:t.R*(t.N-t.C)<=10000*1000:=Int.mul_le_mul h5 (by omega) (by omega) (by omega)
  unfold wX
  rw[List.length_cons]
  omega
theorem mU{T:List Tk}(hT:AJ T){a:Ac}(ha:a∈ah T 0 0):a.f<nP T/\a.t<nP T/\0<=a.l/\a.l<=1000/\(a.k=0->a.r<=10000)/\(a.k≠0->a.r=aG)/\0<=a.r:=by
 obtain⟨i,t,hi,hk⟩:=gQ T 0 0 ha
 rw[Nat.zero_add] at hk
 have am:=(List.getElem?_eq_some_iff.1 hi).1
 obtain⟨h1,h2,h3,h4,h5,h6⟩:=hT.tk i t hi
 have e0:(0:Int)<=aG:=by decide
 unfold nP
 have z0:(0:Int)<=0:=Int.le_refl _
 have z1:(0:Int)<=1000:=by decide
 cases hk with
 |inn k=>dsimp only;unfold bI;exact⟨by omega,by omega,z0,z1,λh=>absurd h (by decide),λ_=>rfl,e0⟩
 |out k=>dsimp only;unfold eI;exact⟨by omega,by omega,z0,z1,λh=>absurd h (by decide),λ_=>rfl,e0⟩
 |nor k=>dsimp only;unfold bI eI;exact⟨by omega,by omega,by omega,h3,λ_=>h5,λh=>absurd rfl h,h4⟩
 |cra k=>dsimp only;unfold bI eI;exact⟨by omega,by omega,h1,by omega,λh=>absurd h (by decide),λ_=>rfl,e0⟩
 |lnk b k hb=>dsimp only;unfold bI eI;have:=h6 b hb;exact⟨by omega,by omega,z0,z1,λh=>absurd h (by decide),λ_=>rfl,e0⟩
structure rL(T:List Tk)(dl:Int)(F:Nat->Int)(V Q:Int)(b:Bool)(f:Nat->Int):Prop where
 nn:∀ (j:Nat) (a:Ac),(ah T 0 0)[j]?=some a->0<=F j/\(a.k=0->F j<=a.r)/\F j<=Q
 bal:∀ ps:Nat->Int,wE (λa=>ps a.t-ps a.f) (ah T 0 0) F 0=V*(ps 1-ps 0)
 gain:Q<=wE (λa=>a.l) (ah T 0 0) F 0-dl*V
 q0:0<=Q
 v0:0<=V
 cf:Cf (aq (ah T 0 0) F 0) (nP T) 0 1 32000 1000 f
 fl:(b=true->dl<f 1-f 0)/\(b=false->V=0)
structure Dl(T:List Tk)(dl:Int):Prop where
 ok:AJ T
 r:0<=dl/\dl<=1000000
 ex:∃ (st:Nat->Int) (fin:Int) (d:Nat->Int),(∀ (i:Nat) (t:Tk),T[i]?=some t->d i=t.C)/\Km T d st fin/\fin<=dl
section
variable{T:List Tk}{dl:Int}(hD:Dl T dl)
include hD
theorem Dl.cap{F:Nat->Int}{V:Int}(hn:∀ (j:Nat) (a:Ac),(ah T 0 0)[j]?=some a->0<=F j/\(a.k=0->F j<=a.r))(hb:∀ ps:Nat->Int,wE (λa=>ps a.t-ps a.f) (ah T 0 0) F 0=V*(ps 1-ps 0))(hv:0<=V) :
 wE (λa=>a.l) (ah T 0 0) F 0-dl*V<=320000000:=by
 obtain⟨st,fin,d,hd,hs,hf⟩:=hD.ex
 have h1:=zU hd hs T 0 0 0 F (λj t hj=>by
  rw[Nat.zero_add]
  obtain⟨-,h2,-,h4,-⟩:=hD.ok.tk j t hj
  exact⟨hj,h4,h2⟩) (λj a hj=>by rw[Nat.zero_add];exact hn j a hj)
 have h2:=gP (λa=>a.l-(gG d st fin a.t-gG d st fin a.f)) (λa=>gG d st fin a.t-gG d st fin a.f) (F:=F) (ah T 0 0) 0
 have h3:wE (λa=>a.l-(gG d st fin a.t-gG d st fin a.f)+(gG d st fin a.t-gG d st fin a.f)) (ah T 0 0) F 0=wE (λa=>a.l) (ah T 0 0) F 0:=oQ _ _ λi a _=>by rw[Int.sub_add_cancel]
 rw[h3,hb (gG d st fin),BQ,FN,Int.sub_zero] at h2
 have h4:=Cw T λi t hi=>by
  obtain⟨g1,g2,g3,g4,g5,-⟩:=hD.ok.tk i t hi
  exact⟨g1,g2,g3,g4,g5⟩
 have h5:V*fin<=V*dl:=Int.mul_le_mul_of_nonneg_left hf hv
 have h6:dl*V=V*dl:=Int.mul_comm _ _
 have:=hD.ok.l2
 omega
theorem rL.cap{F:Nat->Int}{V Q:Int}{b:Bool}{f:Nat->Int}(h:rL T dl F V Q b f):Q<=320000000:=by
 have:=hD.cap (λj a hj=>⟨(h.nn j a hj).1,(h.nn j a hj).2.1⟩) h.bal h.v0
 have:=h.gain
 omega
theorem BV{F:Nat->Int}{M U B:Int}{f:Nat->Int}{C:List Cd}(hc:Cf C (nP T) 0 M U B f)(hsub:∀ c∈aq (ah T 0 0) F 0,c∈C)(hF:∀ (j:Nat) (a:Ac),(ah T 0 0)[j]?=some a->F j<aG) :
 (cK C (bB 0)).L 0=0/\∀ v,v<nP T->(cK C (bB 0)).L v≠aJ/\0<=(cK C (bB 0)).L v/\(cK C (bB 0)).L v<=(cK C (bB 0)).L 1:=by
 obtain⟨hi,aa⟩:=hc.fin
 generalize cK C (bB 0)=s at hi aa ⊢
 have fc:(0:Int)≠aJ:=by decide
 have h0:s.L 0≠aJ:=by rw[hi.root];exact fc
 have cp:∀ a∈ah T 0 0,a.r=aG->s.L a.f≠aJ->s.L a.t≠aJ/\s.L a.f+a.l<=s.L a.t:=λa ha hr hf=>by
  obtain⟨j,hj⟩:=List.getElem?_of_mem ha
  exact aa ⟨a.f,a.t,a.l,(j,false)⟩ (hsub _ ((eK _ 0).2 ⟨j,a,hj,by rw[Nat.zero_add];exact gS.2 (.inl ⟨by rw[hr];exact hF j a hj,rfl⟩)⟩)) hf
 have cq:∀ i,i<T.length->(s.L (bI i)≠aJ/\0<=s.L (bI i))/\(s.L (eI i)≠aJ/\s.L (bI i)<=s.L (eI i))/\s.L 1≠aJ/\s.L (eI i)<=s.L 1:=λi fo=>by
  have ht:=List.getElem?_eq_getElem fo
  obtain⟨a1,a2,-,a4,-⟩:=tG T 0 0 i _ ht
  rw[Nat.zero_add] at a1 a2 a4
  obtain⟨b1,b2⟩:=cp _ a1 rfl h0
  obtain⟨c1,c2⟩:=cp _ a4 rfl b1
  obtain⟨d1,d2⟩:=cp _ a2 rfl c1
  have hC:=(hD.ok.tk i _ ht).1
  dsimp only at b1 b2 c1 c2 d1 d2
  rw[hi.root] at b2
  exact⟨⟨b1,by omega⟩,⟨c1,by omega⟩,d1,by omega⟩
 have hl:=hD.ok.l1
 obtain⟨⟨-,z1⟩,⟨-,z2⟩,z3,z4⟩:=cq 0 (by omega)
 refine⟨hi.root,λv hv=>?_⟩
 unfold nP at hv
 by_cases e0:v=0
 ·subst e0;exact⟨h0,by rw[hi.root];exact Int.le_refl _,by rw[hi.root];omega⟩
 by_cases e1:v=1
 ·subst e1;exact⟨z3,by omega,Int.le_refl _⟩
 by_cases e2:v%2=0
 ·obtain⟨⟨q1,q2⟩,⟨-,q3⟩,-,q4⟩:=cq ((v-2)/2) (by omega)
  rw[show bI ((v-2)/2)=v by unfold bI;omega] at q1 q2 q3
  exact⟨q1,q2,by omega⟩
 obtain⟨⟨-,q2⟩,⟨q1,q3⟩,-,q4⟩:=cq ((v-3)/2) (by omega)
 rw[show eI ((v-3)/2)=v by unfold eI;omega] at q1 q3 q4
 exact⟨q1,by omega,q4⟩
theorem td{F:Nat->Int}{V Q:Int}{b:Bool}{f:Nat->Int}(h:rL T dl F V Q b f)(hL:dl<(cK (aq (ah T 0 0) F 0) (bB 0)).L 1) :
 ∃ S,jI (ah T 0 0) (cK (aq (ah T 0 0) F 0) (bB 0)).P 1 S/\1<=g9 (ah T 0 0) F S aG/\rL T dl (fj (g9 (ah T 0 0) F S aG) S F) (V+g9 (ah T 0 0) F S aG) (Q+g9 (ah T 0 0) F S aG) true (cK (aq (ah T 0 0) F 0) (bB 0)).L/\tD S/\∀ x∈S,∃ a,AK (ah T 0 0) F (cK (aq (ah T 0 0) F 0) (bB 0)).L x a:=by
 have hq:=h.cap hD
 have hF:∀ (j:Nat) (a:Ac),(ah T 0 0)[j]?=some a->F j<aG:=λj a hj=>by have:=(h.nn j a hj).2.2;unfold aG;omega
 obtain⟨r0,hr⟩:=BV hD h.cf (F:=F) (λc hc=>hc) hF
 have h1:=(hr 1 (by unfold nP;omega)).1
 obtain⟨S,w1,w2,w3,w4⟩:=J0 h.cf h1
 obtain⟨hi,aa⟩:=h.cf.fin
 have a9:=λv (hv:v<nP T)=>h.cf.hi hi (hr v hv).1
 generalize hs:cK (aq (ah T 0 0) F 0) (bB 0)=s at hL r0 hr h1 w1 w4 hi aa a9 ⊢
 obtain⟨d,hd⟩:∃ d,g9 (ah T 0 0) F S aG=d:=⟨_,rfl⟩
 have bS:1<=d:=hd ▸ zE S aG w4 (by decide)
 have ej:=λy a hy ha=>wL (E:=ah T 0 0) (F:=F) S aG y a hy ha
 refine⟨S,?_⟩
 rw[hd] at ej ⊢
 have gw:wS (ah T 0 0) (λa=>a.l) S=s.L 1:=by
  rw[yC S λx hx=>by
   obtain⟨a,ha⟩:=w4 x hx
   exact⟨a,ha.arc,ha.tight⟩,Ec s.L w2,r0,Int.sub_zero]
 have f7:∀ (j:Nat) (a:Ac),(ah T 0 0)[j]?=some a->0<=fj d S F j/\(a.k=0->fj d S F j<=a.r)/\fj d S F j<=Q+d:=λj a hj=>by
  obtain⟨n1,n2,n3⟩:=h.nn j a hj
  obtain⟨-,-,-,-,k1,k2,-⟩:=mU hD.ok (List.mem_of_getElem? hj)
  by_cases bq:∃ b,(j,b)∈S
  ·obtain⟨b,hb⟩:=bq
   rw[Cl d S F w3 hb]
   obtain⟨g1,g2⟩:=ej _ a hb hj
   cases b with
   |false =>
    refine⟨by unfold fG;rw[if_neg (by decide)];omega,λhk=>?_,by unfold fG;rw[if_neg (by decide)];omega⟩
    have:=g2 rfl (by have:=k1 hk;unfold aG;omega)
    dsimp only at this
    unfold fG;rw[if_neg (by decide)];omega
   |true =>
    have:=g1 rfl
    dsimp only at this
    unfold fG
    rw[if_pos rfl]
    exact⟨by omega,λhk=>by have:=n2 hk;omega,by omega⟩
  rw[mT d S F λx hx e=>bq ⟨x.2,by rw[← e];exact hx⟩]
  exact⟨n1,n2,by omega⟩
 refine⟨w1,bS,⟨f7,λps=>?_,?_,by have:=h.q0;omega,by have:=h.v0;omega,⟨by decide,by decide,?_,by decide,h.cf.rn,λc hc=>?_,λv hv=>?_⟩,λ_=>?_,λh9=>(by cases h9)⟩,w3,w4⟩
 ·rw[Eb _ d w2,Ec ps w2,h.bal ps,Int.add_mul]
 ·rw[Eb _ d w2,gw,Int.mul_add]
  have h2:d*(dl+1)<=d*s.L 1:=Int.mul_le_mul_of_nonneg_left (by omega) (by omega)
  have h3:=h.gain
  rw[Int.mul_add,Int.mul_one,Int.mul_comm d dl] at h2
  omega
 ·have:=hD.ok.l2
  unfold nP
  omega
 ·obtain⟨j,a,hj,a0⟩:=(eK _ 0).1 hc
  rw[Nat.zero_add] at a0
  have ha:=List.mem_of_getElem? hj
  obtain⟨k1,k2,k3,k4,-⟩:=mU hD.ok ha
  have bg:(∃ b,(j,b)∈S)->s.L a.t=s.L a.f+a.l:=λ⟨b,hb⟩=>by
   obtain⟨a',c5⟩:=w4 _ hb
   have:=c5.arc
   dsimp only at this
   rw[hj] at this
   cases this
   exact c5.tight
  by_cases bq:∃ b,(j,b)∈S
  ·have:=bg bq
   rcases gS.1 a0 with⟨g1,rfl⟩|⟨g1,rfl⟩
   ·exact⟨k1,k2,by dsimp only;omega,by dsimp only;omega,by dsimp only;omega⟩
   exact⟨k2,k1,by dsimp only;omega,by dsimp only;omega,by dsimp only;omega⟩
  rw[mT d S F λx hx e=>bq ⟨x.2,by rw[← e];exact hx⟩] at a0
  have dk:c∈aq (ah T 0 0) F 0:=(eK _ 0).2 ⟨j,a,hj,by rw[Nat.zero_add];exact a0⟩
  obtain⟨q1,q2,q3,q4,-⟩:=h.cf.st c dk
  exact⟨q1,q2,q3,q4,by have:=(aa c dk (hr _ q1).1).2;omega⟩
 ·have:=a9 v hv
  rw[r0];omega
 rw[r0];omega
end
inductive ib (E:List Ac) (dl:Int):(Nat->Int)->Bool->(Nat->Int)->Bool->Prop
 |done {F:Nat->Int} {b:Bool}:(cK (aq E F 0) (bB 0)).L 1<=dl->ib E dl F b F b
 |more {F F':Nat->Int} {b b':Bool} {S:List (Nat×Bool)}:dl<(cK (aq E F 0) (bB 0)).L 1->jI E (cK (aq E F 0) (bB 0)).P 1 S->ib E dl (fj (g9 E F S aG) S F) true F' b'->ib E dl F b F' b'
theorem ib.uniq{E:List Ac}{dl:Int}{F F1 F2:Nat->Int}{b b1 b2:Bool}(h:ib E dl F b F1 b1)(h':ib E dl F b F2 b2):F1=F2/\b1=b2:=by
 induction h generalizing F2 b2 with
 |done h =>
  cases h' with
  |done _=>exact⟨rfl,rfl⟩
  |more h9 _ _=>omega
 |more h hw _ ih =>
  cases h' with
  |done h9=>omega
  |more _ gs h2 =>
   obtain rfl:=hw.uniq gs
   exact ih h2
theorem sZ{T:List Tk}{dl:Int}(hD:Dl T dl){F:Nat->Int}{V Q:Int}{b:Bool}{f:Nat->Int}(h:rL T dl F V Q b f):∃ F' V' Q' b' f',ib (ah T 0 0) dl F b F' b'/\rL T dl F' V' Q' b' f'/\(cK (aq (ah T 0 0) F' 0) (bB 0)).L 1<=dl:=by
 obtain⟨m,hm⟩:∃ m:Nat,(320000000-Q).toNat=m:=⟨_,rfl⟩
 induction m using Nat.strongRecOn generalizing F V Q b f with
 |_ m ih =>
  rcases (show dl<(cK (aq (ah T 0 0) F 0) (bB 0)).L 1\/(cK (aq (ah T 0 0) F 0) (bB 0)).L 1<=dl by omega) with hL|hL
  ·obtain⟨S,h1,h2,h3,-⟩:=td hD h hL
   have hq:=h3.cap hD
   obtain⟨F',V',Q',b',f',i1,i2,i3⟩:=ih _ (by omega) h3 rfl
   exact⟨F',V',Q',b',f',.more hL h1 i1,i2,i3⟩
  exact⟨F,V,Q,b,f,.done hL,h,hL⟩
theorem mQ{T:List Tk}{dl:Int}(hD:Dl T dl):∃ f,rL T dl (λ_=>0) 0 0 false f:=by
 have hz:∀ (w:Ac->Int) (E:List Ac) (o:Nat),wE w E (λ_=>0) o=0:=λw E=>by
  induction E with
  |nil=>intro o;rfl
  |cons a E ih=>intro o;unfold wE;rw[ih,Int.zero_mul];rfl
 obtain⟨d,hd,b5⟩:∃ d:Nat->Int,(∀ (i:Nat) (t:Tk),T[i]?=some t->d i=t.N)/\∀ i,d i<=1000:=by
  refine⟨λi=>match T[i]? with|some t=>t.N|none=>0,λi t hi=>by simp[hi],λi=>?_⟩
  cases hi:T[i]? with
  |none=>simp[hi]
  |some t=>simp[hi];exact (hD.ok.tk i t hi).2.2.1
 have hA:∀ (i:Nat) (t:Tk),T[i]?=some t->∀ a∈t.A,a<0+i:=λi t hi a ha=>by have:=(hD.ok.tk i t hi).2.2.2.2.2 a ha;omega
 have hs:=mX d T 0 (λ_=>0,0) hA
 obtain⟨u1,u2⟩:=sj d (c:=1000) (by decide) b5 T 0 (λ_=>0,0) hA (λj hj=>by omega) (by decide)
 generalize dc d T 0 (λ_=>0,0)=x at hs u1 u2
 have hl:=hD.ok.l2
 refine⟨gG d x.1 x.2,λj a hj=>⟨Int.le_refl _,λ_=>(mU hD.ok (List.mem_of_getElem? hj)).2.2.2.2.2.2,Int.le_refl _⟩,λps=>by rw[hz,Int.zero_mul],by rw[hz,Int.mul_zero];decide,Int.le_refl _,Int.le_refl _,⟨by decide,by decide,by unfold nP;omega,by decide,by unfold nP;omega,λc hc=>?_,λv hv=>?_⟩,λh=>(by cases h),λ_=>rfl⟩
 ·obtain⟨j,a,hj,a0⟩:=(eK _ 0).1 hc
  have ha:=List.mem_of_getElem? hj
  obtain⟨k1,k2,k3,k4,-⟩:=mU hD.ok ha
  rcases gS.1 a0 with⟨g1,rfl⟩|⟨g1,rfl⟩
  ·refine⟨k1,k2,by dsimp only;omega,by dsimp only;omega,?_⟩
   dsimp only
   rw[Int.one_mul]
   obtain⟨i,t,hi,hk⟩:=gQ T 0 0 ha
   rw[Nat.zero_add] at hk
   obtain⟨s1,s2,s3⟩:=hs i t hi
   rw[Nat.zero_add] at s1 s2 s3
   have gO:=hd i t hi
   have go:=hD.ok.tk i t hi
   cases hk with
   |inn k=>dsimp only;rw[BQ,uc];omega
   |out k=>dsimp only;rw[FN,ud];omega
   |nor k=>dsimp only;rw[uc,ud];omega
   |cra k=>dsimp only;rw[uc,ud];omega
   |lnk b k hb=>dsimp only;rw[uc,ud];have:=s2 b hb;omega
  exact absurd g1 (by decide)
 rw[BQ]
 unfold nP at hv
 unfold gG
 by_cases e0:v=0
 ·rw[if_pos e0];decide
 rw[if_neg e0]
 by_cases e1:v=1
 ·rw[if_pos e1];omega
 rw[if_neg e1]
 by_cases e2:v%2=0
 ·rw[if_pos e2]
  have:=u1 ((v-2)/2) (by omega)
  omega
 rw[if_neg e2]
 have:=u1 ((v-3)/2) (by omega)
 have:=b5 ((v-3)/2)
 omega
end
end
section
section
def aU(m:List (Nat×Nat×Int)):List Cd:=m.map λx=>⟨x.1,x.2.1,x.2.2,(0,false)⟩
structure Ct(C:List Cd)(n:Nat)(dl:Int)(f:Nat->Int):Prop where
 st:∀ c∈C,f c.a+c.l<=f c.b
 z:f 0=0
 r:∀ v,v<n->0<=f v/\f v<=dl
def zu(C:List Cd)(n:Nat):Prop:=∀ c∈C,c.a<n/\c.b<n/\-1000000<=c.l/\c.l<=1000000
section
variable{T:List Tk}{dl:Int}(hD:Dl T dl){F:Nat->Int}{C:List Cd}(hsub:∀ c∈aq (ah T 0 0) F 0,c∈C)(hF:∀ (j:Nat) (a:Ac),(ah T 0 0)[j]?=some a->0<=F j/\F j<aG)
include hD
omit hsub hF in
theorem nX:4<=nP T/\nP T<=66:=by
 have:=hD.ok.l1
 have:=hD.ok.l2
 unfold nP
 omega
include hsub hF
theorem AT{M U B:Int}{f:Nat->Int}(hc:Cf C (nP T) 0 M U B f)(h1:(⟨1,0,-dl,(0,false)⟩:Cd)∈C):Ct C (nP T) dl (cK C (bB 0)).L:=by
 obtain⟨r0,hr⟩:=BV hD hc hsub λj a hj=>(hF j a hj).2
 obtain⟨hi,aa⟩:=hc.fin
 have hn:=nX hD
 have h2:=(aa _ h1 (hr 1 (by omega)).1).2
 dsimp only at h2
 rw[r0] at h2
 exact⟨λc hm=>(aa c hm (hr _ (hc.st c hm).1).1).2,r0,λv hv=>⟨(hr v hv).2.1,by have:=(hr v hv).2.2;omega⟩⟩
omit hsub hF in
theorem Ct.cf{f:Nat->Int}(h:Ct C (nP T) dl f)(hg:zu C (nP T)){r:Nat}(hr:r<nP T):Cf C (nP T) r 1 1000000 1000000 f:=by
 have hn:=nX hD
 have hd:=hD.r
 refine⟨by decide,by decide,by omega,by decide,hr,λc hc=>?_,λv hv=>?_⟩
 ·obtain⟨g1,g2,g3,g4⟩:=hg c hc
  exact⟨g1,g2,g3,g4,by have:=h.st c hc;omega⟩
 have:=(h.r v hv).2
 have:=(h.r r hr).1
 omega
noncomputable def eR(C:List Cd)(i:Nat)(N:Int):Int:=if (cK C (bB (eI i))).L (bI i)=aJ then N else min N (-(cK C (bB (eI i))).L (bI i))
theorem xc{f:Nat->Int}(h:Ct C (nP T) dl f)(hg:zu C (nP T))(h1:(⟨1,0,-dl,(0,false)⟩:Cd)∈C){i:Nat}{t:Tk}(hi:T[i]?=some t) :
 t.C<=eR C i t.N/\eR C i t.N<=t.N/\(∀ g,Ct C (nP T) dl g->eR C i t.N<t.N->g (eI i)-g (bI i)<=eR C i t.N)/\∃ g,Ct (C++[⟨bI i,eI i,eR C i t.N,(0,false)⟩]) (nP T) dl g:=by
 have am:=(List.getElem?_eq_some_iff.1 hi).1
 obtain⟨t1,t2,t3,-⟩:=hD.ok.tk i t hi
 have hb:bI i<nP T:=by unfold bI nP;omega
 have he:eI i<nP T:=by unfold eI nP;omega
 have e7:=h.cf hD hg he
 obtain⟨b6,aa⟩:=e7.fin
 have cr:∀ g,Ct C (nP T) dl g->∀ v,(cK C (bB (eI i))).L v≠aJ->(cK C (bB (eI i))).L v<=g v-g (eI i):=λg ci v hv=>by
  have:=(ci.cf hD hg he).fin.1.up v hv
  omega
 obtain⟨-,-,-,a4,-⟩:=tG T 0 0 i t hi
 rw[Nat.zero_add] at a4
 obtain⟨j,hj⟩:=List.getElem?_of_mem a4
 have e9:(⟨bI i,eI i,t.C,(j,false)⟩:Cd)∈C:=hsub _ ((eK _ 0).2 ⟨j,_,hj,by rw[Nat.zero_add];exact gS.2 (.inl ⟨(hF j _ hj).2,rfl⟩)⟩)
 have c8:(cK C (bB (eI i))).L (bI i)≠aJ->(cK C (bB (eI i))).L (bI i)<=-t.C:=λad=>by
  have:=(aa _ e9 ad).2
  dsimp only at this
  rw[b6.root] at this
  omega
 generalize hs:cK C (bB (eI i))=s at b6 aa cr c8
 have bk:eR C i t.N=if s.L (bI i)=aJ then t.N else min t.N (-s.L (bI i)):=by unfold eR;rw[hs]
 obtain⟨d,hd⟩:∃ d,eR C i t.N=d:=⟨_,rfl⟩
 rw[hd] at bk ⊢
 have bS:t.C<=d/\d<=t.N:=by
  rw[bk]
  split
  ·omega
  have:=c8 (by assumption);omega
 have b5:s.L (bI i)≠aJ->d<=-s.L (bI i):=λad=>by rw[bk,if_neg ad];omega
 have gT:=hD.r
 refine⟨bS.1,bS.2,λg ci d6=>?_,?_⟩
 ·by_cases ad:s.L (bI i)=aJ
  ·rw[bk,if_pos ad] at d6;omega
  rw[bk,if_neg ad] at d6 ⊢
  have:=cr g ci _ ad
  omega
 obtain⟨K,hK⟩:∃ K,max (f (eI i)) (f (bI i)+d)=K:=⟨_,rfl⟩
 have hB:=h.r _ he
 have ho:=h.r _ hb
 let ps:Nat->Int:=λv=>if s.L v=aJ then f v else max (f v) (K+s.L v)
 have b8:∀ v,s.L v=aJ->ps v=f v:=λv hv=>if_pos hv
 have bc:∀ v,s.L v≠aJ->ps v=max (f v) (K+s.L v):=λv hv=>if_neg hv
 have d5:∀ v,f v<=ps v:=λv=>by
  by_cases hv:s.L v=aJ
  ·rw[b8 v hv];exact Int.le_refl _
  rw[bc v hv];omega
 have gb:s.L (eI i)≠aJ:=by rw[b6.root];decide
 have hn:=nX hD
 have e8:Cf (C++[⟨bI i,eI i,d,(0,false)⟩]) (nP T) 0 1 10000000 1000000 ps:=by
  refine⟨by decide,by decide,by omega,by decide,by omega,λc hc=>?_,λv hv=>?_⟩
  ·rw[Int.one_mul]
   rcases List.mem_append.1 hc with hc|hc
   ·obtain⟨g1,g2,g3,g4⟩:=hg c hc
    refine⟨g1,g2,g3,g4,?_⟩
    have h5:=h.st c hc
    have h6:=d5 c.b
    by_cases ha:s.L c.a=aJ
    ·rw[b8 _ ha];omega
    obtain⟨k1,k2⟩:=aa c hc ha
    rw[bc _ ha,bc _ k1]
    omega
   rw[List.mem_singleton] at hc
   subst hc
   refine⟨hb,he,by dsimp only;omega,by dsimp only;omega,?_⟩
   dsimp only
   rw[bc _ gb,b6.root]
   by_cases hv:s.L (bI i)=aJ
   ·rw[b8 _ hv];omega
   rw[bc _ hv]
   have:=b5 hv
   omega
  have h0:=d5 0
  rw[h.z] at h0
  have hE:=h.r v hv
  by_cases ct:s.L v=aJ
  ·rw[b8 v ct];omega
  rw[bc v ct]
  have:=cr f h v ct
  omega
 refine⟨_,AT hD (λc hc=>List.mem_append_left _ (hsub c hc)) hF e8 (List.mem_append_left _ h1)⟩
end
noncomputable def ez(C0:List Cd):List Tk->Nat->List (Nat×Nat×Int)->List Int
 |[],_,_=>[]
 |t :: T,i,m=>eR (C0++aU m) i t.N :: ez C0 T (i+1) (m++[(bI i,eI i,eR (C0++aU m) i t.N)])
def dX(dl:Int)(b:Bool):List (Nat×Nat×Int):=if b=true then [(1,0,-dl),(0,1,dl)] else [(1,0,-dl)]
structure Dy(T:List Tk)(o:Nat)(D:List Int)(g:Nat->Int):Prop where
 at_:∀ i t,T[i]?=some t->∃ d,D[i]?=some d/\t.C<=d/\d<=t.N/\d<=g (eI (o+i))-g (bI (o+i))/\(d<t.N->g (eI (o+i))-g (bI (o+i))<=d)
 len:D.length=T.length
theorem zN{T0:List Tk}{dl:Int}(hD:Dl T0 dl){F:Nat->Int}(hF:∀ (j:Nat) (a:Ac),(ah T0 0 0)[j]?=some a->0<=F j/\F j<aG):∀ (T:List Tk) (o:Nat) (m:List (Nat×Nat×Int)),(∀ i t,T[i]?=some t->T0[o+i]?=some t)->(1,0,-dl)∈m->zu (aq (ah T0 0 0) F 0++aU m) (nP T0)->(∃ f,Ct (aq (ah T0 0 0) F 0++aU m) (nP T0) dl f)->
 ∃ g,Ct (aq (ah T0 0 0) F 0++aU m) (nP T0) dl g/\Dy T o (ez (aq (ah T0 0 0) F 0) T o m) g
 |[],_,_,_,_,_,⟨f,hf⟩=>⟨f,hf,λi t h=>by simp at h,rfl⟩
 |t :: T,o,m,hT,h1,hg,⟨f,hf⟩=>by
  have ht:=hT 0 t rfl
  rw[Nat.add_zero] at ht
  have am:=(List.getElem?_eq_some_iff.1 ht).1
  have eF:(⟨1,0,-dl,(0,false)⟩:Cd)∈aq (ah T0 0 0) F 0++aU m:=List.mem_append_right _ (List.mem_map.2 ⟨_,h1,rfl⟩)
  obtain⟨d1,d2,d3,f',fb⟩:=xc hD (λc hc=>List.mem_append_left _ hc) hF hf hg eF ht
  have go:=hD.ok.tk o t ht
  have hC:aq (ah T0 0 0) F 0++aU (m++[(bI o,eI o,eR (aq (ah T0 0 0) F 0++aU m) o t.N)])=(aq (ah T0 0 0) F 0++aU m)++[⟨bI o,eI o,eR (aq (ah T0 0 0) F 0++aU m) o t.N,(0,false)⟩]:=by
   unfold aU
   rw[List.map_append,List.append_assoc]
   rfl
  obtain⟨g,bm,dz⟩:=zN hD hF T (o+1) (m++[(bI o,eI o,eR (aq (ah T0 0 0) F 0++aU m) o t.N)]) (λi u hu=>by
   have:=hT (i+1) u hu
   rwa [show o+(i+1)=o+1+i by omega] at this) (List.mem_append_left _ h1) (by
   rw[hC]
   intro c hc
   rcases List.mem_append.1 hc with hc|hc
   ·exact hg c hc
   rw[List.mem_singleton] at hc
   subst hc
   exact⟨by unfold bI nP;dsimp only;omega,by unfold eI nP;dsimp only;omega,by dsimp only;omega,by dsimp only;omega⟩) (by rw[hC];exact⟨f',fb⟩)
  rw[hC] at bm
  have d4:Ct (aq (ah T0 0 0) F 0++aU m) (nP T0) dl g:=⟨λc hc=>bm.st c (List.mem_append_left _ hc),bm.z,bm.r⟩
  have f6:=bm.st _ (List.mem_append_right _ (List.mem_singleton.2 rfl))
  dsimp only at f6
  refine⟨g,d4,λi u hu=>?_,by unfold ez;rw[List.length_cons,List.length_cons,dz.len]⟩
  cases i with
  |zero =>
   cases hu
   refine⟨_,rfl,d1,d2,?_,λh9=>?_⟩
   ·rw[Nat.add_zero];omega
   rw[Nat.add_zero];exact d3 g d4 h9
  |succ i =>
   obtain⟨d,e1,e2⟩:=dz.at_ i u hu
   rw[show o+1+i=o+(i+1) by omega] at e2
   exact⟨d,e1,e2⟩
def ek:List Tk->List Int->Int
 |t :: T,d :: D=>t.R*(t.N-d)+ek T D
 |_,_=>0
theorem zT{T0:List Tk}{F:Nat->Int}{g:Nat->Int}(bu:∀ c∈aq (ah T0 0 0) F 0,g c.a+c.l<=g c.b)(hF:∀ (j:Nat) (a:Ac),(ah T0 0 0)[j]?=some a->0<=F j/\F j<aG/\(a.k=0->F j<=a.r)) :
 ∀ (T:List Tk) (i k o:Nat) (D:List Int),(∀ j a,(ah T i k)[j]?=some a->(ah T0 0 0)[o+j]?=some a)->Dy T i D g->
  wE (λa=>a.l-(g a.t-g a.f)) (ah T i k) F o=ek T D
 |[],_,_,_,D,_,hd=>by
  obtain rfl:D=[]:=List.eq_nil_of_length_eq_zero hd.len
  rfl
 |t :: T,i,k,o,D,hsub,hd=>by
  obtain⟨d,e1,e2,e3,e4,e5⟩:=hd.at_ 0 t rfl
  rw[Nat.add_zero] at e4 e5
  obtain⟨d',D',rfl⟩:∃ d' D',D=d' :: D':=by
   cases D with
   |nil=>simp at e1
   |cons a b=>exact⟨a,b,rfl⟩
  cases e1
  have dx:∀ j a,(ah T0 0 0)[j]?=some a->F j<a.r->g a.f+a.l<=g a.t:=λj a hj hr=>bu ⟨a.f,a.t,a.l,(j,false)⟩ ((eK _ 0).2 ⟨j,a,hj,by rw[Nat.zero_add];exact gS.2 (.inl ⟨hr,rfl⟩)⟩)
  have dd:∀ j a,(ah T0 0 0)[j]?=some a->0<F j->g a.t<=g a.f+a.l:=λj a hj hr=>by
   have:=bu ⟨a.t,a.f,-a.l,(j,true)⟩ ((eK _ 0).2 ⟨j,a,hj,by rw[Nat.zero_add];exact gS.2 (.inr ⟨hr,rfl⟩)⟩)
   dsimp only at this
   omega
  have bg:∀ j a,(ah T0 0 0)[j]?=some a->a.r=aG->F j*(a.l-(g a.t-g a.f))=0:=λj a hj hr=>by
   obtain⟨f1,f2,-⟩:=hF j a hj
   have h1:=dx j a hj (by rw[hr];exact f2)
   rcases Int.lt_or_le 0 (F j) with hp|hp
   ·have h2:=dd j a hj hp
    rw[show a.l-(g a.t-g a.f)=0 by omega,Int.mul_zero]
   rw[show F j=0 by omega,Int.zero_mul]
  unfold ah
  rw[aC,aC]
  have bf:∀ j a,(bQ t i)[j]?=some a->(ah T0 0 0)[o+j]?=some a:=λj a hj=>hsub j a (by
   unfold ah
   rw[List.getElem?_append_left (List.getElem?_eq_some_iff.1 hj).1]
   exact hj)
  have gg:∀ j a,(bL t.A i k)[j]?=some a->(ah T0 0 0)[o+(bQ t i).length+j]?=some a:=λj a hj=>by
   have:=hsub ((bQ t i).length+j) a (by
    unfold ah
    rw[List.getElem?_append_right (by omega),Nat.add_sub_cancel_left,List.getElem?_append_left (List.getElem?_eq_some_iff.1 hj).1]
    exact hj)
   rwa [← Nat.add_assoc] at this
  have gk:∀ j a,(ah T (i+1) (k+t.A.length))[j]?=some a->(ah T0 0 0)[o+(bQ t i).length+(bL t.A i k).length+j]?=some a:=λj a hj=>by
   have:=hsub ((bQ t i).length+((bL t.A i k).length+j)) a (by
    unfold ah
    rw[List.getElem?_append_right (by omega),Nat.add_sub_cancel_left,List.getElem?_append_right (by omega),Nat.add_sub_cancel_left]
    exact hj)
   rwa [← Nat.add_assoc,← Nat.add_assoc] at this
  have ga:=zT bu hF T (i+1) (k+t.A.length) (o+(bQ t i).length+(bL t.A i k).length) D' gk ⟨λj u hu=>by
   obtain⟨x,x1,x2⟩:=hd.at_ (j+1) u hu
   rw[show i+(j+1)=i+1+j by omega] at x2
   exact⟨x,x1,x2⟩,by have:=hd.len;simpa using this⟩
  have hz:∀ (X:List Ac) (q:Nat),wE (λ_=>(0:Int)) X F q=0:=λX=>by
   induction X with
   |nil=>intro q;rfl
   |cons a X ih=>intro q;unfold wE;rw[ih];simp
  have fu:wE (λa=>a.l-(g a.t-g a.f)) (bL t.A i k) F (o+(bQ t i).length)=0:=by
   rw[oQ (w':=λ_=>0) _ _ λj a hj=>?_,hz]
   obtain⟨b,k',-,rfl⟩:=iS t.A k (List.mem_of_getElem? hj)
   rw[bg _ _ (gg j _ hj) rfl,Int.mul_zero]
  have g0:=bg _ _ (bf 0 _ rfl) rfl
  have g1:=bg _ _ (bf 1 _ rfl) rfl
  have g3:=bg _ _ (bf 3 _ rfl) rfl
  have g2:F (o+2)*(t.N-(g (eI i)-g (bI i)))=t.R*(t.N-d):=by
   obtain⟨f1,-,f3⟩:=hF _ _ (bf 2 _ rfl)
   have f3:=f3 rfl
   dsimp only at f3
   have h1:=dx _ _ (bf 2 _ rfl)
   have h2:=dd _ _ (bf 2 _ rfl)
   dsimp only at h1 h2
   by_cases am:d<t.N
   ·have h5:=e5 am
    have h6:g (eI i)-g (bI i)=d:=by omega
    have h7:F (o+2)=t.R:=by
     by_cases h8:F (o+2)<t.R
     ·have:=h1 h8;omega
     omega
    rw[h6,h7]
   have h6:d=t.N:=by omega
   rw[h6,Int.sub_self,Int.mul_zero]
   rcases Int.lt_or_le 0 (F (o+2)) with hp|hp
   ·have:=h2 hp
    rw[show t.N-(g (eI i)-g (bI i))=0 by omega,Int.mul_zero]
   rw[show F (o+2)=0 by omega,Int.zero_mul]
  have e6:wE (λa=>a.l-(g a.t-g a.f)) (bQ t i) F o=t.R*(t.N-d):=by
   simp only[bQ,wE]
   dsimp only at g0 g1 g3
   rw[Nat.add_zero] at g0
   rw[show o+1+1+1=o+3 from rfl,show o+1+1=o+2 from rfl]
   omega
  rw[e6,fu,ga]
  show _=t.R*(t.N-d)+ek T D'
  omega
end
end
section
section
theorem C8{T:List Tk}{dl:Int}(hD:Dl T dl){F:Nat->Int}{V Q:Int}{b:Bool}{f:Nat->Int}(h:rL T dl F V Q b f)(hL:(cK (aq (ah T 0 0) F 0) (bB 0)).L 1<=dl) :
 zu (aq (ah T 0 0) F 0++aU (dX dl b)) (nP T)/\(1,0,-dl)∈dX dl b/\∃ g,Ct (aq (ah T 0 0) F 0++aU (dX dl b)) (nP T) dl g:=by
 have hq:=h.cap hD
 have hF:∀ (j:Nat) (a:Ac),(ah T 0 0)[j]?=some a->0<=F j/\F j<aG:=λj a hj=>by have:=h.nn j a hj;unfold aG;omega
 have hn:=nX hD
 have hr:=hD.r
 have ec:(1,0,-dl)∈dX dl b:=by
  unfold dX
  split
  ·exact List.mem_cons_self
  exact List.mem_cons_self
 have cn:∀ c∈aU (dX dl b),c=⟨1,0,-dl,(0,false)⟩\/(b=true/\c=⟨0,1,dl,(0,false)⟩):=λc hc=>by
  obtain⟨x,hx,rfl⟩:=List.mem_map.1 hc
  unfold dX at hx
  split at hx
  ·simp only[List.mem_cons,List.not_mem_nil,or_false] at hx
   rcases hx with rfl|rfl
   ·exact .inl rfl
   exact .inr ⟨by assumption,rfl⟩
  simp only[List.mem_cons,List.not_mem_nil,or_false] at hx
  subst hx
  exact .inl rfl
 have cj:zu (aq (ah T 0 0) F 0++aU (dX dl b)) (nP T):=λc hc=>by
  rcases List.mem_append.1 hc with hc|hc
  ·obtain⟨g1,g2,g3,g4,-⟩:=h.cf.st c hc
   exact⟨g1,g2,by omega,by omega⟩
  rcases cn c hc with rfl|⟨-,rfl⟩
  ·exact⟨by dsimp only;omega,by dsimp only;omega,by dsimp only;omega,by dsimp only;omega⟩
  exact⟨by dsimp only;omega,by dsimp only;omega,by dsimp only;omega,by dsimp only;omega⟩
 have d7:(⟨1,0,-dl,(0,false)⟩:Cd)∈aq (ah T 0 0) F 0++aU (dX dl b):=List.mem_append_right _ (List.mem_map.2 ⟨_,ec,rfl⟩)
 refine⟨cj,ec,?_⟩
 obtain⟨r0,b9⟩:=BV hD h.cf (F:=F) (λc hc=>hc) λj a hj=>(hF j a hj).2
 obtain⟨hi,aa⟩:=h.cf.fin
 have a9:=λv (hv:v<nP T)=>h.cf.hi hi (b9 v hv).1
 generalize cK (aq (ah T 0 0) F 0) (bB 0)=s at hL r0 b9 hi aa a9
 have hsub:∀ c∈aq (ah T 0 0) F 0,c∈aq (ah T 0 0) F 0++aU (dX dl b):=λc hc=>List.mem_append_left _ hc
 cases b with
 |false =>
  refine⟨_,AT hD hsub hF (M:=1) (U:=32000) (B:=1000000) (f:=s.L) ⟨by decide,by decide,by omega,by decide,by omega,λc hc=>?_,λv hv=>?_⟩ d7⟩
  ·obtain⟨g1,g2,g3,g4⟩:=cj c hc
   refine⟨g1,g2,g3,g4,?_⟩
   rcases List.mem_append.1 hc with hc|hc
   ·have:=(aa c hc (b9 _ g1).1).2;omega
   rcases cn c hc with rfl|⟨h9,-⟩
   ·dsimp only;rw[r0];omega
   cases h9
  have:=a9 v hv
  rw[r0];omega
 |true =>
  have hh:=h.fl.1 rfl
  obtain⟨c0,dq⟩:∃ c0,f 1-f 0=c0:=⟨_,rfl⟩
  obtain⟨p,hp⟩:∃ p,c0-dl=p:=⟨_,rfl⟩
  obtain⟨q,f9⟩:∃ q,dl-s.L 1=q:=⟨_,rfl⟩
  have hH:0<p:=by omega
  have ei:0<=q:=by omega
  have hG:p*s.L 1+q*c0=dl*(p+q):=by
   rw[← hp,← f9]
   simp only[Int.sub_mul,Int.mul_add,Int.mul_sub,Int.mul_comm]
   have:c0*s.L 1=s.L 1*c0:=Int.mul_comm _ _
   omega
  refine⟨_,AT hD hsub hF (M:=p+q) (U:=32000) (B:=1000000) (f:=λv=>p*s.L v+q*(f v-f 0)) ⟨by omega,by decide,by omega,by decide,by omega,λc hc=>?_,λv hv=>?_⟩ d7⟩
  ·obtain⟨g1,g2,g3,g4⟩:=cj c hc
   refine⟨g1,g2,g3,g4,?_⟩
   rcases List.mem_append.1 hc with hc|hc
   ·have k1:=(aa c hc (b9 _ g1).1).2
    obtain⟨-,-,-,-,k2⟩:=h.cf.st c hc
    have k3:p*(s.L c.a+c.l)<=p*s.L c.b:=Int.mul_le_mul_of_nonneg_left k1 (by omega)
    have k4:q*(f c.a-f 0+c.l)<=q*(f c.b-f 0):=Int.mul_le_mul_of_nonneg_left (by omega) ei
    rw[Int.mul_add] at k3 k4
    rw[Int.add_mul]
    omega
   rcases cn c hc with rfl|⟨-,rfl⟩
   ·dsimp only
    rw[r0,dq,Int.mul_zero,Int.sub_self,Int.mul_zero,Int.mul_neg,Int.mul_comm (p+q) dl]
    omega
   dsimp only
   rw[r0,dq,Int.mul_zero,Int.sub_self,Int.mul_zero,Int.mul_comm (p+q) dl]
   omega
  rw[r0,Int.sub_self,Int.mul_zero,Int.mul_zero]
  have k1:=a9 v hv
  have k2:=h.cf.up v hv
  have k3:p*s.L v<=p*32000:=Int.mul_le_mul_of_nonneg_left k1 (by omega)
  have k4:q*(f v-f 0)<=q*32000:=Int.mul_le_mul_of_nonneg_left (by omega) ei
  rw[Int.add_mul]
  omega
theorem FH{T:List Tk}{dl:Int}(hD:Dl T dl):∃ F b V,ib (ah T 0 0) dl (λ_=>0) false F b/\(∀ (j:Nat) (a:Ac),(ah T 0 0)[j]?=some a->0<=F j/\F j<=320000000/\(a.k=0->F j<=a.r))/\
 (∀ ps:Nat->Int,wE (λa=>ps a.t-ps a.f) (ah T 0 0) F 0=V*(ps 1-ps 0))/\(ez (aq (ah T 0 0) F 0) T 0 (dX dl b)).length=T.length/\
 (∀ (i:Nat) (t:Tk),T[i]?=some t->∃ d,(ez (aq (ah T 0 0) F 0) T 0 (dX dl b))[i]?=some d/\t.C<=d/\d<=t.N)/\wE (λa=>a.l) (ah T 0 0) F 0-dl*V=ek T (ez (aq (ah T 0 0) F 0) T 0 (dX dl b)):=by
 obtain⟨f0,h0⟩:=mQ hD
 obtain⟨F,V,Q,b,f,h1,h2,h3⟩:=sZ hD h0
 have hq:=h2.cap hD
 obtain⟨g1,g2,g3⟩:=C8 hD h2 h3
 have hF:∀ (j:Nat) (a:Ac),(ah T 0 0)[j]?=some a->0<=F j/\F j<aG:=λj a hj=>by have:=h2.nn j a hj;unfold aG;omega
 obtain⟨g,hg,cd⟩:=zN hD hF T 0 (dX dl b) (λi t hi=>by rw[Nat.zero_add];exact hi) g2 g1 g3
 have bu:∀ c∈aq (ah T 0 0) F 0,g c.a+c.l<=g c.b:=λc hc=>hg.st c (List.mem_append_left _ hc)
 have he:=zT bu (λj a hj=>⟨(hF j a hj).1,(hF j a hj).2,(h2.nn j a hj).2.1⟩) T 0 0 0 _ (λj a hj=>by rw[Nat.zero_add];exact hj) cd
 have ha:=gP (λa=>a.l-(g a.t-g a.f)) (λa=>g a.t-g a.f) (F:=F) (ah T 0 0) 0
 rw[oQ (w':=λa=>a.l) _ _ λi a _=>by rw[Int.sub_add_cancel],h2.bal g,he,hg.z,Int.sub_zero] at ha
 have hv:V*g 1=V*dl:=by
  cases hb:b with
  |false=>rw[h2.fl.2 hb,Int.zero_mul,Int.zero_mul]
  |true =>
   have e1:=(hg.r 1 (by have:=nX hD;omega)).2
   have e2:=hg.st ⟨0,1,dl,(0,false)⟩ (List.mem_append_right _ (List.mem_map.2 ⟨(0,1,dl),by unfold dX;rw[if_pos hb];exact List.mem_cons_of_mem _ List.mem_cons_self,rfl⟩))
   dsimp only at e2
   rw[hg.z] at e2
   rw[show g 1=dl by omega]
 refine⟨F,b,V,h1,λj a hj=>?_,h2.bal,cd.len,λi t hi=>?_,?_⟩
 ·have:=h2.nn j a hj
  exact⟨this.1,by omega,this.2.1⟩
 ·obtain⟨d,d1,d2,d3,-⟩:=cd.at_ i t hi
  exact⟨d,d1,d2,d3⟩
 rw[hv,Int.mul_comm V dl] at ha
 omega
end
end
section
section
open Go.RowKit
def az(W:World)(g n:Nat)(L:Nat->Int):Prop:=∃ cur:Array Value,W.heap[g]?=some (.cells cur 3 (0,0))/\cur.size=n/\∀ i,i<n->cur[i]?=some (.int .i64 (L i))
def dF(W:World)(g n:Nat)(P:Nat->Nat×Bool):Prop:=∃ cur:Array Value,W.heap[g]?=some (.cells cur 246 (0,0))/\cur.size=n*2/\∀ i,i<n->cur[i*2]?=some (.int .i64 ((P i).1:Nat))/\cur[i*2+1]?=some (.bool (P i).2)
section
variable{W w:World}{g n:Nat}{L:Nat->Int}{P:Nat->Nat×Bool}
theorem az.lt(h:az W g n L):g<W.heap.size:=by obtain⟨cur,h1,-⟩:=h;exact (Array.getElem?_eq_some_iff.1 h1).1
theorem dF.lt(h:dF W g n P):g<W.heap.size:=by obtain⟨cur,h1,-⟩:=h;exact (Array.getElem?_eq_some_iff.1 h1).1
theorem az.on(h:az W g n L)(e:w.heap[g]?=W.heap[g]?):az w g n L:=by obtain⟨cur,h1,h2⟩:=h;exact⟨cur,e.trans h1,h2⟩
theorem dF.on(h:dF W g n P)(e:w.heap[g]?=W.heap[g]?):dF w g n P:=by obtain⟨cur,h1,h2⟩:=h;exact⟨cur,e.trans h1,h2⟩
theorem az.at_(h:az W g n L){i:Nat}(hi:i<n):W.cell? ⟨g,i,none⟩=some (.int .i64 (L i))/\W.frozen? ⟨g,i,none⟩=false:=by
 obtain⟨cur,h1,-,h3⟩:=h
 exact⟨by rw[cell_of_row _ _ i _ _ (0,0) h1];exact h3 i hi,by simp[World.frozen?,h1]⟩
theorem dF.at_(h:dF W g n P){i:Nat}(hi:i<n):W.cell? ⟨g,i*2,none⟩=some (.int .i64 ((P i).1:Nat))/\W.cell? ⟨g,i*2+1,none⟩=some (.bool (P i).2)/\∀ j,W.frozen? ⟨g,j,none⟩=false:=by
 obtain⟨cur,h1,-,h3⟩:=h
 exact⟨by rw[cell_of_row _ _ _ _ _ (0,0) h1];exact (h3 i hi).1,by rw[cell_of_row _ _ _ _ _ (0,0) h1];exact (h3 i hi).2,λj=>by simp[World.frozen?,h1]⟩
theorem az.congr{L':Nat->Int}(h:az W g n L)(e:∀ i,i<n->L i=L' i):az W g n L':=by obtain⟨cur,h1,h2,h3⟩:=h;exact⟨cur,h1,h2,λi hi=>by rw[← e i hi];exact h3 i hi⟩
theorem az.set(h:az W g n L){b:Nat}(x:Int)(hb:b<n):az (W.setCell ⟨g,b,none⟩ (.int .i64 x)) g n (aR L b x):=by
 obtain⟨cur,h1,h2,h3⟩:=h
 refine⟨_,aA h1,by rw[Array.size_setIfInBounds];exact h2,λi hi=>?_⟩
 by_cases e:i=b
 ·subst e;rw[bH,Array.getElem?_setIfInBounds_self_of_lt (by omega)]
 rw[bA _ _ e,Array.getElem?_setIfInBounds_ne (Ne.symm e)];exact h3 i hi
theorem dF.set(h:dF W g n P){b:Nat}(x:Nat×Bool)(hb:b<n):dF ((W.setCell ⟨g,b*2,none⟩ (.int .i64 (x.1:Nat))).setCell ⟨g,b*2+1,none⟩ (.bool x.2)) g n (aR P b x):=by
 obtain⟨cur,h1,h2,h3⟩:=h
 refine⟨_,aA (aA h1),by rw[Array.size_setIfInBounds,Array.size_setIfInBounds];exact h2,λi hi=>?_⟩
 by_cases e:i=b
 ·subst e
  rw[bH]
  exact⟨by rw[Array.getElem?_setIfInBounds_ne (by omega),Array.getElem?_setIfInBounds_self_of_lt (by omega)],by rw[Array.getElem?_setIfInBounds_self_of_lt (by rw[Array.size_setIfInBounds];omega)]⟩
 rw[bA _ _ e]
 obtain⟨e1,e2⟩:=h3 i hi
 exact⟨by rw[Array.getElem?_setIfInBounds_ne (by omega),Array.getElem?_setIfInBounds_ne (by omega)];exact e1,by rw[Array.getElem?_setIfInBounds_ne (by omega),Array.getElem?_setIfInBounds_ne (by omega)];exact e2⟩
end
theorem Cp{W:World}{g h n m:Nat}{L:Nat->Int}{P:Nat->Nat×Bool}(hl:az W g n L)(hp:dF W h m P):g≠h:=by
 rintro rfl
 obtain⟨c1,h1,-⟩:=hl
 obtain⟨c2,h2,-⟩:=hp
 rw[h1] at h2
 simp at h2
theorem IZ(w:World)(lb pb bl bp n:Nat)(s:Lw)(hl:az w lb n s.L)(hp:dF w pb n s.P)(bi:w.heap[bl]?=some (.cells #[.slice (some ⟨lb,0,none⟩) n n] 27 (0,0)))(bj:w.heap[bp]?=some (.cells #[.slice (some ⟨pb,0,none⟩) n n] 240 (0,0)))(c:Cd)(ha:c.a<n)(hb:c.b<n)(hr:s.L c.a≠aJ->-2000000000000<=s.L c.a+c.l/\s.L c.a+c.l<=2000000000000) :
 Calls Tryz.prog 222 #[.int .i64 (c.a:Nat),.int .i64 (c.b:Nat),.int .i64 c.l,.agg #[.int .i64 (c.s.1:Nat),.bool c.s.2],.pointer (some ⟨bl,0,none⟩),.pointer (some ⟨bp,0,none⟩)] w λe w'=>e=.returned (.bool (gi c s))/\az w' lb n (eS c s).L/\dF w' pb n (eS c s).P/\Kx (λj=>j=lb\/j=pb) w w':=by
 refine ae ?_
 intro R hR
 obtain⟨w1,cA⟩:∃ w1,w.alloc (.cells #[.int .i64 (c.s.1:Nat),.bool c.s.2] 246)=w1:=⟨_,rfl⟩
 have cC:=heap_alloc_new w (.cells #[.int .i64 (c.s.1:Nat),.bool c.s.2] 246)
 have aF:=ab w (.cells #[.int .i64 (c.s.1:Nat),.bool c.s.2] 246)
 rw[cA] at cC aF
 have ev:=zh cA
 have am:=hl.lt
 have f8:=hp.lt
 have hbt:=(Array.getElem?_eq_some_iff.1 bi).1
 have fa:=(Array.getElem?_eq_some_iff.1 bj).1
 have bt:az w1 lb n s.L:=hl.on (aF.block _ am)
 have b7:dF w1 pb n s.P:=hp.on (aF.block _ f8)
 obtain⟨A,B,l,z⟩:=c
 dsimp only at *
 have n1:(A:Int)<(n:Int):=by omega
 have n2:(B:Int)<(n:Int):=by omega
 have n3:(0:Int)<=(A:Int):=by omega
 have n4:(0:Int)<=(B:Int):=by omega
 obtain⟨p1,-⟩:=bt.at_ ha
 obtain⟨p2,f2⟩:=bt.at_ hb
 obtain⟨p3,p4,f3⟩:=b7.at_ hb
 have f4:=f3 (B*2)
 have f5:=f3 (B*2+1)
 have q1:w1.cell? ⟨bl,0,none⟩=some (.slice (some ⟨lb,0,none⟩) n n):=by rw[cell_of_row _ _ 0 _ _ (0,0) ((aF.block _ hbt).trans bi)];rfl
 have q2:w1.cell? ⟨bp,0,none⟩=some (.slice (some ⟨pb,0,none⟩) n n):=by rw[cell_of_row _ _ 0 _ _ (0,0) ((aF.block _ fa).trans bj)];rfl
 obtain⟨r1,r2,-⟩:=ap cC
 have ca:=zh aF
 have HL:=zh hl
 have HP:=zh hp
 have bw:=zh bt
 have bD:=zh b7
 have ad:=Cp bt b7
 have fz:lb≠bp:=by
  rintro rfl
  obtain⟨cur,e1,-⟩:=hl
  rw[e1] at bj
  simp at bj
 have eg:pb≠bl:=by
  rintro rfl
  obtain⟨cur,e1,-⟩:=hp
  rw[e1] at bi
  simp at bi
 have HR:=zh hR.out
 obtain⟨x,hx⟩:∃ x,s.L A=x:=⟨_,rfl⟩
 obtain⟨y,hy⟩:∃ y,s.L B=y:=⟨_,rfl⟩
 have Hx:=zh hx
 have Hy:=zh hy
 rw[hx] at p1 hr
 rw[hy] at p2
 have Hr:=zh hr
 clear hR cA cC aF hl hp bt b7 f3 hx hy hr bi bj
 go_enter Tryz.func222,Tryz.ntmps222
 go_upto_region 1 with fail
 rw[ev.out]
 by_cases h0:x = -1125899906842624
 ·have hrel:gi ⟨A,B,l,z⟩ s=false:=decide_eq_false λh9=>h9.1 (Hx.out.trans h0)
  have hf:=HR.out (.returned (.bool false)) w1.drew ⟨by rw[hrel],by unfold eS;rw[if_neg (by rw[hrel];exact Bool.false_ne_true)];exact bw.out,by unfold eS;rw[if_neg (by rw[hrel];exact Bool.false_ne_true)];exact bD.out,ar ca.out.drew⟩
  have HF:=zh hf
  subst h0
  clear hf hrel HR
  go_region
  all_goals
   go_wp2_with fail
   exact HF.out
 obtain⟨b1,b2⟩:=Hr.out h0
 have g1:(x == -1125899906842624)=false:=by simp[h0]
 have g2:decide (x = -1125899906842624)=false:=decide_eq_false h0
 by_cases h1:x+l<=y
 ·have hrel:gi ⟨A,B,l,z⟩ s=false:=decide_eq_false λh9=>by
   have h9:=h9.2
   dsimp only at h9
   rw[Hx.out,Hy.out] at h9
   omega
  have hf:=HR.out (.returned (.bool false)) w1.drew ⟨by rw[hrel],by unfold eS;rw[if_neg (by rw[hrel];exact Bool.false_ne_true)];exact bw.out,by unfold eS;rw[if_neg (by rw[hrel];exact Bool.false_ne_true)];exact bD.out,ar ca.out.drew⟩
  have HF:=zh hf
  clear hf hrel HR
  go_region
  all_goals
   go_wp2_with fail
   exact HF.out
 have hrel:gi ⟨A,B,l,z⟩ s=true:=decide_eq_true ⟨by rw[Hx.out];exact h0,by dsimp only;rw[Hx.out,Hy.out];omega⟩
 have cN:=zh hrel
 have u1:=(World.cell?_setCell_far w1 ⟨lb,B,none⟩ ⟨bp,0,none⟩ (.int .i64 (x+l)) fz).trans q2
 have u2:=(World.cell?_setCell_far w1 ⟨lb,B,none⟩ ⟨w.heap.size,0,none⟩ (.int .i64 (x+l)) (by dsimp only;omega)).trans r1
 have u3:=(World.cell?_setCell_far w1 ⟨lb,B,none⟩ ⟨w.heap.size,1,none⟩ (.int .i64 (x+l)) (by dsimp only;omega)).trans r2
 have v1:=(World.cell?_setCell_far (w1.setCell ⟨pb,B*2,none⟩ (.int .i64 (z.1:Nat))) ⟨pb,B*2+1,none⟩ ⟨bl,0,none⟩ (.bool z.2) eg).trans ((World.cell?_setCell_far w1 ⟨pb,B*2,none⟩ ⟨bl,0,none⟩ (.int .i64 (z.1:Nat)) eg).trans q1)
 have v0:=bw.out.on ((al (W:=w1.setCell ⟨pb,B*2,none⟩ (.int .i64 (z.1:Nat))) (b:=pb) (i:=B*2+1) (v:=.bool z.2) ad).trans (al (W:=w1) (b:=pb) (i:=B*2) (v:=.int .i64 (z.1:Nat)) ad))
 obtain⟨v2,-⟩:=v0.at_ ha
 obtain⟨v3,v4⟩:=v0.at_ hb
 rw[Hx.out] at v2
 rw[Hy.out] at v3
 clear v0
 obtain⟨s3,s4,s5⟩:=(bD.out.on (al (b:=lb) (i:=B) (v:=.int .i64 (x+l)) (Ne.symm ad))).at_ hb
 have s6:=s5 (B*2)
 have s7:=s5 (B*2+1)
 clear hrel s5
 go_region
 all_goals
  go_upto_region 3 with fail
  go_region
  all_goals
   have cV:az (((w1.setCell ⟨lb,B,none⟩ (.int .i64 (x+l))).setCell ⟨pb,B*2,none⟩ (.int .i64 (z.1:Nat))).setCell ⟨pb,B*2+1,none⟩ (.bool z.2)) lb n (aR s.L B (x+l)):=((bw.out.set (x+l) hb).on (al ad)).on (al ad)
   have c4:dF (((w1.setCell ⟨lb,B,none⟩ (.int .i64 (x+l))).setCell ⟨pb,B*2,none⟩ (.int .i64 (z.1:Nat))).setCell ⟨pb,B*2+1,none⟩ (.bool z.2)) pb n (aR s.P B z):=(bD.out.on (al (Ne.symm ad))).set z hb
   have cT:Kx (λj=>j=lb\/j=pb) w (((w1.setCell ⟨lb,B,none⟩ (.int .i64 (x+l))).setCell ⟨pb,B*2,none⟩ (.int .i64 (z.1:Nat))).setCell ⟨pb,B*2+1,none⟩ (.bool z.2)):=(((ar ca.out).trans (aI w1 lb B _) λ_ _ e=>.inl e).trans (aI _ pb _ _) λ_ _ e=>.inr e).trans (aI _ pb _ _) λ_ _ e=>.inr e
   have he:eS ⟨A,B,l,z⟩ s=⟨aR s.L B (x+l),aR s.P B z⟩:=by unfold eS;rw[if_pos cN.out];dsimp only;rw[Hx.out]
   have HF:=zh (HR.out (.returned (.bool true)) (((w1.setCell ⟨lb,B,none⟩ (.int .i64 (x+l))).setCell ⟨pb,B*2,none⟩ (.int .i64 (z.1:Nat))).setCell ⟨pb,B*2+1,none⟩ (.bool z.2)).drew.drew ⟨by rw[cN.out],by rw[he];exact cV,by rw[he];exact c4,cT.drewV.drewV⟩)
   clear cV c4 cT he
   go_wp2_with fail
   exact HF.out
end
end
section
section
open Go.RowKit
theorem gR(w:World)(i:Nat)(hi:i<=100000):Calls Tryz.prog 146 #[.int .i64 (i:Nat)] w λe w'=>e=.returned (.int .i64 (bI i:Nat))/\w'=w:=by
 refine ae ?_
 intro R hR
 have e1:(2:Int)+2*(i:Int)=((bI i:Nat):Int):=by unfold bI;omega
 have HF:=zh (hR.out (.returned (.int .i64 (bI i:Nat))) w ⟨rfl,rfl⟩)
 have b1:(bI i:Int)<=1000000:=by unfold bI;omega
 have b0:(0:Int)<=(bI i:Int):=by omega
 go_enter Tryz.func146,Tryz.ntmps146
 go_wp2_with fail
 first
 |exact HF.out
 |(rw[e1];exact HF.out)
theorem iQ(w:World)(i:Nat)(hi:i<=100000):Calls Tryz.prog 147 #[.int .i64 (i:Nat)] w λe w'=>e=.returned (.int .i64 (eI i:Nat))/\w'=w:=by
 refine ae ?_
 intro R hR
 have e1:(3:Int)+2*(i:Int)=((eI i:Nat):Int):=by unfold eI;omega
 have HF:=zh (hR.out (.returned (.int .i64 (eI i:Nat))) w ⟨rfl,rfl⟩)
 have b1:(eI i:Int)<=1000000:=by unfold eI;omega
 have b0:(0:Int)<=(eI i:Int):=by omega
 go_enter Tryz.func147,Tryz.ntmps147
 go_wp2_with fail
 first
 |exact HF.out
 |(rw[e1];exact HF.out)
theorem kg:∀ (A B:List Cd) (x:Lw×Bool),bG (A++B) x=bG B (bG A x)
 |[],_,_=>rfl
 |_ :: A,B,_=>kg A B _
theorem rX(F:Nat->Int):∀ (A B:List Ac) (o:Nat),aq (A++B) F o=aq A F o++aq B F (o+A.length)
 |[],B,o=>by simp[aq]
 |a :: A,B,o=>by
  show uJ a (F o) o++aq (A++B) F (o+1)=(uJ a (F o) o++aq A F (o+1))++aq B F (o+(A.length+1))
  rw[rX F A B (o+1),List.append_assoc,show o+1+A.length=o+(A.length+1) by omega]
theorem Ew{E:List Ac}{F:Nat->Int}{i:Nat}{a:Ac}(h:E[i]?=some a):aq (E.take (i+1)) F 0=aq (E.take i) F 0++uJ a (F i) i:=by
 have hi:=(List.getElem?_eq_some_iff.1 h).1
 rw[List.take_add_one,h,rX,List.length_take,Nat.min_eq_left (by omega),Nat.zero_add]
 show _++(uJ a (F i) i++[])=_
 rw[List.append_nil]
theorem GK{E:List Ac}{F:Nat->Int}(i:Nat):∀ c∈aq (E.take i) F 0,c∈aq E F 0:=λc hc=>by
 obtain⟨j,a,h1,h2⟩:=(eK _ 0).1 hc
 refine (eK _ 0).2 ⟨j,a,?_,h2⟩
 rw[List.getElem?_take] at h1
 split at h1
 ·exact h1
 cases h1
theorem Ex{m:List (Nat×Nat×Int)}{j:Nat}{x:Nat×Nat×Int}(h:m[j]?=some x):aU (m.take (j+1))=aU (m.take j)++[⟨x.1,x.2.1,x.2.2,(0,false)⟩]:=by
 unfold aU
 rw[List.take_add_one,h,List.map_append]
 rfl
theorem GL{m:List (Nat×Nat×Int)}(j:Nat):∀ c∈aU (m.take j),c∈aU m:=λc hc=>by
 obtain⟨x,hx,rfl⟩:=List.mem_map.1 hc
 exact List.mem_map.2 ⟨x,List.mem_of_mem_take hx,rfl⟩
end
end
section
section
open Go.RowKit
structure RT where
 N:Int
 C:Int
 R:Int
 A:List Int
def RT.tk(t:RT):Tk:=⟨t.N,t.C,t.R,t.A.map Int.toNat⟩
def D3(x:RT×Option Addr×Nat):List Value:=[.int .i64 x.1.N,.int .i64 x.1.C,.int .i64 x.1.R,.slice x.2.1 x.1.A.length x.2.2]
structure fQ(W:World)(A:Option Addr)(n:Nat)(L:List (RT×Option Addr×Nat)):Prop where
 sl:ag D3 4 W A n L
 af:∀ x∈L,ag ak 1 W x.2.1 x.1.A.length x.1.A
theorem fQ.below{W w:World}{A:Option Addr}{n:Nat}{L:List (RT×Option Addr×Nat)}(h:fQ W A n L)(hb:Below W.heap.size W w):fQ w A n L:=⟨h.sl.below hb,λx hx=>(h.af x hx).below hb⟩
theorem fQ.len{W:World}{A:Option Addr}{n:Nat}{L:List (RT×Option Addr×Nat)}(h:fQ W A n L):n=L.length:=h.sl.1
theorem fQ.nx{W:World}{A:Option Addr}{n k:Nat}{L:List (RT×Option Addr×Nat)}(h:fQ W A n L)(hk:k<n):∃ b o x,A=some ⟨b,o,none⟩/\b<W.heap.size/\L[k]?=some x/\(W.cell? ⟨b,o+k*4,none⟩=some (.int .i64 x.1.N)/\W.cell? ⟨b,o+k*4+1,none⟩=some (.int .i64 x.1.C)/\W.cell? ⟨b,o+k*4+2,none⟩=some (.int .i64 x.1.R)/\W.cell? ⟨b,o+k*4+3,none⟩=some (.slice x.2.1 x.1.A.length x.2.2))/\
 ∃ wd,W.alloc (.cells #[.int .i64 x.1.N,.int .i64 x.1.C,.int .i64 x.1.R,.slice x.2.1 x.1.A.length x.2.2] 43)=wd/\Below W.heap.size W wd/\wd.heap[W.heap.size]?=some (.cells #[.int .i64 x.1.N,.int .i64 x.1.C,.int .i64 x.1.R,.slice x.2.1 x.1.A.length x.2.2] 43 (0,0)):=by
 obtain⟨b,o,x,hA,hb,hx,hc⟩:=h.sl.at_ (sz:=4) (λ_=>rfl) hk
 exact⟨b,o,x,hA,hb,hx,⟨hc 0 _ rfl,hc 1 _ rfl,hc 2 _ rfl,hc 3 _ rfl⟩,_,rfl,ab W _,heap_alloc_new W _⟩
def kO:List Int->Int->Nat->Bool
 |[],_,_=>true
 |a :: A,l,i=>decide (l<a/\a<(i:Int))&&kO A a i
def l7(t:RT):Prop:=0<=t.N/\t.N<=1000/\0<=t.C/\t.C<=t.N/\0<=t.R/\t.R<=10000
instance (t:RT):Decidable (l7 t):=by unfold l7;infer_instance
def xT:List RT->Nat->Bool
 |[],_=>true
 |t :: L,i=>decide (l7 t)&&(kO t.A (-1) i&&xT L (i+1))
def dU(L:List RT):Bool:=decide (1<=L.length/\L.length<=32)&&xT L 0
theorem zD{i:Nat}:∀ (A:List Int) (l:Int),kO A l i=true->-1<=l->∀ a∈A,0<=a/\a<(i:Int)
 |[],_,_,_,_,h=>by cases h
 |b :: A,l,h,hl,a,ha=>by
  obtain⟨h1,h2⟩:=Bool.and_eq_true_iff.1 h
  have h1:=of_decide_eq_true h1
  rcases List.mem_cons.1 ha with rfl|ha
  ·omega
  exact zD A b h2 (by omega) a ha
theorem xU:∀ (L:List RT) (o:Nat),xT L o=true->∀ i t,L[i]?=some t->l7 t/\kO t.A (-1) (o+i)=true
 |[],_,_,_,_,h=>by simp at h
 |u :: L,o,h,i,t,hi=>by
  obtain⟨h1,h2⟩:=Bool.and_eq_true_iff.1 h
  obtain⟨h2,h3⟩:=Bool.and_eq_true_iff.1 h2
  cases i with
  |zero=>cases hi;exact⟨of_decide_eq_true h1,h2⟩
  |succ i =>
   have:=xU L (o+1) h3 i t hi
   rwa [show o+1+i=o+(i+1) by omega] at this
theorem kn{L:List RT}(h:dU L=true):AJ (L.map RT.tk)/\∀ (i:Nat) (t:RT),L[i]?=some t->l7 t/\∀ a∈t.A,0<=a/\a<(i:Int):=by
 obtain⟨h1,h2⟩:=Bool.and_eq_true_iff.1 h
 have h1:=of_decide_eq_true h1
 have h3:∀ (i:Nat) (t:RT),L[i]?=some t->l7 t/\∀ a∈t.A,0<=a/\a<(i:Int):=λi t hi=>by
  obtain⟨g1,g2⟩:=xU L 0 h2 i t hi
  rw[Nat.zero_add] at g2
  exact⟨g1,zD _ _ g2 (Int.le_refl _)⟩
 refine⟨⟨by rw[List.length_map];exact h1.1,by rw[List.length_map];exact h1.2,λi t hi=>?_⟩,h3⟩
 rw[List.getElem?_map] at hi
 obtain⟨u,hu,rfl⟩:=Option.map_eq_some_iff.1 hi
 obtain⟨⟨g1,g2,g3,g4,g5,g6⟩,g7⟩:=h3 i u hu
 refine⟨g3,g4,g2,g5,g6,λa ha=>?_⟩
 obtain⟨b,hb,rfl⟩:=List.mem_map.1 ha
 have:=g7 b hb
 omega
theorem wI{i:Nat}:∀ (A:List Int) (l:Int),kO A l i=true->l<(i:Int)->(A.length:Int)<=(i:Int)-1-l
 |[],l,_,h=>by show (0:Int)<=_;omega
 |a :: A,l,h,_=>by
  obtain⟨h1,h2⟩:=Bool.and_eq_true_iff.1 h
  have h1:=of_decide_eq_true h1
  have:=wI A a h2 h1.2
  rw[List.length_cons]
  omega
theorem p9{L:List RT}(h:dU L=true)(i:Nat)(t:RT)(hi:L[i]?=some t):t.A.length<=32:=by
 obtain⟨g1,g2⟩:=Bool.and_eq_true_iff.1 h
 have g1:=of_decide_eq_true g1
 have h5:=(xU L 0 g2 i t hi).2
 rw[Nat.zero_add] at h5
 have h4:=wI t.A (-1) h5 (by omega)
 have:=(List.getElem?_eq_some_iff.1 hi).1
 omega
theorem oh(w:World)(A:Option Addr)(n c:Nat)(L:List (RT×Option Addr×Nat))(hT:fQ w A n L)(hn:n<=1000000000)(ha:∀ x∈L,x.1.A.length<=1000000000) :
 Calls Tryz.prog 63 #[.slice A n c] w λe w'=>e=.returned (.int .i64 (if dU (L.map (·.1)) then 0 else 1))/\Below w.heap.size w w':=by
 refine ae ?_
 intro R hR
 have HR:=zh hR.out
 have HT:=zh hT
 have hl:=hT.len
 have Hl:=zh hl
 have ds:dU (L.map (·.1))=(decide (1<=n/\n<=32)&&xT (L.map (·.1)) 0):=by unfold dU;rw[List.length_map,← hl]
 have bE:=zh ds
 clear hR hT hl ds
 go_enter Tryz.func63,Tryz.ntmps63
 by_cases h1:n<1
 ·have hf:=HR.out (.returned (.int .i64 1)) w ⟨by rw[bE.out,decide_eq_false (by omega)];rfl,Below.refl _ _⟩
  have HF:=zh hf
  have i1:(n:Int)<1:=by omega
  clear hf
  go_wp2_with fail
  exact HF.out
 by_cases h2:32<n
 ·have hf:=HR.out (.returned (.int .i64 1)) w ⟨by rw[bE.out,decide_eq_false (by omega)];rfl,Below.refl _ _⟩
  have HF:=zh hf
  have i1:¬ (n:Int)<1:=by omega
  have i2:(n:Int) > 32:=by omega
  clear hf
  go_wp2_with fail
  exact HF.out
 rw[decide_eq_true (by omega),Bool.true_and] at bE
 have i1:¬ (n:Int)<1:=by omega
 have i2:¬ (n:Int) > 32:=by omega
 go_wp2_with fail
 go_loopw [3,4,5,7,18] (λ_ _ _ _ s18 wr=>∃ k:Nat,s18=.int .i64 (k:Nat)/\k<=n/\Hid (dU (L.map (·.1))=xT ((L.map (·.1)).drop k) k)/\Hid (Below w.heap.size w wr)) (λ_ _ _ _ s18 _=>n-(intOf s18).toNat)
 case atStart=>exact⟨0,rfl,Nat.zero_le _,bE,zh (Below.refl _ _)⟩
 rename World=>wb
 obtain⟨k,rfl,hk,HC,HB⟩:=hrel
 by_cases am:k<n
 ·obtain⟨b,o,x,rfl,hb,hx,⟨c0,c1,c2,c3⟩,wd,en,c9,cI⟩:=(HT.out.below HB.out).nx am
  have eo:(L.map (·.1)).drop k=x.1 :: (L.map (·.1)).drop (k+1):=by
   rw[List.drop_eq_getElem_cons (by rw[List.length_map];exact (List.getElem?_eq_some_iff.1 hx).1)]
   congr 1
   rw[List.getElem_map]
   exact congrArg _ (List.getElem?_eq_some_iff.1 hx).2
  have hc:=HC.out
  rw[eo] at hc
  have et:=zh hc
  have HX:=zh (List.mem_of_getElem? hx)
  have gI:=ha x HX.out
  obtain⟨d0,d1,d2,d3,-⟩:=an cI
  have eB:=zh en
  have gC:=zh cI
  have bv:=zh (HB.out.trans (c9.mono HB.out.size))
  have i1:(k:Int)<(n:Int):=by omega
  have i0:(0:Int)<=(k:Int):=by omega
  clear eo hc en cI c9 hx
  go_upto_region 6 with fail
  rw[eB.out]
  obtain⟨⟨N,C,Rt,As⟩,Ax,cx⟩:=x
  dsimp only at *
  obtain⟨p,hp⟩:∃ p,decide (l7 ⟨N,C,Rt,As⟩)=p:=⟨_,rfl⟩
  have Hp:=zh hp
  clear hp c0 c1 c2 c3
  go_cut [52] from 23 to 52 (λs52 wx=>s52=.bool (!p)/\wx=wd)
  case first =>
   by_cases g0:N<0
   ·obtain rfl:p=false:=by rw[← Hp.out];exact decide_eq_false λh=>by unfold l7 at h;dsimp only at h;omega
    go_wp2_with fail
    go_meet
    exact⟨rfl,rfl⟩
   by_cases g1:N > 1000
   ·obtain rfl:p=false:=by rw[← Hp.out];exact decide_eq_false λh=>by unfold l7 at h;dsimp only at h;omega
    go_wp2_with fail
    go_meet
    exact⟨rfl,rfl⟩
   by_cases g2:C<0
   ·obtain rfl:p=false:=by rw[← Hp.out];exact decide_eq_false λh=>by unfold l7 at h;dsimp only at h;omega
    go_wp2_with fail
    go_meet
    exact⟨rfl,rfl⟩
   by_cases g3:C > N
   ·obtain rfl:p=false:=by rw[← Hp.out];exact decide_eq_false λh=>by unfold l7 at h;dsimp only at h;omega
    go_wp2_with fail
    go_meet
    exact⟨rfl,rfl⟩
   by_cases g4:Rt<0
   ·obtain rfl:p=false:=by rw[← Hp.out];exact decide_eq_false λh=>by unfold l7 at h;dsimp only at h;omega
    go_wp2_with fail
    go_meet
    exact⟨rfl,rfl⟩
   by_cases g5:Rt > 10000
   ·obtain rfl:p=false:=by rw[← Hp.out];exact decide_eq_false λh=>by unfold l7 at h;dsimp only at h;omega
    go_wp2_with fail
    go_meet
    exact⟨rfl,rfl⟩
   obtain rfl:p=true:=by rw[← Hp.out];exact decide_eq_true (by unfold l7;dsimp only;omega)
   go_wp2_with fail
   go_meet
   exact⟨rfl,rfl⟩
  rename World=>we
  obtain⟨rfl,rfl⟩:=hcut
  clear d0 d1 d2
  have cS:dU (L.map (·.1))=(p&&(kO As (-1) k&&xT ((L.map (·.1)).drop (k+1)) (k+1))):=by rw[et.out,← Hp.out];rfl
  have cc:=zh cS
  clear cS
  cases p with
  |false =>
   have hf:=HR.out (.returned (.int .i64 1)) we ⟨by rw[cc.out];rfl,bv.out⟩
   have HF:=zh hf
   clear hf
   go_wp2_with fail
   exact HF.out
  |true =>
   have HS:=zh (((HT.out.af _ HX.out).below bv.out))
   go_wp2_with fail
   go_loopw [5,7,56] (λs5 _ s56 wr=>∃ (j:Nat) (l:Int),s56=.int .i64 (j:Nat)/\s5=.int .i64 l/\j<=As.length/\Hid (kO As (-1) k=kO (As.drop j) l k)/\wr=we) (λ_ _ s56 _=>As.length-(intOf s56).toNat)
   case atStart=>exact⟨0,-1,rfl,rfl,Nat.zero_le _,zh rfl,rfl⟩
   obtain⟨j,l,rfl,rfl,hj,HA,rfl⟩:=hrel
   by_cases cl:j<As.length
   ·obtain⟨b2,o2,a,rfl,gN,c6,q0⟩:=HS.out.at1 cl
    have j1:(j:Int)<(As.length:Int):=by omega
    have j0:(0:Int)<=(j:Int):=by omega
    have dt:As.drop j=a :: As.drop (j+1):=by
     rw[List.drop_eq_getElem_cons cl]
     congr 1
     exact (List.getElem?_eq_some_iff.1 c6).2
    have cO:kO As (-1) k=(decide (l<a/\a<(k:Int))&&kO (As.drop (j+1)) a k):=by rw[HA.out,dt];rfl
    have cL:=zh cO
    clear dt cO c6
    by_cases hg:l<a/\a<(k:Int)
    ·have g1:¬ a<=l:=by omega
     have g2:¬ a>=(k:Int):=by omega
     have es:=zh (show kO As (-1) k=kO (As.drop (j+1)) a k by rw[cL.out,decide_eq_true hg,Bool.true_and])
     go_wp2_with fail
     exact⟨⟨j+1,a,by go_num,rfl,cl,es,trivial⟩,by simp[intOf];omega⟩
    have hf:=HR.out (.returned (.int .i64 1)) wr ⟨by rw[cc.out,cL.out,decide_eq_false hg];rfl,bv.out⟩
    have HF:=zh hf
    clear hf
    by_cases g1:a<=l
    ·go_wp2_with fail
     exact HF.out
    have g2:a>=(k:Int):=by omega
    go_wp2_with fail
    exact HF.out
   obtain rfl:j=As.length:=by omega
   have j1:¬ (As.length:Int)<(As.length:Int):=by omega
   have eu:=zh (show dU (L.map (·.1))=xT ((L.map (·.1)).drop (k+1)) (k+1) by
    rw[cc.out,HA.out,List.drop_length]
    rfl)
   go_wp2_with fail
   exact⟨⟨k+1,by go_num,am,eu,bv⟩,by simp[intOf];omega⟩
 obtain rfl:k=n:=by omega
 have i9:¬ (k:Int)<(k:Int):=by omega
 have hf:=HR.out (.returned (.int .i64 0)) wb ⟨by rw[HC.out,List.drop_eq_nil_of_le (by rw[List.length_map];have:=Hl.out;omega)];rfl,HB.out⟩
 have HF:=zh hf
 clear hf
 go_wp2_with fail
 exact HF.out
end
end
end Go.Proofs.YtgbnicokglpdbaaGreatDoor
