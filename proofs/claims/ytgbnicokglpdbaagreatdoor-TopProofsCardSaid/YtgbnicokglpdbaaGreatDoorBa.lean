/-
Plain; conditions: those of each theorem.
-/
import Derived.RowKit
namespace Go.Proofs.YtgbnicokglpdbaaGreatDoor
section
section
def aJ:Int := -1125899906842624
structure Cd where
 a:Nat
 b:Nat
 l:Int
 s:Nat×Bool
structure Lw where
 L:Nat->Int
 P:Nat->Nat×Bool
def aR{α:Type}(f:Nat->α)(i:Nat)(x:α):Nat->α:=λj=>if j=i then x else f j
theorem bH{α:Type}(f:Nat->α)(i:Nat)(x:α):aR f i x i=x:=if_pos rfl
theorem bA{α:Type}(f:Nat->α){i j:Nat}(x:α)(h:j≠i):aR f i x j=f j:=if_neg h
def gi(c:Cd)(s:Lw):Bool:=decide (s.L c.a≠aJ/\s.L c.b<s.L c.a+c.l)
def eS(c:Cd)(s:Lw):Lw:=if gi c s=true then ⟨aR s.L c.b (s.L c.a+c.l),aR s.P c.b c.s⟩ else s
def bG:List Cd->Lw×Bool->Lw×Bool
 |[],x=>x
 |c :: C,x=>bG C (eS c x.1,x.2||gi c x.1)
def fg(L:Nat->Int):Nat->Nat
 |0=>0
 |n+1=>fg L n+if L n=aJ then 0 else 1
theorem zM(L:Nat->Int):∀ n,fg L n<=n
 |0=>Nat.le_refl _
 |n+1=>by have:=zM L n;unfold fg;split<;>omega
theorem wY{L:Nat->Int}{v:Nat}(h:L v≠aJ):∀ n,v<n->1<=fg L n
 |0,h9=>by omega
 |n+1,h9=>by
  unfold fg
  by_cases e:v=n
  ·subst e;rw[if_neg h];omega
  have:=wY h n (by omega);omega
theorem uP{L:Nat->Int}{b:Nat}{x:Int}(hb:L b≠aJ)(hx:x≠aJ):∀ n,fg (aR L b x) n=fg L n
 |0=>rfl
 |n+1=>by
  unfold fg
  rw[uP hb hx n]
  by_cases e:n=b
  ·subst e;rw[bH,if_neg hx,if_neg hb]
  rw[bA _ _ e]
theorem uO{L:Nat->Int}{b:Nat}{x:Int}(hb:L b=aJ)(hx:x≠aJ):∀ n,fg (aR L b x) n=fg L n+if b<n then 1 else 0
 |0=>rfl
 |n+1=>by
  unfold fg
  rw[uO hb hx n]
  by_cases e:n=b
  ·subst e;rw[bH,if_neg hx,if_pos hb,if_neg (Nat.lt_irrefl _),if_pos (Nat.lt_succ_self _)]
  rw[bA _ _ e]
  by_cases e2:b<n
  ·rw[if_pos e2,if_pos (show b<n+1 by omega)];omega
  rw[if_neg e2,if_neg (show ¬ b<n+1 by omega)];omega
structure Cf(C:List Cd)(n r:Nat)(M U B:Int)(f:Nat->Int):Prop where
 m:0<M
 b0:0<=B
 bn:B*(n:Int)<=1000000000000
 u0:0<=U/\U<=1000000000000
 rn:r<n
 st:∀ c∈C,c.a<n/\c.b<n/\-B<=c.l/\c.l<=B/\f c.a+M*c.l<=f c.b
 up:∀ v,v<n->f v-f r<=M*U
inductive o7 (par:Nat->Nat) (b r:Nat):Nat->Prop
 |self:o7 par b r b
 |step {v:Nat}:v≠r->o7 par b r (par v)->o7 par b r v
structure Iv(C:List Cd)(n r:Nat)(M B:Int)(f:Nat->Int)(s:Lw):Prop where
 root:s.L r=0
 out:∀ v,n<=v->s.L v=aJ
 up:∀ v,s.L v≠aJ->M*s.L v-f v<=- f r
 dn:∀ v,s.L v≠aJ->B-B*(fg s.L n:Int)<=s.L v
 tree:∃ (par h:Nat->Nat),∀ v,s.L v≠aJ->v≠r->∃ c∈C,c.b=v/\c.a=par v/\s.P v=c.s/\s.L c.a≠aJ/\s.L v<=s.L c.a+c.l/\h c.a<h v
section
variable{C:List Cd}{n r:Nat}{M U B:Int}{f:Nat->Int}(hc:Cf C n r M U B f)
include hc
theorem Cf.dn{s:Lw}(hi:Iv C n r M B f s){v:Nat}(hv:s.L v≠aJ) : -1000000000000+B<=s.L v:=by
 have h1:=hi.dn v hv
 have h2:B*(fg s.L n:Int)<=B*(n:Int):=Int.mul_le_mul_of_nonneg_left (by have:=zM s.L n;omega) hc.b0
 have:=hc.bn
 omega
theorem Cf.hi{s:Lw}(hi:Iv C n r M B f s){v:Nat}(hv:s.L v≠aJ):s.L v<=U:=by
 have hn:v<n:=by
  rcases Nat.lt_or_ge v n with h|h
  ·exact h
  exact absurd (hi.out v h) hv
 have h1:=hi.up v hv
 have h2:=hc.up v hn
 have h3:M*s.L v<=M*U:=by omega
 exact Int.le_of_mul_le_mul_left h3 hc.m
theorem Cf.rel{s:Lw}(hi:Iv C n r M B f s){c:Cd}(hm:c∈C)(hr:gi c s=true):Iv C n r M B f (eS c s)/\s.L c.b<s.L c.a+c.l/\s.L c.a+c.l<=U/\s.L c.a+c.l≠aJ:=by
 obtain⟨ha,bk⟩:=of_decide_eq_true hr
 obtain⟨c1,c2,c3,c4,c5⟩:=hc.st c hm
 have cl:=hi.up _ ha
 have cc:=hc.dn hi ha
 have b9:=hc.b0
 have hM:M*(s.L c.a+c.l)-f c.b<=M*s.L c.a-f c.a:=by rw[Int.mul_add];omega
 have bg:s.L c.a+c.l≠aJ:=by unfold aJ;omega
 have hU:s.L c.a+c.l<=U:=by
  have h2:=hc.up _ c2
  have h3:M*(s.L c.a+c.l)<=M*U:=by omega
  exact Int.le_of_mul_le_mul_left h3 hc.m
 have bS:c.b≠r:=by
  intro e
  have h0:s.L c.b=0:=by rw[e];exact hi.root
  have h3:M*(s.L c.a+c.l)<=M*0:=by rw[Int.mul_zero];rw[e] at hM;omega
  have:=Int.le_of_mul_le_mul_left h3 hc.m
  omega
 refine⟨?_,bk,hU,bg⟩
 have e:eS c s=⟨aR s.L c.b (s.L c.a+c.l),aR s.P c.b c.s⟩:=if_pos hr
 rw[e]
 obtain⟨par,h,ht⟩:=hi.tree
 have hq:∀ v,o7 par c.b r v->s.L v≠aJ->s.L c.b≠aJ/\M*s.L v-f v<=M*s.L c.b-f c.b:=by
  intro v hu
  induction hu with
  |self=>exact λhv=>⟨hv,Int.le_refl _⟩
  |@step v a9 _ ih =>
   intro hv
   obtain⟨d,hd,d1,d2,-,d4,d5,-⟩:=ht v hv a9
   rw[d2] at d4 d5
   obtain⟨i1,i2⟩:=ih d4
   obtain⟨-,-,-,-,e5⟩:=hc.st d hd
   rw[d1,d2] at e5
   have h5:M*s.L v<=M*(s.L (par v)+d.l):=Int.mul_le_mul_of_nonneg_left d5 (Int.le_of_lt hc.m)
   rw[Int.mul_add] at h5
   exact⟨i1,by omega⟩
 have bw:¬ o7 par c.b r c.a:=by
  intro hu
  obtain⟨h1,h2⟩:=hq _ hu ha
  have h3:M*s.L c.b<M*(s.L c.a+c.l):=Int.mul_lt_mul_of_pos_left bk hc.m
  omega
 have ad:∀ v,v≠c.b->aR s.L c.b (s.L c.a+c.l) v=s.L v:=λv hv=>bA _ _ hv
 have bc:aR s.L c.b (s.L c.a+c.l) c.b=s.L c.a+c.l:=bH _ _ _
 classical
 refine⟨(ad r (Ne.symm bS)).trans hi.root,λv hv=>(ad v (by omega)).trans (hi.out v hv),λv hv=>?_,λv hv=>?_,aR par c.b c.a,λv=>if o7 par c.b r v then h v+h c.a+1 else h v,λv hv a9=>?_⟩
 ·dsimp only at hv ⊢
  by_cases e:v=c.b
  ·subst e;rw[bc];omega
  rw[ad v e] at hv ⊢;exact hi.up v hv
 ·
  dsimp only at hv ⊢
  have bj:B*(fg s.L n:Int)<=B*(fg (aR s.L c.b (s.L c.a+c.l)) n:Int)/\(s.L c.b=aJ->B*(fg (aR s.L c.b (s.L c.a+c.l)) n:Int)=B*(fg s.L n:Int)+B):=by
   by_cases hb:s.L c.b=aJ
   ·rw[uO hb bg,if_pos c2]
    have:B*((fg s.L n+1:Nat):Int)=B*(fg s.L n:Int)+B:=by rw[Int.natCast_add,Int.mul_add];simp
    exact⟨by omega,λ_=>this⟩
   rw[uP hb bg]
   exact⟨Int.le_refl _,λh=>absurd h hb⟩
  by_cases e:v=c.b
  ·subst e
   rw[bc]
   by_cases hb:s.L c.b=aJ
   ·have h1:=hi.dn _ ha
    have h2:=bj.2 hb
    omega
   have h1:=hi.dn _ hb
   have h2:=bj.1
   omega
  rw[ad v e] at hv ⊢
  have h1:=hi.dn v hv
  have h2:=bj.1
  omega
 dsimp only at hv ⊢
 have bE:c.a≠c.b:=λe=>bw (e ▸ o7.self)
 have bt:=ad _ bE
 by_cases e:v=c.b
 ·subst e
  refine⟨c,hm,rfl,(bH _ _ _).symm,bH _ _ _,by rw[bt];exact ha,by rw[bc,bt];exact Int.le_refl _,?_⟩
  rw[if_neg bw,if_pos o7.self];omega
 rw[ad v e] at hv
 obtain⟨d,hd,d1,d2,d3,d4,d5,d6⟩:=ht v hv a9
 refine⟨d,hd,d1,d2.trans (bA _ _ e).symm,(bA _ _ e).trans d3,?_,?_,?_⟩
 ·by_cases e2:d.a=c.b
  ·rw[e2,bc];exact bg
  rw[ad _ e2];exact d4
 ·rw[ad v e]
  by_cases e2:d.a=c.b
  ·rw[e2,bc];rw[e2] at d5;omega
  rw[ad _ e2];exact d5
 by_cases hu:o7 par c.b r v
 ·have bq:o7 par c.b r d.a:=by
   cases hu with
   |self=>exact absurd rfl e
   |step _ h9=>rw[d2];exact h9
  rw[if_pos hu,if_pos bq];omega
 have bq:¬ o7 par c.b r d.a:=λh9=>hu (.step a9 (d2 ▸ h9))
 rw[if_neg hu,if_neg bq];exact d6
def lT(U:Int)(L:Nat->Int):Nat->Nat
 |0=>0
 |n+1=>lT U L n+(U-L n).toNat
omit hc in
theorem Da{L:Nat->Int}{b:Nat}{x:Int}(h1:L b<x)(h2:x<=U):∀ k,lT U (aR L b x) k<=lT U L k/\(b<k->lT U (aR L b x) k<lT U L k)
 |0=>⟨Nat.le_refl _,λh=>by omega⟩
 |k+1=>by
  obtain⟨i1,i2⟩:=Da h1 h2 k
  unfold lT
  by_cases e:k=b
  ·subst e
   rw[bH]
   exact⟨by omega,λ_=>by omega⟩
  rw[bA _ _ e]
  exact⟨by omega,λh=>by have:=i2 (by omega);omega⟩
theorem Cf.rnd:∀ (D:List Cd) (s:Lw) (q:Bool),(∀ c∈D,c∈C)->Iv C n r M B f s->Iv C n r M B f (bG D (s,q)).1/\lT U (bG D (s,q)).1.L n<=lT U s.L n/\((bG D (s,q)).2=true->q=true\/lT U (bG D (s,q)).1.L n<lT U s.L n)/\
 ((bG D (s,q)).2=false->q=false/\(bG D (s,q)).1=s/\∀ c∈D,gi c s=false)
 |[],s,q,_,hi=>⟨hi,Nat.le_refl _,λh=>.inl h,λh=>⟨h,rfl,λc hc=>by cases hc⟩⟩
 |c :: D,s,q,hD,hi=>by
  have hm:=hD c List.mem_cons_self
  show Iv C n r M B f (bG D (eS c s,q||gi c s)).1/\_/\_/\_
  cases hr:gi c s with
  |false =>
   have e:eS c s=s:=if_neg (by rw[hr];exact Bool.false_ne_true)
   rw[e,Bool.or_false]
   obtain⟨i1,i2,i3,i4⟩:=Cf.rnd D s q (λd hd=>hD d (List.mem_cons_of_mem _ hd)) hi
   have e2:bG (c :: D) (s,q)=bG D (s,q):=by show bG D (eS c s,q||gi c s)=_;rw[e,hr,Bool.or_false]
   rw[e2]
   refine⟨i1,i2,i3,λh=>?_⟩
   obtain⟨j1,j2,j3⟩:=i4 h
   refine⟨j1,j2,λd hd=>?_⟩
   rcases List.mem_cons.1 hd with rfl|hd
   ·exact hr
   exact j3 d hd
  |true =>
   obtain⟨k1,k2,k3,-⟩:=hc.rel hi hm hr
   have bk:lT U (eS c s).L n<lT U s.L n:=by
    have e:eS c s=⟨aR s.L c.b (s.L c.a+c.l),aR s.P c.b c.s⟩:=if_pos hr
    rw[e]
    exact (Da k2 k3 n).2 (hc.st c hm).2.1
   obtain⟨i1,i2,i3,i4⟩:=Cf.rnd D (eS c s) (q||true) (λd hd=>hD d (List.mem_cons_of_mem _ hd)) k1
   have e2:bG (c :: D) (s,q)=bG D (eS c s,q||true):=by show bG D (eS c s,q||gi c s)=_;rw[hr]
   rw[e2]
   refine⟨i1,by omega,λ_=>.inr (by omega),λh=>?_⟩
   have:=(i4 h).1
   rw[Bool.or_true] at this
   cases this
end
def fS(C:List Cd):Nat->Lw->Lw
 |0,s=>s
 |k+1,s=>fS C k (bG C (s,false)).1
theorem jN(C:List Cd):∀ (k:Nat) (s:Lw),fS C (k+1) s=(bG C (fS C k s,false)).1
 |0,_=>rfl
 |k+1,s=>by
  show fS C (k+1) (bG C (s,false)).1=_
  rw[jN C k]
  rfl
def qP(C:List Cd)(s:Lw):Prop:=bG C (s,false)=(s,false)
theorem ra{C:List Cd}{s:Lw}(h:qP C s):∀ k,fS C k s=s
 |0=>rfl
 |k+1=>by rw[jN,ra h k,h]
theorem tQ(C:List Cd):∀ (j k:Nat) (s:Lw),fS C (k+j) s=fS C j (fS C k s)
 |0,_,_=>rfl
 |j+1,k,s=>by rw[← Nat.add_assoc,jN,jN,tQ C j k s]
open Classical in
noncomputable def cK(C:List Cd)(s:Lw):Lw:=if h:∃ k,qP C (fS C k s) then fS C (Classical.choose h) s else s
theorem C5{C:List Cd}{s:Lw}{k:Nat}(h:qP C (fS C k s)):cK C s=fS C k s:=by
 have hx:∃ k,qP C (fS C k s):=⟨k,h⟩
 unfold cK
 rw[dif_pos hx]
 have h2:=Classical.choose_spec hx
 generalize Classical.choose hx=m at h2 ⊢
 rcases Nat.le_total k m with a0|a0
 ·obtain⟨j,rfl⟩:=Nat.exists_eq_add_of_le a0
  rw[tQ,ra h]
 obtain⟨j,rfl⟩:=Nat.exists_eq_add_of_le a0
 rw[tQ,ra h2]
def bB(r:Nat):Lw:=⟨λv=>if v=r then 0 else aJ,λ_=>(0,false)⟩
section
variable{C:List Cd}{n r:Nat}{M U B:Int}{f:Nat->Int}(hc:Cf C n r M U B f)
include hc
theorem Cf.iv0:Iv C n r M B f (bB r):=by
 have hr:=hc.rn
 have h1:∀ v,(bB r).L v≠aJ->v=r:=λv hv=>by
  by_cases e:v=r
  ·exact e
  exact absurd (if_neg e) hv
 have h0:(bB r).L r=0:=if_pos rfl
 refine⟨h0,λv hv=>if_neg (by omega),λv hv=>?_,λv hv=>?_,id,λ_=>0,λv hv a9=>absurd (h1 v hv) a9⟩
 ·obtain rfl:=h1 v hv
  rw[h0,Int.mul_zero];omega
 obtain rfl:=h1 v hv
 have h2:1<=fg (bB v).L n:=wY hv n hr
 have h3:B*1<=B*(fg (bB v).L n:Int):=Int.mul_le_mul_of_nonneg_left (by omega) hc.b0
 rw[h0];omega
theorem Cf.it{s:Lw}(hi:Iv C n r M B f s):∀ k,Iv C n r M B f (fS C k s)
 |0=>hi
 |k+1=>by rw[jN];exact (hc.rnd C _ false (λ_ h=>h) (Cf.it hi k)).1
theorem Cf.rest{s:Lw}(hi:Iv C n r M B f s)(h:(bG C (s,false)).2=false):qP C s:=by
 obtain⟨-,h2,-⟩:=(hc.rnd C s false (λ_ h=>h) hi).2.2.2 h
 exact Prod.ext h2 h
theorem Cf.ends{s:Lw}(hi:Iv C n r M B f s):∃ k,qP C (fS C k s):=by
 obtain⟨m,hm⟩:∃ m,lT U s.L n=m:=⟨_,rfl⟩
 induction m using Nat.strongRecOn generalizing s with
 |_ m ih =>
  cases hq:(bG C (s,false)).2 with
  |false=>exact⟨0,hc.rest hi hq⟩
  |true =>
   obtain⟨h1,-,h3,-⟩:=hc.rnd C s false (λ_ h=>h) hi
   rcases h3 hq with h|h
   ·cases h
   obtain⟨k,hk⟩:=ih _ (hm ▸ h) h1 rfl
   exact⟨k+1,hk⟩
theorem Cf.fin:Iv C n r M B f (cK C (bB r))/\∀ c∈C,(cK C (bB r)).L c.a≠aJ->(cK C (bB r)).L c.b≠aJ/\(cK C (bB r)).L c.a+c.l<=(cK C (bB r)).L c.b:=by
 obtain⟨k,hk⟩:=hc.ends hc.iv0
 rw[C5 hk]
 have hi:=hc.it hc.iv0 k
 refine⟨hi,λc hm ha=>?_⟩
 have hq:(bG C (fS C k (bB r),false)).2=false:=by rw[hk]
 have hr:=((hc.rnd C _ false (λ_ h=>h) hi).2.2.2 hq).2.2 c hm
 have a0:(fS C k (bB r)).L c.a+c.l<=(fS C k (bB r)).L c.b:=by
  have h9:=of_decide_eq_false hr
  by_cases h8:(fS C k (bB r)).L c.b<(fS C k (bB r)).L c.a+c.l
  ·exact absurd ⟨ha,h8⟩ h9
  omega
 refine⟨λhf=>?_,a0⟩
 have h1:=hc.dn hi ha
 have h2:=(hc.st c hm).2.2.1
 rw[hf] at a0
 unfold aJ at a0
 omega
end
end
end
section
section
structure Ac where
 f:Nat
 t:Nat
 l:Int
 r:Int
 k:Nat
 num:Nat
def uJ(a:Ac)(x:Int)(i:Nat):List Cd:=(if x<a.r then [⟨a.f,a.t,a.l,(i,false)⟩] else [])++if 0<x then [⟨a.t,a.f,-a.l,(i,true)⟩] else []
def aq:List Ac->(Nat->Int)->Nat->List Cd
 |[],_,_=>[]
 |a :: E,F,i=>uJ a (F i) i++aq E F (i+1)
theorem gS{a:Ac}{x:Int}{i:Nat}{c:Cd}:c∈uJ a x i ↔ (x<a.r/\c=⟨a.f,a.t,a.l,(i,false)⟩)\/(0<x/\c=⟨a.t,a.f,-a.l,(i,true)⟩):=by
 unfold uJ
 rw[List.mem_append]
 constructor
 ·rintro (h|h)
  ·split at h
   ·exact .inl ⟨by assumption,List.mem_singleton.1 h⟩
   cases h
  split at h
  ·exact .inr ⟨by assumption,List.mem_singleton.1 h⟩
  cases h
 rintro (⟨h,rfl⟩|⟨h,rfl⟩)
 ·rw[if_pos h];exact .inl (List.mem_singleton.2 rfl)
 rw[if_pos h];exact .inr (List.mem_singleton.2 rfl)
theorem eK{c:Cd}{F:Nat->Int}:∀ (E:List Ac) (o:Nat),c∈aq E F o ↔ ∃ i a,E[i]?=some a/\c∈uJ a (F (o+i)) (o+i)
 |[],o=>by simp[aq]
 |a :: E,o=>by
  unfold aq
  rw[List.mem_append,eK E (o+1)]
  constructor
  ·rintro (h|⟨i,b,h1,h2⟩)
   ·exact⟨0,a,rfl,h⟩
   exact⟨i+1,b,h1,by rw[show o+(i+1)=o+1+i by omega];exact h2⟩
  rintro⟨i,b,h1,h2⟩
  cases i with
  |zero=>cases h1;exact .inl h2
  |succ i=>exact .inr ⟨i,b,h1,by rw[show o+1+i=o+(i+1) by omega];exact h2⟩
def wE(w:Ac->Int):List Ac->(Nat->Int)->Nat->Int
 |[],_,_=>0
 |a :: E,F,o=>F o*w a+wE w E F (o+1)
theorem Ea(w:Ac->Int){F:Nat->Int}{j:Nat}{x:Int}:∀ (E:List Ac) (o:Nat),j<o->wE w E (aR F j x) o=wE w E F o
 |[],_,_=>rfl
 |a :: E,o,h=>by
  unfold wE
  rw[Ea w E (o+1) (by omega),bA _ _ (by omega)]
theorem yB(w:Ac->Int){F:Nat->Int}{x:Int}{a:Ac}:∀ (E:List Ac) (o j:Nat),E[j]?=some a->wE w E (aR F (o+j) x) o=wE w E F o+(x-F (o+j))*w a
 |[],_,_,h=>by simp at h
 |b :: E,o,0,h=>by
  cases h
  unfold wE
  rw[Ea w E (o+1) (by omega),Nat.add_zero,bH,Int.sub_mul]
  omega
 |b :: E,o,j+1,h=>by
  unfold wE
  rw[show o+(j+1)=o+1+j by omega,yB w E (o+1) j h,bA _ _ (by omega)]
  omega
theorem aC(w:Ac->Int){F:Nat->Int}:∀ (A B:List Ac) (o:Nat),wE w (A++B) F o=wE w A F o+wE w B F (o+A.length)
 |[],B,o=>by simp[wE]
 |a :: A,B,o=>by
  show F o*w a+wE w (A++B) F (o+1)=F o*w a+wE w A F (o+1)+wE w B F (o+(A.length+1))
  rw[aC w A B (o+1),show o+1+A.length=o+(A.length+1) by omega]
  omega
theorem gP(w w':Ac->Int){F:Nat->Int}:∀ (E:List Ac) (o:Nat),wE (λa=>w a+w' a) E F o=wE w E F o+wE w' E F o
 |[],_=>rfl
 |a :: E,o=>by
  unfold wE
  rw[gP w w' E (o+1),Int.mul_add]
  omega
theorem wB{w w':Ac->Int}{F:Nat->Int}:∀ (E:List Ac) (o:Nat),(∀ i a,E[i]?=some a->F (o+i)*w a<=F (o+i)*w' a)->wE w E F o<=wE w' E F o
 |[],_,_=>Int.le_refl _
 |a :: E,o,h=>by
  unfold wE
  have h0:=h 0 a rfl
  have h1:=wB (w:=w) (w':=w') (F:=F) E (o+1) λi b hb=>by
   have:=h (i+1) b hb
   rwa [show o+(i+1)=o+1+i by omega] at this
  rw[Nat.add_zero] at h0
  omega
theorem oQ{w w':Ac->Int}{F:Nat->Int}(E:List Ac)(o:Nat)(h:∀ i a,E[i]?=some a->F (o+i)*w a=F (o+i)*w' a):wE w E F o=wE w' E F o:=
 Int.le_antisymm (wB E o λi a hi=>Int.le_of_eq (h i a hi)) (wB E o λi a hi=>Int.le_of_eq (h i a hi).symm)
inductive Wy (E:List Ac):List (Nat×Bool)->Nat->Prop
 |nil:Wy E [] 0
 |fwd {i:Nat} {a:Ac} {S:List (Nat×Bool)}:E[i]?=some a->a.t≠0->Wy E S a.f->Wy E ((i,false) :: S) a.t
 |bwd {i:Nat} {a:Ac} {S:List (Nat×Bool)}:E[i]?=some a->a.f≠0->Wy E S a.t->Wy E ((i,true) :: S) a.f
def fG(d:Int)(b:Bool):Int:=if b=true then -d else d
def fj(d:Int):List (Nat×Bool)->(Nat->Int)->Nat->Int
 |[],F=>F
 |s :: S,F=>fj d S (aR F s.1 (F s.1+fG d s.2))
theorem mT(d:Int){j:Nat}:∀ (S:List (Nat×Bool)) (F:Nat->Int),(∀ s∈S,s.1≠j)->fj d S F j=F j
 |[],_,_=>rfl
 |s :: S,F,h=>by
  show fj d S (aR F s.1 (F s.1+fG d s.2)) j=F j
  rw[mT d S _ λx hx=>h x (List.mem_cons_of_mem _ hx),bA _ _ (Ne.symm (h s List.mem_cons_self))]
def tD(S:List (Nat×Bool)):Prop:=S.Pairwise λx y=>x.1≠y.1
theorem Cl(d:Int){j:Nat}{b:Bool}:∀ (S:List (Nat×Bool)) (F:Nat->Int),tD S->(j,b)∈S->fj d S F j=F j+fG d b
 |[],_,_,h=>by cases h
 |s :: S,F,ho,h=>by
  obtain⟨h1,h2⟩:=List.pairwise_cons.1 ho
  show fj d S (aR F s.1 (F s.1+fG d s.2)) j=_
  rcases List.mem_cons.1 h with e|h
  ·subst e
   rw[mT d S _ λx hx=>Ne.symm (h1 x hx),bH]
  have b6:=h1 _ h
  rw[Cl d S _ h2 h,bA _ _ (Ne.symm b6)]
def wS(E:List Ac)(w:Ac->Int):List (Nat×Bool)->Int
 |[]=>0
 |s :: S=>(match E[s.1]? with|some a=>fG (w a) s.2|none=>0)+wS E w S
theorem AB(d x:Int)(b:Bool):fG d b*x=d*fG x b:=by
 cases b
 ·rfl
 show -d*x=d * -x
 rw[Int.neg_mul,Int.mul_neg]
theorem Eb(w:Ac->Int)(d:Int){E:List Ac}{S:List (Nat×Bool)}{v:Nat}(h:Wy E S v):∀ F,wE w E (fj d S F) 0=wE w E F 0+d*wS E w S:=by
 induction h with
 |nil=>intro F;show _=_+d*0;rw[Int.mul_zero,Int.add_zero];rfl
 |@fwd i a S hi _ _ ih =>
  intro F
  show wE w E (fj d S (aR F i (F i+fG d false))) 0=_
  rw[ih]
  have:=yB w (F:=F) (x:=F i+fG d false) E 0 i hi
  rw[Nat.zero_add] at this
  rw[this]
  show _=wE w E F 0+d*((match E[i]? with|some a=>fG (w a) false|none=>0)+wS E w S)
  rw[hi]
  dsimp only
  rw[Int.mul_add,show F i+fG d false-F i=fG d false by omega,AB]
  omega
 |@bwd i a S hi _ _ ih =>
  intro F
  show wE w E (fj d S (aR F i (F i+fG d true))) 0=_
  rw[ih]
  have:=yB w (F:=F) (x:=F i+fG d true) E 0 i hi
  rw[Nat.zero_add] at this
  rw[this]
  show _=wE w E F 0+d*((match E[i]? with|some a=>fG (w a) true|none=>0)+wS E w S)
  rw[hi]
  dsimp only
  rw[Int.mul_add,show F i+fG d true-F i=fG d true by omega,AB]
  omega
theorem Ec(ps:Nat->Int){E:List Ac}{S:List (Nat×Bool)}{v:Nat}(h:Wy E S v):wS E (λa=>ps a.t-ps a.f) S=ps v-ps 0:=by
 induction h with
 |nil=>show (0:Int)=_;omega
 |@fwd i a S hi _ _ ih =>
  show (match E[i]? with|some a=>fG (ps a.t-ps a.f) false|none=>0)+_=_
  rw[hi,ih]
  show ps a.t-ps a.f+_=_
  omega
 |@bwd i a S hi _ _ ih =>
  show (match E[i]? with|some a=>fG (ps a.t-ps a.f) true|none=>0)+_=_
  rw[hi,ih]
  show -(ps a.t-ps a.f)+_=_
  omega
end
end
section
section
def uq(E:List Ac)(s:Nat×Bool):Nat:=match E[s.1]? with
 |some a=>if s.2=true then a.t else a.f
 |none=>0
inductive jI (E:List Ac) (P:Nat->Nat×Bool):Nat->List (Nat×Bool)->Prop
 |nil:jI E P 0 []
 |cons {v:Nat} {S:List (Nat×Bool)}:v≠0->jI E P (uq E (P v)) S->jI E P v (P v :: S)
theorem jI.uniq{E:List Ac}{P:Nat->Nat×Bool}{v:Nat}{S S':List (Nat×Bool)}(h:jI E P v S)(h':jI E P v S'):S=S':=by
 induction h generalizing S' with
 |nil =>
  cases h' with
  |nil=>rfl
  |cons h _=>exact absurd rfl h
 |cons hv _ ih =>
  cases h' with
  |nil=>exact absurd rfl hv
  |cons _ h2=>rw[ih h2]
structure AK(E:List Ac)(F:Nat->Int)(L:Nat->Int)(x:Nat×Bool)(a:Ac):Prop where
 arc:E[x.1]?=some a
 tight:L a.t=L a.f+a.l
 fwd:x.2=false->F x.1<a.r
 bwd:x.2=true->0<F x.1
section
variable{E:List Ac}{F:Nat->Int}{n:Nat}{M U B:Int}{f:Nat->Int}(hc:Cf (aq E F 0) n 0 M U B f)
include hc
theorem J0{v:Nat}(hv:(cK (aq E F 0) (bB 0)).L v≠aJ):∃ S,jI E (cK (aq E F 0) (bB 0)).P v S/\Wy E S v/\tD S/\∀ x∈S,∃ a,AK E F (cK (aq E F 0) (bB 0)).L x a:=by
 obtain⟨hi,bv⟩:=hc.fin
 generalize cK (aq E F 0) (bB 0)=s at hi bv hv ⊢
 obtain⟨par,h,ht⟩:=hi.tree
 have bm:∀ u,s.L u≠aJ->u≠0->∃ i a,E[i]?=some a/\s.L a.t=s.L a.f+a.l/\((s.P u=(i,false)/\u=a.t/\uq E (s.P u)=a.f/\s.L a.f≠aJ/\h a.f<h u/\F i<a.r)\/(s.P u=(i,true)/\u=a.f/\uq E (s.P u)=a.t/\s.L a.t≠aJ/\h a.t<h u/\0<F i)):=by
  intro u hu b7
  obtain⟨c,hm,c1,c2,c3,c4,c5,c6⟩:=ht u hu b7
  have h9:=(bv c hm c4).2
  obtain⟨i,a,aa,bu⟩:=(eK E 0).1 hm
  rw[Nat.zero_add] at bu
  rcases gS.1 bu with⟨g1,rfl⟩|⟨g1,rfl⟩
  ·dsimp only at c1 c2 c3 c4 c5 c6 h9
   subst c1
   refine⟨i,a,aa,by omega,.inl ⟨c3,rfl,?_,c4,c6,g1⟩⟩
   rw[c3];unfold uq;dsimp only;rw[aa];rfl
  dsimp only at c1 c2 c3 c4 c5 c6 h9
  subst c1
  refine⟨i,a,aa,by omega,.inr ⟨c3,rfl,?_,c4,c6,g1⟩⟩
  rw[c3];unfold uq;dsimp only;rw[aa];rfl
 suffices H:∀ (k:Nat) (v:Nat),h v=k->s.L v≠aJ->∃ S,jI E s.P v S/\Wy E S v/\tD S/\(∀ x∈S,∃ a,AK E F s.L x a)/\∀ x∈S,∃ u,u≠0/\s.L u≠aJ/\s.P u=x/\h u<=h v by
  obtain⟨S,h1,h2,h3,h4,-⟩:=H _ v rfl hv
  exact⟨S,h1,h2,h3,h4⟩
 intro k
 induction k using Nat.strongRecOn with
 |_ k ih =>
  intro v hk hv
  by_cases aF:v=0
  ·subst aF
   exact⟨[],.nil,.nil,List.Pairwise.nil,λx hx=>(by cases hx),λx hx=>(by cases hx)⟩
  obtain⟨i,a,aa,bD,b5⟩:=bm v hv aF
  rcases b5 with⟨c3,rfl,e,c4,c6,g1⟩|⟨c3,rfl,e,c4,c6,g1⟩
  ·obtain⟨S,i1,i2,i3,i4,i5⟩:=ih _ (hk ▸ c6) a.f rfl c4
   refine⟨s.P a.t :: S,.cons aF (e ▸ i1),by rw[c3];exact .fwd aa aF i2,List.pairwise_cons.2 ⟨λx hx hq=>?_,i3⟩,λx hx=>?_,λx hx=>?_⟩
   ·obtain⟨u,u0,u1,u2,u3⟩:=i5 x hx
    rw[c3] at hq
    obtain⟨j,b,am,-,bi⟩:=bm u u1 u0
    rcases bi with⟨d3,d4,d5,d6,d7,-⟩|⟨d3,d4,d5,d6,d7,-⟩
    ·rw[← u2,d3] at hq
     dsimp only at hq
     subst hq
     rw[aa] at am
     cases am
     rw[d4] at u3
     omega
    rw[← u2,d3] at hq
    dsimp only at hq
    subst hq
    rw[aa] at am
    cases am
    rw[d4] at u3 d7
    omega
   ·rcases List.mem_cons.1 hx with rfl|hx
    ·rw[c3];exact⟨a,aa,bD,λ_=>g1,λh9=>(by cases h9)⟩
    exact i4 x hx
   rcases List.mem_cons.1 hx with rfl|hx
   ·exact⟨a.t,aF,hv,rfl,Nat.le_refl _⟩
   obtain⟨u,u0,u1,u2,u3⟩:=i5 x hx
   exact⟨u,u0,u1,u2,by omega⟩
  obtain⟨S,i1,i2,i3,i4,i5⟩:=ih _ (hk ▸ c6) a.t rfl c4
  refine⟨s.P a.f :: S,.cons aF (e ▸ i1),by rw[c3];exact .bwd aa aF i2,List.pairwise_cons.2 ⟨λx hx hq=>?_,i3⟩,λx hx=>?_,λx hx=>?_⟩
  ·obtain⟨u,u0,u1,u2,u3⟩:=i5 x hx
   rw[c3] at hq
   obtain⟨j,b,am,-,bi⟩:=bm u u1 u0
   rcases bi with⟨d3,d4,d5,d6,d7,-⟩|⟨d3,d4,d5,d6,d7,-⟩
   ·rw[← u2,d3] at hq
    dsimp only at hq
    subst hq
    rw[aa] at am
    cases am
    rw[d4] at u3 d7
    omega
   rw[← u2,d3] at hq
   dsimp only at hq
   subst hq
   rw[aa] at am
   cases am
   rw[d4] at u3
   omega
  ·rcases List.mem_cons.1 hx with rfl|hx
   ·rw[c3];exact⟨a,aa,bD,λh9=>(by cases h9),λ_=>g1⟩
   exact i4 x hx
  rcases List.mem_cons.1 hx with rfl|hx
  ·exact⟨a.f,aF,hv,rfl,Nat.le_refl _⟩
  obtain⟨u,u0,u1,u2,u3⟩:=i5 x hx
  exact⟨u,u0,u1,u2,by omega⟩
end
theorem yC{E:List Ac}{L:Nat->Int}:∀ (S:List (Nat×Bool)),(∀ x∈S,∃ a,E[x.1]?=some a/\L a.t=L a.f+a.l)->wS E (λa=>a.l) S=wS E (λa=>L a.t-L a.f) S
 |[],_=>rfl
 |s :: S,h=>by
  obtain⟨a,h1,h2⟩:=h s List.mem_cons_self
  unfold wS
  rw[yC S λx hx=>h x (List.mem_cons_of_mem _ hx),h1]
  dsimp only
  rw[show a.l=L a.t-L a.f by omega]
def aG:Int:=1099511627776
def g9(E:List Ac)(F:Nat->Int):List (Nat×Bool)->Int->Int
 |[],x=>x
 |s :: S,x=>g9 E F S (match E[s.1]? with
  |some a=>if s.2=true then min x (F s.1) else if a.r<aG then min x (a.r-F s.1) else x
  |none=>x)
theorem wK{E:List Ac}{F:Nat->Int}:∀ (S:List (Nat×Bool)) (x:Int),g9 E F S x<=x
 |[],_=>Int.le_refl _
 |s :: S,x=>by
  unfold g9
  refine Int.le_trans (wK S _) ?_
  split
  ·split
   ·omega
   split<;>omega
  omega
theorem zE{E:List Ac}{F:Nat->Int}{L:Nat->Int}:∀ (S:List (Nat×Bool)) (x:Int),(∀ y∈S,∃ a,AK E F L y a)->1<=x->1<=g9 E F S x
 |[],_,_,h=>h
 |s :: S,x,hS,hx=>by
  obtain⟨a,h1,-,h3,h4⟩:=hS s List.mem_cons_self
  unfold g9
  refine zE S _ (λy hy=>hS y (List.mem_cons_of_mem _ hy)) ?_
  rw[h1]
  dsimp only
  split
  ·have:=h4 (by assumption);omega
  have:=h3 (by cases hs:s.2 with|true=>contradiction|false=>rfl)
  split<;>omega
theorem wL{E:List Ac}{F:Nat->Int}:∀ (S:List (Nat×Bool)) (x:Int) (y:Nat×Bool) (a:Ac),y∈S->E[y.1]?=some a->(y.2=true->g9 E F S x<=F y.1)/\(y.2=false->a.r<aG->g9 E F S x<=a.r-F y.1)
 |[],_,_,_,h,_=>by cases h
 |s :: S,x,y,a,h,ha=>by
  unfold g9
  rcases List.mem_cons.1 h with rfl|h
  ·rw[ha]
   dsimp only
   refine⟨λe=>?_,λe hr=>?_⟩
   ·rw[if_pos e]
    have:=wK (E:=E) (F:=F) S (min x (F y.1))
    omega
   rw[if_neg (by rw[e];exact Bool.false_ne_true),if_pos hr]
   have:=wK (E:=E) (F:=F) S (min x (a.r-F y.1))
   omega
  exact wL S _ y a h ha
end
end
section
section
structure Tk where
 N:Int
 C:Int
 R:Int
 A:List Nat
def bI(i:Nat):Nat:=2+2*i
def eI(i:Nat):Nat:=3+2*i
def bL:List Nat->Nat->Nat->List Ac
 |[],_,_=>[]
 |a :: A,i,k=>⟨eI a,bI i,0,aG,2,k⟩ :: bL A i (k+1)
def bQ(t:Tk)(i:Nat):List Ac:=[⟨0,bI i,0,aG,3,i⟩,⟨eI i,1,0,aG,4,i⟩,⟨bI i,eI i,t.N,t.R,0,i⟩,⟨bI i,eI i,t.C,aG,1,i⟩]
def ah:List Tk->Nat->Nat->List Ac
 |[],_,_=>[]
 |t :: T,i,k=>bQ t i++(bL t.A i k++ah T (i+1) (k+t.A.length))
structure AJ(T:List Tk):Prop where
 l1:1<=T.length
 l2:T.length<=32
 tk:∀ (i:Nat) (t:Tk),T[i]?=some t->0<=t.C/\t.C<=t.N/\t.N<=1000/\0<=t.R/\t.R<=10000/\∀ a∈t.A,a<i
inductive oV (i:Nat) (t:Tk):Ac->Prop
 |inn (k:Nat):oV i t ⟨0,bI i,0,aG,3,k⟩
 |out (k:Nat):oV i t ⟨eI i,1,0,aG,4,k⟩
 |nor (k:Nat):oV i t ⟨bI i,eI i,t.N,t.R,0,k⟩
 |cra (k:Nat):oV i t ⟨bI i,eI i,t.C,aG,1,k⟩
 |lnk (b k:Nat):b∈t.A->oV i t ⟨eI b,bI i,0,aG,2,k⟩
theorem iS{a:Ac}{i:Nat}:∀ (A:List Nat) (k:Nat),a∈bL A i k->∃ b k',b∈A/\a=⟨eI b,bI i,0,aG,2,k'⟩
 |[],_,h=>by cases h
 |b :: A,k,h=>by
  rcases List.mem_cons.1 h with rfl|h
  ·exact⟨b,k,List.mem_cons_self,rfl⟩
  obtain⟨c,k',h1,h2⟩:=iS A (k+1) h
  exact⟨c,k',List.mem_cons_of_mem _ h1,h2⟩
theorem zY{b i:Nat}:∀ (A:List Nat) (k:Nat),b∈A->∃ k',(⟨eI b,bI i,0,aG,2,k'⟩:Ac)∈bL A i k
 |[],_,h=>by cases h
 |c :: A,k,h=>by
  rcases List.mem_cons.1 h with rfl|h
  ·exact⟨k,List.mem_cons_self⟩
  obtain⟨k',h1⟩:=zY A (k+1) h
  exact⟨k',List.mem_cons_of_mem _ h1⟩
theorem gQ{a:Ac}:∀ (T:List Tk) (o k:Nat),a∈ah T o k->∃ i t,T[i]?=some t/\oV (o+i) t a
 |[],_,_,h=>by cases h
 |t :: T,o,k,h=>by
  rcases List.mem_append.1 h with h|h
  ·refine⟨0,t,rfl,?_⟩
   simp only[bQ,List.mem_cons,List.not_mem_nil,or_false] at h
   rcases h with rfl|rfl|rfl|rfl
   ·exact .inn _
   ·exact .out _
   ·exact .nor _
   exact .cra _
  rcases List.mem_append.1 h with h|h
  ·obtain⟨b,k',h1,rfl⟩:=iS t.A k h
   exact⟨0,t,rfl,.lnk b k' h1⟩
  obtain⟨i,u,h1,h2⟩:=gQ T (o+1) _ h
  exact⟨i+1,u,h1,by rw[show o+(i+1)=o+1+i by omega];exact h2⟩
theorem tG:∀ (T:List Tk) (o k i:Nat) (t:Tk),T[i]?=some t->(⟨0,bI (o+i),0,aG,3,o+i⟩:Ac)∈ah T o k/\(⟨eI (o+i),1,0,aG,4,o+i⟩:Ac)∈ah T o k/\(⟨bI (o+i),eI (o+i),t.N,t.R,0,o+i⟩:Ac)∈ah T o k/\(⟨bI (o+i),eI (o+i),t.C,aG,1,o+i⟩:Ac)∈ah T o k/\
 ∀ b∈t.A,∃ k',(⟨eI b,bI (o+i),0,aG,2,k'⟩:Ac)∈ah T o k
 |[],_,_,_,_,h=>by simp at h
 |t :: T,o,k,0,u,h=>by
  cases h
  refine⟨List.mem_append_left _ (by simp[bQ]),List.mem_append_left _ (by simp[bQ]),List.mem_append_left _ (by simp[bQ]),List.mem_append_left _ (by simp[bQ]),λb hb=>?_⟩
  obtain⟨k',h1⟩:=zY (i:=o) t.A k hb
  exact⟨k',List.mem_append_right _ (List.mem_append_left _ h1)⟩
 |t :: T,o,k,i+1,u,h=>by
  obtain⟨h1,h2,h3,h4,h5⟩:=tG T (o+1) (k+t.A.length) i u h
  rw[show o+1+i=o+(i+1) by omega] at h1 h2 h3 h4 h5
  refine⟨List.mem_append_right _ (List.mem_append_right _ h1),List.mem_append_right _ (List.mem_append_right _ h2),List.mem_append_right _ (List.mem_append_right _ h3),List.mem_append_right _ (List.mem_append_right _ h4),λb hb=>?_⟩
  obtain⟨k',h6⟩:=h5 b hb
  exact⟨k',List.mem_append_right _ (List.mem_append_right _ h6)⟩
def dS(g:Nat->Int):List Nat->Int->Int
 |[],x=>x
 |a :: A,x=>dS g A (max x (g a))
theorem so(g:Nat->Int):∀ (A:List Nat) (x:Int),x<=dS g A x/\∀ a∈A,g a<=dS g A x
 |[],x=>⟨Int.le_refl _,λa h=>by cases h⟩
 |b :: A,x=>by
  obtain⟨h1,h2⟩:=so g A (max x (g b))
  refine⟨by unfold dS;omega,λa ha=>?_⟩
  unfold dS
  rcases List.mem_cons.1 ha with rfl|ha
  ·omega
  exact h2 a ha
theorem sr(g:Nat->Int){c:Int}:∀ (A:List Nat) (x:Int),x<=c->(∀ a∈A,g a<=c)->dS g A x<=c
 |[],_,h,_=>h
 |b :: A,x,h,hA=>by
  unfold dS
  exact sr g A _ (by have:=hA b List.mem_cons_self;omega) λa ha=>hA a (List.mem_cons_of_mem _ ha)
def dc(d:Nat->Int):List Tk->Nat->(Nat->Int)×Int->(Nat->Int)×Int
 |[],_,x=>x
 |t :: T,i,x=>dc d T (i+1) (aR x.1 i (dS (λa=>x.1 a+d a) t.A 0),max x.2 (dS (λa=>x.1 a+d a) t.A 0+d i))
theorem zR(d:Nat->Int):∀ (T:List Tk) (o:Nat) (x:(Nat->Int)×Int) (j:Nat),j<o->(dc d T o x).1 j=x.1 j
 |[],_,_,_,_=>rfl
 |t :: T,o,x,j,h=>by
  unfold dc
  rw[zR d T (o+1) _ j (by omega)]
  exact bA _ _ (by omega)
theorem qa(d:Nat->Int):∀ (T:List Tk) (o:Nat) (x:(Nat->Int)×Int),x.2<=(dc d T o x).2
 |[],_,_=>Int.le_refl _
 |t :: T,o,x=>by
  unfold dc
  have:=qa d T (o+1) (aR x.1 o (dS (λa=>x.1 a+d a) t.A 0),max x.2 (dS (λa=>x.1 a+d a) t.A 0+d o))
  dsimp only at this
  omega
structure Km(T:List Tk)(d st:Nat->Int)(fin:Int):Prop where
 at_:∀ i t,T[i]?=some t->0<=st i/\(∀ a∈t.A,st a+d a<=st i)/\st i+d i<=fin
theorem mX(d:Nat->Int):∀ (T:List Tk) (o:Nat) (x:(Nat->Int)×Int),(∀ i t,T[i]?=some t->∀ a∈t.A,a<o+i)->
 ∀ i t,T[i]?=some t->0<=(dc d T o x).1 (o+i)/\(∀ a∈t.A,(dc d T o x).1 a+d a<=(dc d T o x).1 (o+i))/\(dc d T o x).1 (o+i)+d (o+i)<=(dc d T o x).2
 |[],_,_,_,_,_,h=>by simp at h
 |t :: T,o,x,hA,0,u,h=>by
  cases h
  unfold dc
  have ho:=zR d T (o+1) (aR x.1 o (dS (λa=>x.1 a+d a) t.A 0),max x.2 (dS (λa=>x.1 a+d a) t.A 0+d o))
  have hf:=qa d T (o+1) (aR x.1 o (dS (λa=>x.1 a+d a) t.A 0),max x.2 (dS (λa=>x.1 a+d a) t.A 0+d o))
  obtain⟨g1,g2⟩:=so (λa=>x.1 a+d a) t.A 0
  show 0<=(dc d T (o+1) (aR x.1 o (dS (λa=>x.1 a+d a) t.A 0),max x.2 (dS (λa=>x.1 a+d a) t.A 0+d o))).1 o/\(∀ a∈t.A,(dc d T (o+1) (aR x.1 o (dS (λa=>x.1 a+d a) t.A 0),max x.2 (dS (λa=>x.1 a+d a) t.A 0+d o))).1 a+d a<=(dc d T (o+1) (aR x.1 o (dS (λa=>x.1 a+d a) t.A 0),max x.2 (dS (λa=>x.1 a+d a) t.A 0+d o))).1 o)/\(dc d T (o+1) (aR x.1 o (dS (λa=>x.1 a+d a) t.A 0),max x.2 (dS (λa=>x.1 a+d a) t.A 0+d o))).1 o+d o<=_
  rw[ho o (by omega)]
  dsimp only at hf ⊢
  rw[bH]
  refine⟨g1,λa ha=>?_,by omega⟩
  have:=hA 0 t rfl a ha
  rw[ho a (by omega)]
  dsimp only
  rw[bA _ _ (by omega)]
  exact g2 a ha
 |t :: T,o,x,hA,i+1,u,h=>by
  unfold dc
  have:=mX d T (o+1) (aR x.1 o (dS (λa=>x.1 a+d a) t.A 0),max x.2 (dS (λa=>x.1 a+d a) t.A 0+d o)) (λj v hj a ha=>by have:=hA (j+1) v hj a ha;omega) i u h
  rw[show o+1+i=o+(i+1) by omega] at this
  exact this
theorem sj(d:Nat->Int){c:Int}(hc:0<=c)(hd:∀ i,d i<=c):∀ (T:List Tk) (o:Nat) (x:(Nat->Int)×Int),(∀ i t,T[i]?=some t->∀ a∈t.A,a<o+i)->(∀ j,j<o->x.1 j<=c*(j:Int))->x.2<=c*(o:Int)->
 (∀ j,j<o+T.length->(dc d T o x).1 j<=c*(j:Int))/\(dc d T o x).2<=c*((o+T.length:Nat):Int)
 |[],o,x,_,h1,h2=>⟨h1,h2⟩
 |t :: T,o,x,hA,h1,h2=>by
  have hg:dS (λa=>x.1 a+d a) t.A 0<=c*(o:Int):=sr _ t.A 0 (Int.mul_nonneg hc (by omega)) λa ha=>by
   have ha:=hA 0 t rfl a ha
   have h3:=h1 a (by omega)
   have h4:=hd a
   have h5:c*((a:Int)+1)<=c*(o:Int):=Int.mul_le_mul_of_nonneg_left (by omega) hc
   rw[Int.mul_add] at h5
   omega
  have ho:c*((o+1:Nat):Int)=c*(o:Int)+c:=by rw[Int.natCast_add,Int.mul_add];simp
  have:=sj d hc hd T (o+1) (aR x.1 o (dS (λa=>x.1 a+d a) t.A 0),max x.2 (dS (λa=>x.1 a+d a) t.A 0+d o)) (λj v hj a ha=>by have:=hA (j+1) v hj a ha;omega) (λj hj=>by
   dsimp only
   by_cases e:j=o
   ·subst e;rw[bH];exact hg
   rw[bA _ _ e];exact h1 j (by omega)) (by dsimp only;have:=hd o;omega)
  unfold dc
  rw[show o+(t :: T).length=o+1+T.length by simp;omega]
  exact this
def gG(d st:Nat->Int)(fin:Int)(v:Nat):Int:=if v=0 then 0 else if v=1 then fin else if v%2=0 then st ((v-2)/2) else st ((v-3)/2)+d ((v-3)/2)
theorem BQ(d st:Nat->Int)(fin:Int):gG d st fin 0=0:=rfl
theorem FN(d st:Nat->Int)(fin:Int):gG d st fin 1=fin:=rfl
theorem uc(d st:Nat->Int)(fin:Int)(i:Nat):gG d st fin (bI i)=st i:=by
 unfold gG bI
 rw[if_neg (by omega),if_neg (by omega),if_pos (by omega),show (2+2*i-2)/2=i by omega]
theorem ud(d st:Nat->Int)(fin:Int)(i:Nat):gG d st fin (eI i)=st i+d i:=by
 unfold gG eI
 rw[if_neg (by omega),if_neg (by omega),if_neg (by omega),show (3+2*i-3)/2=i by omega]
def wX:List Tk->Int
 |[]=>0
 |t :: T=>t.R*(t.N-t.C)+wX T
theorem zU{st:Nat->Int}{fin:Int}{T0:List Tk}{d:Nat->Int}(hd:∀ i t,T0[i]?=some t->d i=t.C)(hs:Km T0 d st fin):∀ (T:List Tk) (i k o:Nat) (F:Nat->Int),(∀ j t,T[j]?=some t->T0[i+j]?=some t/\0<=t.R/\t.C<=t.N)->
 (∀ j a,(ah T i k)[j]?=some a->0<=F (o+j)/\(a.k=0->F (o+j)<=a.r))->wE (λa=>a.l-(gG d st fin a.t-gG d st fin a.f)) (ah T i k) F o<=wX T
 |[],_,_,_,_,_,_=>Int.le_refl _
 |t :: T,i,k,o,F,hT,hF=>by
  obtain⟨bp,hR,b8⟩:=hT 0 t rfl
  rw[Nat.add_zero] at bp
  obtain⟨s1,s2,s3⟩:=hs.at_ i t bp
  have cd:=hd i t bp
  unfold ah
  rw[aC,aC]
  have cj:=zU hd hs T (i+1) (k+t.A.length) (o+(bQ t i).length+(bL t.A i k).length) F (λj u hj=>by
   have:=hT (j+1) u hj
   rwa [show i+(j+1)=i+1+j by omega] at this) (λj a hj=>by
   have:=hF ((bQ t i).length+((bL t.A i k).length+j)) a (by
    unfold ah
    rw[List.getElem?_append_right (by omega),Nat.add_sub_cancel_left,List.getElem?_append_right (by omega),Nat.add_sub_cancel_left]
    exact hj)
   rwa [show o+((bQ t i).length+((bL t.A i k).length+j))=o+(bQ t i).length+(bL t.A i k).length+j by omega] at this)
  have ci:wE (λa=>a.l-(gG d st fin a.t-gG d st fin a.f)) (bL t.A i k) F (o+(bQ t i).length)<=0:=by
   have h0:wE (λ_=>(0:Int)) (bL t.A i k) F (o+(bQ t i).length)=0:=by
    generalize bL t.A i k=X
    generalize o+(bQ t i).length=q
    induction X generalizing q with
    |nil=>rfl
    |cons a X ih=>unfold wE;rw[ih];simp
   rw[← h0]
   refine wB _ _ λj a hj=>?_
   obtain⟨b,k',hb,rfl⟩:=iS t.A k (List.mem_of_getElem? hj)
   have hf:=(hF ((bQ t i).length+j) _ (by
    unfold ah
    rw[List.getElem?_append_right (by omega),Nat.add_sub_cancel_left,List.getElem?_append_left (List.getElem?_eq_some_iff.1 hj).1]
    exact hj)).1
   rw[show o+((bQ t i).length+j)=o+(bQ t i).length+j by omega] at hf
   refine Int.mul_le_mul_of_nonneg_left ?_ hf
   dsimp only
   rw[uc,ud]
   have:=s2 b hb
   omega
  have bf:∀ j a,(bQ t i)[j]?=some a->0<=F (o+j)/\(a.k=0->F (o+j)<=a.r):=λj a hj=>hF j a (by
   unfold ah
   rw[List.getElem?_append_left (List.getElem?_eq_some_iff.1 hj).1]
   exact hj)
  have f0:=(bf 0 _ rfl).1
  have f1:=(bf 1 _ rfl).1
  obtain⟨f2,f3⟩:=bf 2 _ rfl
  have f4:=(bf 3 _ rfl).1
  have f3:=f3 rfl
  dsimp only at f3
  have ca:wE (λa=>a.l-(gG d st fin a.t-gG d st fin a.f)) (bQ t i) F o<=t.R*(t.N-t.C):=by
   simp only[bQ,wE,uc,ud,BQ,FN]
   rw[Nat.add_zero] at f0
   have e1:F o*(0-(st i-0))<=0:=by
    have:=Int.mul_nonneg f0 s1
    rw[show (0:Int)-(st i-0) = -(st i) by omega,Int.mul_neg]
    omega
   have e2:F (o+1)*(0-(fin-(st i+d i)))<=0:=by
    have:=Int.mul_nonneg f1 (show 0<=fin-(st i+d i) by omega)
    rw[show (0:Int)-(fin-(st i+d i)) = -(fin-(st i+d i)) by omega,Int.mul_neg]
    omega
   have e3:F (o+1+1)*(t.N-(st i+d i-st i))<=t.R*(t.N-t.C):=by
    rw[show t.N-(st i+d i-st i)=t.N-t.C by omega]
    exact Int.mul_le_mul_of_nonneg_right f3 (by omega)
   have e4:F (o+1+1+1)*(t.C-(st i+d i-st i))=0:=by
    rw[show t.C-(st i+d i-st i)=0 by omega,Int.mul_zero]
   omega
  unfold wX
  omega
end
end
end Go.Proofs.YtgbnicokglpdbaaGreatDoor
