/-
  The plain law of temper.Best: layers, rings, beginnings and the loop's step; no condition but what each states.
-/
namespace Go.Proofs.YtjibohkeapdalaaGreatDoor
section
def lexI:List Int->List Int->Prop
 |[],_=>True
 |_ :: _,[]=>False
 |a :: r,b :: s=>a<b\/(a=b/\lexI r s)
theorem lexI.refl:∀ l:List Int,lexI l l
 |[]=>trivial
 |_ :: r=>.inr ⟨rfl,lexI.refl r⟩
theorem lexI.trans:∀ {a b c:List Int},lexI a b->lexI b c->lexI a c
 |[],_,_,_,_=>trivial
 |_ :: _,[],_,h,_=>False.elim h
 |_ :: _,_ :: _,[],_,h=>False.elim h
 |x :: a,y :: b,z :: c,h,k=>by
  rcases h with h|⟨rfl,h⟩
  ·rcases k with k|⟨rfl,_⟩
   ·exact .inl (by omega)
   ·exact .inl h
  ·rcases k with k|⟨rfl,k⟩
   ·exact .inl k
   ·exact .inr ⟨rfl,lexI.trans h k⟩
theorem lexI.antisymm:∀ {a b:List Int},a.length=b.length->lexI a b->lexI b a->a=b
 |[],[],_,_,_=>rfl
 |[],_ :: _,h,_,_=>by simp at h
 |_ :: _,[],h,_,_=>by simp at h
 |x :: a,y :: b,hl,h,k=>by
  rcases h with h|⟨rfl,h⟩
  ·rcases k with k|⟨rfl,_⟩<;>omega
  ·rcases k with k|⟨_,k⟩
   ·omega
   ·rw[lexI.antisymm (by simpa using hl) h k]
theorem lexI.append{a b:List Int}(p:List Int)(h:lexI a b):lexI (p++a) (p++b):=by
 induction p with
 |nil=>exact h
 |cons x p ih=>exact .inr ⟨rfl,ih⟩
structure Lay(σ:Type) where
 tr:Nat->σ->Int->Option (σ×Int)
 fin:σ->Bool
 lo:Nat->Int
 hi:Nat->Int
section
variable{σ:Type}(Y:Lay σ)
def Lay.run(Y:Lay σ):Nat->σ->List Int->Option Int
 |_,s,[]=>if Y.fin s=true then some 0 else none
 |t,s,a :: r=>match Y.tr t s a with
  |none=>none
  |some (s',p)=>match Y.run (t+1) s' r with
   |none=>none
   |some c=>some (p+c)
def Lay.adm(Y:Lay σ):Nat->List Int->Prop
 |_,[]=>True
 |t,a :: r=>(Y.lo t<=a/\a<=Y.hi t)/\Y.adm (t+1) r
def Lay.pick(Y:Lay σ)(val:σ->Int)(t:Nat)(s:σ):Nat->Int->Int×Int->Int×Int
 |0,_,b=>b
 |n+1,a,b=>Y.pick val t s n (a+1) (match Y.tr t s a with
  |none=>b
  |some (s',p)=>if 0<=val s'/\(b.1<0\/p+val s'<b.1) then (p+val s',a) else b)
def Lay.cnt(Y:Lay σ)(t:Nat):Nat:=(Y.hi t-Y.lo t+1).toNat
def Lay.val(Y:Lay σ):Nat->Nat->σ->Int
 |0,_,s=>if Y.fin s=true then 0 else -1
 |n+1,t,s=>(Y.pick (Y.val n (t+1)) t s (Y.cnt t) (Y.lo t) (-1,0)).1
def Lay.best(Y:Lay σ)(n t:Nat)(s:σ):Int×Int:=Y.pick (Y.val n (t+1)) t s (Y.cnt t) (Y.lo t) (-1,0)
def Lay.follow(Y:Lay σ):Nat->Nat->σ->List Int
 |0,_,_=>[]
 |n+1,t,s=>(Y.best n t s).2 :: match Y.tr t s (Y.best n t s).2 with
  |none=>[]
  |some (s',_)=>Y.follow n (t+1) s'
def Lay.Pos(Y:Lay σ):Prop:=∀ t s a s' p,Y.tr t s a=some (s',p)->0<=p
def PickOk(Y:Lay σ)(val:σ->Int)(t:Nat)(s:σ)(lo a:Int)(b:Int×Int):Prop:=
 (b.1 = -1/\∀ x s' p,lo<=x->x<a->Y.tr t s x=some (s',p)->val s'<0)\/
 (0<=b.1/\∃ s' p,lo<=b.2/\b.2<a/\Y.tr t s b.2=some (s',p)/\0<=val s'/\b.1=p+val s'/\∀ x s2 q,lo<=x->x<a->Y.tr t s x=some (s2,q)->0<=val s2->b.1<q+val s2\/(b.1=q+val s2/\b.2<=x))
variable{Y}
theorem pick_ok(hp:Y.Pos){val:σ->Int}{t:Nat}{s:σ}{lo:Int}:∀ (n:Nat) (a:Int) (b:Int×Int),lo<=a->PickOk Y val t s lo a b->PickOk Y val t s lo (a+n) (Y.pick val t s n a b)
 |0,a,b,_,h=>by simpa[Lay.pick] using h
 |n+1,a,b,ha,h=>by
  rw[Lay.pick,show a+((n+1:Nat):Int)=(a+1)+(n:Int) by omega]
  refine pick_ok hp n (a+1) _ (by omega) ?_
  cases htr:Y.tr t s a with
  |none =>
   show PickOk Y val t s lo (a+1) b
   rcases h with⟨h1,h2⟩|⟨h1,s',p,h2,h3,h4,h5,h6,h7⟩
   ·refine .inl ⟨h1,λx s' p hx1 hx2 hx=>?_⟩
    by_cases e:x=a
    ·subst e;rw[htr] at hx;cases hx
    ·exact h2 x s' p hx1 (by omega) hx
   ·refine .inr ⟨h1,s',p,h2,by omega,h4,h5,h6,λx s2 q hx1 hx2 hx hv=>?_⟩
    by_cases e:x=a
    ·subst e;rw[htr] at hx;cases hx
    ·exact h7 x s2 q hx1 (by omega) hx hv
  |some z =>
   obtain⟨s1,p1⟩:=z
   have hp1:=hp t s a s1 p1 htr
   show PickOk Y val t s lo (a+1) (if 0<=val s1/\(b.1<0\/p1+val s1<b.1) then (p1+val s1,a) else b)
   by_cases c:0<=val s1/\(b.1<0\/p1+val s1<b.1)
   ·rw[if_pos c]
    refine .inr ⟨by show 0<=p1+val s1;omega,s1,p1,ha,by show a<a+1;omega,htr,c.1,rfl,λx s2 q hx1 hx2 hx hv=>?_⟩
    show p1+val s1<q+val s2\/(p1+val s1=q+val s2/\a<=x)
    by_cases e:x=a
    ·subst e
     rw[htr] at hx
     simp only[Option.some.injEq,Prod.mk.injEq] at hx
     obtain⟨rfl,rfl⟩:=hx
     exact .inr ⟨rfl,Int.le_refl _⟩
    ·rcases h with⟨_,h2⟩|⟨h1,s',p,_,_,_,_,_,h7⟩
     ·have:=h2 x s2 q hx1 (by omega) hx;omega
     ·have:=h7 x s2 q hx1 (by omega) hx hv
      rcases c.2 with c2|c2<;>omega
   ·rw[if_neg c]
    rcases h with⟨h1,h2⟩|⟨h1,s',p,h2,h3,h4,h5,h6,h7⟩
    ·refine .inl ⟨h1,λx s2 q hx1 hx2 hx=>?_⟩
     by_cases e:x=a
     ·subst e
      rw[htr] at hx
      simp only[Option.some.injEq,Prod.mk.injEq] at hx
      obtain⟨rfl,rfl⟩:=hx
      by_cases h0:0<=val s1
      ·exact absurd ⟨h0,.inl (by omega)⟩ c
      ·omega
     ·exact h2 x s2 q hx1 (by omega) hx
    ·refine .inr ⟨h1,s',p,h2,by omega,h4,h5,h6,λx s2 q hx1 hx2 hx hv=>?_⟩
     by_cases e:x=a
     ·subst e
      rw[htr] at hx
      simp only[Option.some.injEq,Prod.mk.injEq] at hx
      obtain⟨rfl,rfl⟩:=hx
      by_cases h8:p1+val s1<b.1
      ·exact absurd ⟨hv,.inr h8⟩ c
      ·by_cases h9:b.1=p1+val s1
       ·exact .inr ⟨h9,by omega⟩
       ·exact .inl (by omega)
     ·exact h7 x s2 q hx1 (by omega) hx hv
def ValOk(Y:Lay σ)(n t:Nat)(s:σ):Prop:=
 (Y.val n t s = -1/\∀ l c,l.length=n->Y.adm t l->Y.run t s l=some c->False)\/
 (0<=Y.val n t s/\(Y.follow n t s).length=n/\Y.adm t (Y.follow n t s)/\Y.run t s (Y.follow n t s)=some (Y.val n t s)/\
  ∀ l c,l.length=n->Y.adm t l->Y.run t s l=some c->Y.val n t s<c\/(Y.val n t s=c/\lexI (Y.follow n t s) l))
theorem val_ok(hp:Y.Pos):∀ (n t:Nat) (s:σ),ValOk Y n t s
 |0,t,s=>by
  unfold ValOk
  by_cases h:Y.fin s=true
  ·refine .inr ⟨by simp[Lay.val,h],rfl,trivial,by simp[Lay.follow,Lay.run,Lay.val,h],λl c hl _ hr=>.inr ?_⟩
   obtain rfl:l=[]:=List.length_eq_zero_iff.1 hl
   simp[Lay.run,h] at hr
   exact⟨by simp[Lay.val,h,← hr],trivial⟩
  ·refine .inl ⟨by simp[Lay.val,h],λl c hl _ hr=>?_⟩
   obtain rfl:l=[]:=List.length_eq_zero_iff.1 hl
   simp[Lay.run,h] at hr
 |n+1,t,s=>by
  have hpk:=pick_ok (Y:=Y) hp (val:=Y.val n (t+1)) (t:=t) (s:=s) (lo:=Y.lo t) (Y.cnt t) (Y.lo t) (-1,0) (Int.le_refl _) (.inl ⟨rfl,λx s' p h1 h2 _=>by omega⟩)
  have hv:Y.val (n+1) t s=(Y.best n t s).1:=rfl
  have hbd:∀ x,Y.lo t<=x->(x<=Y.hi t ↔ x<Y.lo t+(Y.cnt t:Int)):=λx hx=>by unfold Lay.cnt;omega
  rw[show Y.pick (Y.val n (t+1)) t s (Y.cnt t) (Y.lo t) (-1,0)=Y.best n t s from rfl] at hpk
  unfold ValOk
  rcases hpk with⟨h1,h2⟩|⟨h1,s',p,h2,h3,h4,h5,h6,h7⟩
  ·refine .inl ⟨by rw[hv,h1],λl c hl ha hr=>?_⟩
   cases l with
   |nil=>simp at hl
   |cons a r =>
    obtain⟨⟨ha1,ha2⟩,ha3⟩:=ha
    rw[Lay.run] at hr
    cases htr:Y.tr t s a with
    |none=>rw[htr] at hr;cases hr
    |some z =>
     obtain⟨s2,q⟩:=z
     rw[htr] at hr
     dsimp only at hr
     cases hru:Y.run (t+1) s2 r with
     |none=>rw[hru] at hr;cases hr
     |some d =>
      have hneg:=h2 a s2 q ha1 ((hbd a ha1).1 ha2) htr
      rcases val_ok hp n (t+1) s2 with⟨_,k2⟩|⟨k1,_⟩
      ·exact k2 r d (by simpa using hl) ha3 hru
      ·omega
  ·have hfo:Y.follow (n+1) t s=(Y.best n t s).2 :: Y.follow n (t+1) s':=by
    rw[Lay.follow,h4]
   rcases val_ok hp n (t+1) s' with⟨k1,_⟩|⟨k1,k2,k3,k4,k5⟩
   ·omega
   ·refine .inr ⟨by rw[hv];exact h1,by rw[hfo];simp[k2],by rw[hfo];exact⟨⟨h2,(hbd _ h2).2 h3⟩,k3⟩,?_,λl c hl ha hr=>?_⟩
    ·rw[hfo,Lay.run,h4]
     dsimp only
     rw[k4,hv,h6]
    ·cases l with
     |nil=>simp at hl
     |cons a r =>
      obtain⟨⟨ha1,ha2⟩,ha3⟩:=ha
      rw[Lay.run] at hr
      cases htr:Y.tr t s a with
      |none=>rw[htr] at hr;cases hr
      |some z =>
       obtain⟨s2,q⟩:=z
       rw[htr] at hr
       dsimp only at hr
       cases hru:Y.run (t+1) s2 r with
       |none=>rw[hru] at hr;cases hr
       |some d =>
        rw[hru] at hr
        simp only[Option.some.injEq] at hr
        rw[hv,hfo]
        rcases val_ok hp n (t+1) s2 with⟨_,m2⟩|⟨m1,m2,m3,m4,m5⟩
        ·exact absurd (m2 r d (by simpa using hl) ha3 hru) id
        ·have h8:=h7 a s2 q ha1 ((hbd a ha1).1 ha2) htr m1
         have h9:=m5 r d (by simpa using hl) ha3 hru
         rcases h8 with h8|⟨h8,h10⟩
         ·left
          rcases h9 with h9|⟨h9,_⟩<;>omega
         ·rcases h9 with h9|⟨h9,h11⟩
          ·left;omega
          ·right
           refine⟨by omega,?_⟩
           by_cases e:(Y.best n t s).2=a
           ·subst e
            rw[h4] at htr
            simp only[Option.some.injEq,Prod.mk.injEq] at htr
            obtain⟨rfl,rfl⟩:=htr
            exact .inr ⟨rfl,h11⟩
           ·exact .inl (by omega)
end
end
section
structure Rg where
 N:Nat
 S:Nat
 low:Int
 high:Int
 total:Int
 pure:Int
 worst:Int
 fi:List Int
 th:List Int
structure Rg.Ok(r:Rg):Prop where
 n1:3<=r.N
 n2:r.N<=24
 s1:2<=r.S
 s2:r.S<=4
 s3:r.S<r.N
 l1 : -12<=r.low
 l2:r.low<=12
 h1:r.low<=r.high
 h2:r.high<=r.low+3
 t1 : -288<=r.total
 t2:r.total<=288
 p1 : -100<=r.pure
 p2:r.pure<=100
 w1:0<=r.worst
 w2:r.worst<=1000
 fl:r.fi.length=r.N
 tl:r.th.length=r.N
 fw:∀ x∈r.fi,0<=x/\x<=1000
 tw:∀ x∈r.th,0<=x/\x<=1000
def Rg.sums(r:Rg):Nat:=r.N*3+1
def Rg.codes(r:Rg):Nat:=4 ^ (r.S-1)
def Rg.offC(r:Rg)(code:Nat)(a:Int):Nat->Int
 |0=>r.pure-a
 |k+1=>r.offC code a k-(((code/4 ^ k)%4:Nat)+r.low)
def Rg.lay(r:Rg)(first:List Int):Lay (Nat×Nat) where
 tr:=λt s a =>
  if -r.worst<=r.offC s.1 a (r.S-1)/\r.offC s.1 a (r.S-1)<=r.worst/\(if t<r.N then s.2+(a-r.low).toNat else s.2)<r.sums then
   some (((s.1*4+(a-r.low).toNat)%r.codes,if t<r.N then s.2+(a-r.low).toNat else s.2),
    r.th.getD ((t-(r.S-1))%r.N) 0*r.offC s.1 a (r.S-1)*r.offC s.1 a (r.S-1)+if t<r.N then r.fi.getD t 0*a*a else 0)
  else none
 fin:=λs=>decide ((s.2:Int)=r.total-r.N*r.low)
 lo:=λt=>if t<r.N then r.low else first.getD (t-r.N) 0
 hi:=λt=>if t<r.N then r.high else first.getD (t-r.N) 0
def Rg.errF(r:Rg)(w:Nat->Int)(t:Nat):Nat->Int
 |0=>r.pure-w t
 |k+1=>r.errF w t k-w (t-1-k)
def Rg.codeF(r:Rg)(w:Nat->Int)(t:Nat):Nat->Nat
 |0=>0
 |k+1=>r.codeF w t k+(w (t-1-k)-r.low).toNat*4 ^ k
def Rg.sumF(r:Rg)(w:Nat->Int):Nat->Nat
 |0=>0
 |t+1=>r.sumF w t+if t<r.N then (w t-r.low).toNat else 0
def Rg.priceF(r:Rg)(w:Nat->Int)(t:Nat):Int:=
 r.th.getD ((t-(r.S-1))%r.N) 0*r.errF w t (r.S-1)*r.errF w t (r.S-1)+if t<r.N then r.fi.getD t 0*w t*w t else 0
def totF(f:Nat->Int):Nat->Nat->Int
 |_,0=>0
 |t,n+1=>f t+totF f (t+1) n
def listF(w:Nat->Int):Nat->Nat->List Int
 |_,0=>[]
 |t,n+1=>w t :: listF w (t+1) n
theorem sumF_le{r:Rg}{w:Nat->Int}(hw:∀ i,r.low<=w i/\w i<=r.low+3):∀ t,r.sumF w t<=3*(min t r.N)
 |0=>by simp[Rg.sumF]
 |t+1=>by
  have h:=sumF_le hw t
  have h2:=hw t
  rw[Rg.sumF]
  by_cases c:t<r.N
  ·rw[if_pos c];omega
  ·rw[if_neg c];omega
theorem off_err{r:Rg}(hr:r.Ok){w:Nat->Int}(hw:∀ i,r.low<=w i/\w i<=r.low+3){t:Nat}(ht:r.S-1<=t) :
 r.offC (r.codeF w t (r.S-1)) (w t) (r.S-1)=r.errF w t (r.S-1)/\
 (r.codeF w t (r.S-1)*4+(w t-r.low).toNat)%r.codes=r.codeF w (t+1) (r.S-1):=by
 have h1:=hr.s1
 have h2:=hr.s2
 obtain e|e|e:r.S=2\/r.S=3\/r.S=4:=by omega
 ·obtain⟨u,rfl⟩:∃ u,t=u+1:=⟨t-1,by omega⟩
  have a0:=hw u
  have a1:=hw (u+1)
  simp only[e,Rg.codes,Nat.reduceSub,Rg.offC,Rg.errF,Rg.codeF,Nat.reducePow,Nat.add_sub_cancel,Nat.sub_zero] at *
  omega
 ·obtain⟨u,rfl⟩:∃ u,t=u+2:=⟨t-2,by omega⟩
  have a0:=hw u
  have a1:=hw (u+1)
  have a2:=hw (u+2)
  simp only[e,Rg.codes,Nat.reduceSub,Rg.offC,Rg.errF,Rg.codeF,Nat.reducePow,Nat.reduceSubDiff,Nat.add_sub_cancel,Nat.sub_zero] at *
  omega
 ·obtain⟨u,rfl⟩:∃ u,t=u+3:=⟨t-3,by omega⟩
  have a0:=hw u
  have a1:=hw (u+1)
  have a2:=hw (u+2)
  have a3:=hw (u+3)
  simp only[e,Rg.codes,Nat.reduceSub,Rg.offC,Rg.errF,Rg.codeF,Nat.reducePow,Nat.reduceSubDiff,Nat.add_sub_cancel,Nat.sub_zero] at *
  omega
def Rg.fineF(r:Rg)(w:Nat->Int)(t n:Nat):Prop:=∀ i,t<=i->i<t+n->-r.worst<=r.errF w i (r.S-1)/\r.errF w i (r.S-1)<=r.worst
theorem run_iff{r:Rg}(hr:r.Ok){w:Nat->Int}(hw:∀ i,r.low<=w i/\w i<=r.low+3){first:List Int}:∀ (n t:Nat) (c:Int),r.S-1<=t->
 ((r.lay first).run t (r.codeF w t (r.S - 1), r.sumF w t) (listF w t n) = some c ↔
   r.fineF w t n/\(r.sumF w (t+n):Int)=r.total-r.N*r.low/\c=totF (r.priceF w) t n)
 |0,t,c,ht=>by
  simp only[listF,Lay.run,Rg.lay,totF,Nat.add_zero,decide_eq_true_eq]
  constructor
  ·intro h
   by_cases e:(r.sumF w t:Int)=r.total-r.N*r.low
   ·rw[if_pos e] at h
    simp only[Option.some.injEq] at h
    exact⟨λi h1 h2=>absurd h2 (by omega),e,h.symm⟩
   ·rw[if_neg e] at h;cases h
  ·rintro⟨-,h,rfl⟩
   rw[if_pos h]
 |n+1,t,c,ht=>by
  have ih:=run_iff hr hw (first:=first) n (t+1)
  obtain⟨he,hc⟩:=off_err hr hw ht
  have hsm:=sumF_le hw t
  have hwt:=hw t
  have hup:(if t<r.N then r.sumF w t+(w t-r.low).toNat else r.sumF w t)=r.sumF w (t+1):=by
   rw[Rg.sumF]
   by_cases c:t<r.N
   ·rw[if_pos c,if_pos c]
   ·rw[if_neg c,if_neg c,Nat.add_zero]
  have hlt:r.sumF w (t+1)<r.sums:=by
   have:=sumF_le hw (t+1)
   unfold Rg.sums;omega
  rw[listF,Lay.run]
  by_cases hf : -r.worst<=r.errF w t (r.S-1)/\r.errF w t (r.S-1)<=r.worst
  ·have htr:(r.lay first).tr t (r.codeF w t (r.S-1),r.sumF w t) (w t)=some ((r.codeF w (t+1) (r.S-1),r.sumF w (t+1)),r.priceF w t):=by
    simp only[Rg.lay,he,hc,hup]
    rw[if_pos ⟨hf.1,hf.2,hlt⟩]
    rfl
   rw[htr]
   dsimp only
   cases hru:(r.lay first).run (t+1) (r.codeF w (t+1) (r.S-1),r.sumF w (t+1)) (listF w (t+1) n) with
   |none =>
    refine⟨λh=>(by cases h),λ⟨h1,h2,h3⟩=>?_⟩
    have:=(ih (totF (r.priceF w) (t+1) n) (by omega)).2 ⟨λi k1 k2=>h1 i (by omega) (by omega),by rw[← h2];congr 2;omega,rfl⟩
    rw[hru] at this;cases this
   |some d =>
    obtain⟨k1,k2,k3⟩:=(ih d (by omega)).1 hru
    dsimp only
    rw[Option.some.injEq,totF]
    constructor
    ·rintro rfl
     refine⟨λi m1 m2=>?_,by rw[← k2];congr 2;omega,by rw[k3]⟩
     by_cases e:i=t
     ·subst e;exact hf
     ·exact k1 i (by omega) (by omega)
    ·rintro⟨-,-,rfl⟩;rw[k3]
  ·have htr:(r.lay first).tr t (r.codeF w t (r.S-1),r.sumF w t) (w t)=none:=by
    simp only[Rg.lay,he]
    rw[if_neg (λh=>hf ⟨h.1,h.2.1⟩)]
   rw[htr]
   exact⟨λh=>(by cases h),λ⟨h1,_⟩=>absurd (h1 t (Nat.le_refl _) (by omega)) hf⟩
theorem wt_pos{l:List Int}(i:Nat)(hl:∀ x∈l,0<=x/\x<=1000):0<=l.getD i 0:=by
 rw[List.getD_eq_getElem?_getD]
 cases h:l[i]? with
 |none=>exact Int.le_refl _
 |some x=>exact (hl x (List.mem_of_getElem? h)).1
theorem sq_pos{x:Int}(y:Int)(hx:0<=x):0<=x*y*y:=by
 rw[Int.mul_assoc]
 refine Int.mul_nonneg hx ?_
 rcases Int.le_total 0 y with c|c
 ·exact Int.mul_nonneg c c
 ·exact Int.mul_nonneg_of_nonpos_of_nonpos c c
theorem lay_pos{r:Rg}(hr:r.Ok)(first:List Int):(r.lay first).Pos:=by
 intro t s a s' p h
 by_cases c : -r.worst<=r.offC s.1 a (r.S-1)/\r.offC s.1 a (r.S-1)<=r.worst/\(if t<r.N then s.2+(a-r.low).toNat else s.2)<r.sums
 ·rw[show (r.lay first).tr t s a=_ from if_pos c] at h
  simp only[Option.some.injEq,Prod.mk.injEq] at h
  obtain⟨-,rfl⟩:=h
  refine Int.add_nonneg (sq_pos _ (wt_pos _ hr.tw)) ?_
  split
  ·exact sq_pos _ (wt_pos _ hr.fw)
  ·exact Int.le_refl _
 ·rw[show (r.lay first).tr t s a=_ from if_neg c] at h
  cases h
end
section
def Rg.err(r:Rg)(st:List Int)(i:Nat):Nat->Int
 |0=>r.pure
 |k+1=>r.err st i k-st.getD ((i+k)%r.N) 0
structure Rg.Good(r:Rg)(st:List Int):Prop where
 len:st.length=r.N
 rng:∀ x∈st,r.low<=x/\x<=r.high
 sum:st.sum=r.total
 err:∀ i,i<r.N->-r.worst<=r.err st i r.S/\r.err st i r.S<=r.worst
def Rg.one(r:Rg)(st:List Int)(i:Nat):Int:=r.fi.getD i 0*st.getD i 0*st.getD i 0+r.th.getD i 0*r.err st i r.S*r.err st i r.S
def Rg.cost(r:Rg)(st:List Int):Int:=totF (r.one st) 0 r.N
def roundF(r:Rg)(st:List Int):Nat->Int:=λi=>st.getD (i%r.N) 0
theorem totF_split(f:Nat->Int):∀ (n t m:Nat),totF f t (n+m)=totF f t n+totF f (t+n) m
 |0,t,m=>by simp[totF]
 |n+1,t,m=>by
  rw[show n+1+m=(n+m)+1 by omega,totF,totF,totF_split f n (t+1) m,show t+1+n=t+(n+1) by omega]
  omega
theorem totF_cut(f:Nat->Int){a b n:Nat}(t:Nat)(h:n=a+b):totF f t n=totF f t a+totF f (t+a) b:=by
 subst h;exact totF_split f a t b
theorem totF_add(f g:Nat->Int):∀ (n t:Nat),totF (λi=>f i+g i) t n=totF f t n+totF g t n
 |0,_=>rfl
 |n+1,t=>by rw[totF,totF,totF,totF_add f g n (t+1)];omega
theorem totF_congr{f g:Nat->Int}:∀ {n t:Nat},(∀ i,t<=i->i<t+n->f i=g i)->totF f t n=totF g t n
 |0,_,_=>rfl
 |n+1,t,h=>by rw[totF,totF,h t (Nat.le_refl _) (by omega),totF_congr (n:=n) (t:=t+1) (λi h1 h2=>h i (by omega) (by omega))]
theorem totF_shift(f:Nat->Int)(d:Nat):∀ (n t:Nat),totF f (t+d) n=totF (λi=>f (i+d)) t n
 |0,_=>rfl
 |n+1,t=>by rw[totF,totF,show t+d+1=(t+1)+d by omega,totF_shift f d n (t+1)]
theorem totF_zero{f:Nat->Int}:∀ {n t:Nat},(∀ i,t<=i->i<t+n->f i=0)->totF f t n=0
 |0,_,_=>rfl
 |n+1,t,h=>by rw[totF,h t (Nat.le_refl _) (by omega),totF_zero (n:=n) (t:=t+1) (λi h1 h2=>h i (by omega) (by omega))];rfl
theorem listF_len(w:Nat->Int):∀ (n t:Nat),(listF w t n).length=n
 |0,_=>rfl
 |n+1,t=>by simp[listF,listF_len w n (t+1)]
theorem listF_get(w:Nat->Int):∀ (n t i:Nat),i<n->(listF w t n)[i]?=some (w (t+i))
 |0,_,i,h=>absurd h (by omega)
 |n+1,t,0,_=>by simp[listF]
 |n+1,t,i+1,h=>by
  rw[listF,List.getElem?_cons_succ,listF_get w n (t+1) i (by omega)]
  congr 2;omega
theorem err_errF{r:Rg}(hr:r.Ok)(st:List Int)(j:Nat):r.errF (roundF r st) (j+(r.S-1)) (r.S-1)=r.err st j r.S:=by
 have h1:=hr.s1
 have h2:=hr.s2
 obtain e|e|e:r.S=2\/r.S=3\/r.S=4:=by omega
 all_goals
  simp only[e,Rg.errF,Rg.err,roundF,Nat.add_sub_cancel,Nat.sub_zero,Nat.add_zero,Nat.add_one_sub_one]
  omega
theorem sumF_sum{r:Rg}{st:List Int}(hw:∀ i,r.low<=roundF r st i):∀ t,t<=r.N->(r.sumF (roundF r st) t:Int)=totF (λi=>st.getD i 0) 0 t-t*r.low
 |0,_=>by simp[Rg.sumF,totF]
 |t+1,h=>by
  have ih:=sumF_sum hw t (by omega)
  have hm:=hw t
  have e:roundF r st t=st.getD t 0:=by unfold roundF;rw[Nat.mod_eq_of_lt (by omega)]
  have h1:totF (λi=>st.getD i 0) 0 (t+1)=totF (λi=>st.getD i 0) 0 t+st.getD t 0:=by
   rw[totF_split _ t 0 1];simp[totF]
  have h2:((t+1:Nat):Int)*r.low=t*r.low+r.low:=by rw[Int.natCast_add,Int.add_mul];simp
  rw[Rg.sumF,if_pos (by omega),h1,h2]
  rw[e] at hm ⊢
  omega
theorem sumF_top{r:Rg}{w:Nat->Int}:∀ k,r.sumF w (r.N+k)=r.sumF w r.N
 |0=>rfl
 |k+1=>by rw[show r.N+(k+1)=r.N+k+1 by omega,Rg.sumF,if_neg (by omega),sumF_top k,Nat.add_zero]
theorem sum_totF:∀ (st:List Int),st.sum=totF (λi=>st.getD i 0) 0 st.length
 |[]=>rfl
 |a :: r=>by
  rw[List.sum_cons,List.length_cons,totF,show (0+1:Nat)=0+1 from rfl,totF_shift _ 1 r.length 0,sum_totF r]
  simp
def Rg.beginC(r:Rg)(st:List Int):Int:=totF (λi=>r.fi.getD i 0*st.getD i 0*st.getD i 0) 0 (r.S-1)
theorem cost_tot{r:Rg}(hr:r.Ok)(st:List Int):r.beginC st+totF (r.priceF (roundF r st)) (r.S-1) r.N=r.cost st:=by
 have h1:=hr.s1
 have h3:=hr.s3
 have hA:totF (r.priceF (roundF r st)) (r.S-1) r.N =
  totF (λi=>r.th.getD ((i-(r.S-1))%r.N) 0*r.errF (roundF r st) i (r.S-1)*r.errF (roundF r st) i (r.S-1)) (r.S-1) r.N +
  totF (λi=>if i<r.N then r.fi.getD i 0*roundF r st i*roundF r st i else 0) (r.S-1) r.N:=by
  rw[← totF_add];rfl
 have hB:totF (λi=>r.th.getD ((i-(r.S-1))%r.N) 0*r.errF (roundF r st) i (r.S-1)*r.errF (roundF r st) i (r.S-1)) (r.S-1) r.N =
  totF (λi=>r.th.getD i 0*r.err st i r.S*r.err st i r.S) 0 r.N:=by
  rw[show totF _ (r.S-1) r.N=totF _ (0+(r.S-1)) r.N by rw[Nat.zero_add],totF_shift]
  refine totF_congr (λi _ hi=>?_)
  rw[err_errF hr,Nat.add_sub_cancel,Nat.mod_eq_of_lt (by omega)]
 have hC:totF (λi=>if i<r.N then r.fi.getD i 0*roundF r st i*roundF r st i else 0) (r.S-1) r.N =
  totF (λi=>r.fi.getD i 0*st.getD i 0*st.getD i 0) (r.S-1) (r.N-(r.S-1)):=by
  rw[totF_cut _ (r.S-1) (show r.N=(r.N-(r.S-1))+(r.S-1) by omega),totF_zero (t:=r.S-1+_) (n:=r.S-1)]
  ·rw[Int.add_zero]
   refine totF_congr (λi h1 h2=>?_)
   have hi:i<r.N:=by omega
   rw[if_pos (by omega)]
   unfold roundF
   rw[Nat.mod_eq_of_lt hi]
  ·intro i k1 k2
   exact if_neg (by omega)
 have hD:totF (λi=>r.fi.getD i 0*st.getD i 0*st.getD i 0) 0 r.N=r.beginC st+totF (λi=>r.fi.getD i 0*st.getD i 0*st.getD i 0) (r.S-1) (r.N-(r.S-1)):=by
  rw[totF_cut _ 0 (show r.N=(r.S-1)+(r.N-(r.S-1)) by omega),Nat.zero_add]
  rfl
 have hE:r.cost st=totF (λi=>r.fi.getD i 0*st.getD i 0*st.getD i 0) 0 r.N+totF (λi=>r.th.getD i 0*r.err st i r.S*r.err st i r.S) 0 r.N:=by
  rw[← totF_add];rfl
 rw[hE,hA,hB,hC,hD]
 omega
def Rg.tail(r:Rg)(st:List Int):List Int:=listF (roundF r st) (r.S-1) r.N
theorem getD_rng{r:Rg}{st:List Int}(hl:st.length=r.N)(h:∀ x∈st,r.low<=x/\x<=r.high)(hn:0<r.N)(i:Nat):r.low<=roundF r st i/\roundF r st i<=r.high:=by
 have hi:i%r.N<st.length:=by rw[hl];exact Nat.mod_lt _ hn
 unfold roundF
 rw[List.getD_eq_getElem?_getD,List.getElem?_eq_getElem hi]
 exact h _ (List.getElem_mem hi)
theorem fine_err{r:Rg}(hr:r.Ok)(st:List Int):r.fineF (roundF r st) (r.S-1) r.N ↔ ∀ i,i<r.N->-r.worst<=r.err st i r.S/\r.err st i r.S<=r.worst:=by
 constructor
 ·intro h i hi
  have:=h (i+(r.S-1)) (by omega) (by omega)
  rwa [err_errF hr] at this
 ·intro h i h1 h2
  have:=h (i-(r.S-1)) (by omega)
  rw[← err_errF hr,Nat.sub_add_cancel h1] at this
  exact this
theorem run_good{r:Rg}(hr:r.Ok){st:List Int}(hl:st.length=r.N)(hg:∀ x∈st,r.low<=x/\x<=r.high)(first:List Int)(c:Int) :
 (r.lay first).run (r.S-1) (r.codeF (roundF r st) (r.S-1) (r.S-1),r.sumF (roundF r st) (r.S-1)) (r.tail st)=some c ↔ r.Good st/\r.beginC st+c=r.cost st:=by
 have h1:=hr.n1
 have h2:=hr.h2
 have hrd:=getD_rng hl hg (by omega)
 rw[Rg.tail,run_iff hr (λi=>⟨(hrd i).1,by have:=(hrd i).2;omega⟩) r.N (r.S-1) c (Nat.le_refl _),fine_err hr,Nat.add_comm (r.S-1),sumF_top,
  sumF_sum (λi=>(hrd i).1) r.N (Nat.le_refl _)]
 have hs:st.sum=totF (λi=>st.getD i 0) 0 r.N:=by rw[sum_totF,hl]
 have hc:=cost_tot hr st
 rw[← hs]
 constructor
 ·rintro⟨a,b,rfl⟩
  exact⟨⟨hl,hg,by omega,a⟩,hc⟩
 ·rintro⟨g,e⟩
  exact⟨g.err,by rw[g.sum],by omega⟩
theorem adm_tail{r:Rg}(hr:r.Ok){st:List Int}(hl:st.length=r.N)(hg:∀ x∈st,r.low<=x/\x<=r.high):(r.lay (st.take (r.S-1))).adm (r.S-1) (r.tail st):=by
 have h1:=hr.n1
 have h3:=hr.s3
 have hrd:=getD_rng hl hg (by omega)
 have key:∀ n t,t+n=r.N+(r.S-1)->(r.lay (st.take (r.S-1))).adm t (listF (roundF r st) t n):=by
  intro n
  induction n with
  |zero=>intro t _;exact trivial
  |succ n ih =>
   intro t ht
   refine⟨?_,ih (t+1) (by omega)⟩
   simp only[Rg.lay]
   by_cases c:t<r.N
   ·rw[if_pos c,if_pos c];exact hrd t
   ·rw[if_neg c,if_neg c]
    have e:roundF r st t=(st.take (r.S-1)).getD (t-r.N) 0:=by
     unfold roundF
     rw[Nat.mod_eq_sub_mod (by omega),Nat.mod_eq_of_lt (by omega)]
     simp only[List.getD_eq_getElem?_getD]
     rw[List.getElem?_take_of_lt (by omega)]
    rw[e];exact⟨Int.le_refl _,Int.le_refl _⟩
 exact key r.N (r.S-1) (by omega)
end
section
def Rg.code0(r:Rg)(first:List Int):Nat:=first.foldl (λc s=>c*4+(s-r.low).toNat) 0
def Rg.sum0(r:Rg)(first:List Int):Nat:=first.foldl (λc s=>c+(s-r.low).toNat) 0
theorem code0_eq{r:Rg}(hr:r.Ok){st:List Int}(hl:st.length=r.N) :
 r.code0 (st.take (r.S-1))=r.codeF (roundF r st) (r.S-1) (r.S-1)/\r.sum0 (st.take (r.S-1))=r.sumF (roundF r st) (r.S-1):=by
 have h1:=hr.s1
 have h2:=hr.s2
 have h3:=hr.n1
 have h4:=hr.s3
 obtain⟨a,b,c,m,rfl⟩:∃ a b c m,st=a :: b :: c :: m:=by
  rcases st with _|⟨a,_|⟨b,_|⟨c,m⟩⟩⟩
  ·simp at hl;omega
  ·simp at hl;omega
  ·simp at hl;omega
  ·exact⟨a,b,c,m,rfl⟩
 have r0:roundF r (a :: b :: c :: m) 0=a:=by simp[roundF]
 have r1:roundF r (a :: b :: c :: m) 1=b:=by simp[roundF,Nat.mod_eq_of_lt (show 1<r.N by omega)]
 have r2:roundF r (a :: b :: c :: m) 2=c:=by simp[roundF,Nat.mod_eq_of_lt (show 2<r.N by omega)]
 obtain e|e|e:r.S=2\/r.S=3\/r.S=4:=by omega
 all_goals
  simp only[e,Rg.code0,Rg.sum0,Rg.codeF,Rg.sumF,Nat.reduceSub,List.take,List.foldl,r0,r1,r2,show 0<r.N by omega,show 1<r.N by omega,show 2<r.N by omega,if_true,Nat.reducePow,Nat.zero_mul,Nat.zero_add,Nat.mul_one,Nat.pow_zero]
  refine⟨?_,trivial⟩
  first|trivial|omega
def Rg.valB(r:Rg)(first:List Int):Int:=(r.lay first).val r.N (r.S-1) (r.code0 first,r.sum0 first)
def Rg.wayB(r:Rg)(first:List Int):List Int:=first++((r.lay first).follow r.N (r.S-1) (r.code0 first,r.sum0 first)).take (r.N-(r.S-1))
def Rg.costB(r:Rg)(first:List Int):Int:=totF (λi=>r.fi.getD i 0*first.getD i 0*first.getD i 0) 0 (r.S-1)
theorem adm_rest{r:Rg}{first:List Int}:∀ (l:List Int) (t:Nat),(r.lay first).adm t l->∀ i,i<l.length->(r.lay first).lo (t+i)<=l.getD i 0/\l.getD i 0<=(r.lay first).hi (t+i)
 |[],_,_,i,h=>by simp at h
 |a :: l,t,h,0,_=>by simpa using h.1
 |a :: l,t,h,i+1,hi=>by
  have:=adm_rest l (t+1) h.2 i (by simpa using hi)
  rw[show t+1+i=t+(i+1) by omega] at this
  simpa using this
theorem tail_of{r:Rg}(hr:r.Ok){first l:List Int}(hf:first.length=r.S-1)(hg:∀ x∈first,r.low<=x/\x<=r.high)
 (hl:l.length=r.N) (ha:(r.lay first).adm (r.S-1) l) :
 (first++l.take (r.N-(r.S-1))).length=r.N/\(∀ x∈first++l.take (r.N-(r.S-1)),r.low<=x/\x<=r.high)/\
 (first++l.take (r.N-(r.S-1))).take (r.S-1)=first/\r.tail (first++l.take (r.N-(r.S-1)))=l:=by
 have h1:=hr.s1
 have h3:=hr.s3
 have hrest:=adm_rest l (r.S-1) ha
 have hlen:(first++l.take (r.N-(r.S-1))).length=r.N:=by simp[hf,hl];omega
 refine⟨hlen,?_,by rw[List.take_append_of_le_length (by omega),← hf,List.take_length],?_⟩
 ·intro x hx
  rcases List.mem_append.1 hx with hx|hx
  ·exact hg x hx
  ·obtain⟨i,hi,rfl⟩:=List.getElem_of_mem hx
   simp only[List.length_take,hl] at hi
   have:=hrest i (by omega)
   simp only[Rg.lay] at this
   rw[if_pos (by omega),if_pos (by omega),List.getD_eq_getElem?_getD,List.getElem?_eq_getElem (by omega)] at this
   simpa using this
 ·refine List.ext_getElem? (λi=>?_)
  by_cases hi:i<r.N
  ·rw[Rg.tail,listF_get _ _ _ _ hi]
   by_cases c:i<r.N-(r.S-1)
   ·unfold roundF
    rw[Nat.mod_eq_of_lt (by omega),List.getD_eq_getElem?_getD,List.getElem?_append_right (by omega),hf,Nat.add_sub_cancel_left,List.getElem?_take_of_lt c,
     List.getElem?_eq_getElem (show i<l.length by omega)]
    rfl
   ·have:=hrest i (by omega)
    simp only[Rg.lay] at this
    rw[if_neg (by omega),if_neg (by omega)] at this
    have e:l.getD i 0=first.getD (r.S-1+i-r.N) 0:=by omega
    unfold roundF
    rw[Nat.mod_eq_sub_mod (by omega),Nat.mod_eq_of_lt (by omega),List.getD_eq_getElem?_getD,List.getElem?_append_left (by omega),← List.getD_eq_getElem?_getD,← e,
     List.getD_eq_getElem?_getD,List.getElem?_eq_getElem (show i<l.length by omega)]
    rfl
  ·rw[List.getElem?_eq_none (by rw[Rg.tail,listF_len];omega),List.getElem?_eq_none (by omega)]
theorem costB_eq{r:Rg}{st:List Int}:r.costB (st.take (r.S-1))=r.beginC st:=by
 refine totF_congr (λi _ hi=>?_)
 have e:(st.take (r.S-1)).getD i 0=st.getD i 0:=by
  rw[List.getD_eq_getElem?_getD,List.getElem?_take_of_lt (by omega),List.getD_eq_getElem?_getD]
 rw[e]
theorem lexI_take:∀ {a b:List Int} (n:Nat),lexI a b->lexI (a.take n) (b.take n)
 |_,_,0,_=>by simp[lexI]
 |[],_,n+1,_=>by simp[lexI]
 |_ :: _,[],n+1,h=>False.elim h
 |x :: a,y :: b,n+1,h=>by
  rcases h with h|⟨rfl,h⟩
  ·exact .inl h
  ·exact .inr ⟨rfl,lexI_take n h⟩
theorem st_tail{r:Rg}(hr:r.Ok){st:List Int}(hl:st.length=r.N):st=st.take (r.S-1)++(r.tail st).take (r.N-(r.S-1)):=by
 have h1:=hr.s1
 have h3:=hr.s3
 refine List.ext_getElem? (λi=>?_)
 by_cases c:i<r.S-1
 ·rw[List.getElem?_append_left (by simp;omega),List.getElem?_take_of_lt c]
 ·rw[List.getElem?_append_right (by simp;omega),List.length_take,Nat.min_eq_left (by omega)]
  by_cases d:i<r.N
  ·rw[List.getElem?_take_of_lt (by omega),Rg.tail,listF_get _ _ _ _ (by omega),List.getElem?_eq_getElem (by omega)]
   unfold roundF
   rw[show r.S-1+(i-(r.S-1))=i by omega,Nat.mod_eq_of_lt d,List.getD_eq_getElem?_getD,List.getElem?_eq_getElem (by omega)]
   rfl
  ·rw[List.getElem?_eq_none (by omega),List.getElem?_eq_none (by simp;omega)]
theorem begin_ok{r:Rg}(hr:r.Ok){first:List Int}(hf:first.length=r.S-1)(hg:∀ x∈first,r.low<=x/\x<=r.high) :
 (r.valB first = -1/\∀ st,r.Good st->st.take (r.S-1)=first->False)\/
 (0<=r.valB first/\r.Good (r.wayB first)/\(r.wayB first).take (r.S-1)=first/\r.cost (r.wayB first)=r.costB first+r.valB first/\
  ∀ st,r.Good st->st.take (r.S-1)=first->r.cost (r.wayB first)<r.cost st\/(r.cost (r.wayB first)=r.cost st/\lexI (r.wayB first) st)):=by
 have run_of:∀ st,r.Good st->st.take (r.S-1)=first->(r.tail st).length=r.N/\(r.lay first).adm (r.S-1) (r.tail st)/\
  (r.lay first).run (r.S-1) (r.code0 first,r.sum0 first) (r.tail st)=some (r.cost st-r.costB first):=by
  rintro st hst rfl
  obtain⟨e1,e2⟩:=code0_eq hr hst.len
  refine⟨listF_len _ _ _,adm_tail hr hst.len hst.rng,?_⟩
  rw[e1,e2]
  exact (run_good hr hst.len hst.rng _ _).2 ⟨hst,by rw[costB_eq];omega⟩
 rcases val_ok (lay_pos hr first) r.N (r.S-1) (r.code0 first,r.sum0 first) with⟨h1,h2⟩|⟨h1,h2,h3,h4,h5⟩
 ·refine .inl ⟨h1,λst hst he=>?_⟩
  obtain⟨k1,k2,k3⟩:=run_of st hst he
  exact h2 _ _ k1 k2 k3
 ·obtain⟨t1,t2,t3,t4⟩:=tail_of hr hf hg h2 h3
  have hw:r.Good (r.wayB first)/\r.beginC (r.wayB first)+r.valB first=r.cost (r.wayB first):=by
   refine (run_good hr t1 t2 first (r.valB first)).1 ?_
   obtain⟨e1,e2⟩:=code0_eq hr t1
   rw[t3] at e1 e2
   rw[← e1,← e2,t4]
   exact h4
  have hb:r.costB first=r.beginC (r.wayB first):=by
   rw[← costB_eq];exact congrArg r.costB t3.symm
  refine .inr ⟨h1,hw.1,t3,by rw[hb];exact hw.2.symm,λst hst he=>?_⟩
  obtain⟨k1,k2,k3⟩:=run_of st hst he
  have hval:(r.lay first).val r.N (r.S-1) (r.code0 first,r.sum0 first)=r.valB first:=rfl
  rcases h5 _ _ k1 k2 k3 with h6|⟨h6,h7⟩
  ·rw[hval] at h6
   exact .inl (by omega)
  ·rw[hval] at h6
   refine .inr ⟨by omega,?_⟩
   rw[st_tail hr hst.len,he]
   exact lexI.append first (lexI_take _ h7)
end
section
def Rg.stepB(r:Rg)(acc:List Int×Int)(first:List Int):List Int×Int:=
 if 0<=r.valB first/\(acc.2<0\/r.costB first+r.valB first<acc.2) then (r.wayB first,r.costB first+r.valB first) else acc
def Rg.Amid(r:Rg)(ps:List Int->Prop)(acc:List Int×Int):Prop:=
 (acc=([],-1)/\∀ st,r.Good st->ps (st.take (r.S-1))->False)\/
 (0<=acc.2/\r.Good acc.1/\ps (acc.1.take (r.S-1))/\r.cost acc.1=acc.2/\∀ st,r.Good st->ps (st.take (r.S-1))->acc.2<r.cost st\/(acc.2=r.cost st/\lexI acc.1 st))
theorem lexI_of_take:∀ {a b:List Int} (n:Nat),a.length=b.length->lexI (a.take n) (b.take n)->a.take n≠b.take n->lexI a b
 |_,_,0,_,_,h=>absurd (by simp) h
 |[],_,n+1,_,_,_=>trivial
 |_ :: _,[],n+1,h,_,_=>by simp at h
 |x :: a,y :: b,n+1,hl,h,hn=>by
  rcases h with h|⟨rfl,h⟩
  ·exact .inl h
  ·exact .inr ⟨rfl,lexI_of_take n (by simpa using hl) h (λe=>hn (by simp[e]))⟩
theorem costB_pos{r:Rg}(hr:r.Ok)(first:List Int):0<=r.costB first:=by
 have key:∀ (n t:Nat),0<=totF (λi=>r.fi.getD i 0*first.getD i 0*first.getD i 0) t n:=by
  intro n
  induction n with
  |zero=>intro t;exact Int.le_refl _
  |succ n ih=>intro t;exact Int.add_nonneg (sq_pos _ (wt_pos _ hr.fw)) (ih (t+1))
 exact key _ _
theorem stepB_ok{r:Rg}(hr:r.Ok){ps:List Int->Prop}{acc:List Int×Int}{first:List Int}(h:r.Amid ps acc)
 (hf:first.length=r.S-1) (hg:∀ x∈first,r.low<=x/\x<=r.high) (hlt:∀ p,ps p->lexI p first/\p≠first) :
 r.Amid (λp=>ps p\/p=first) (r.stepB acc first):=by
 have hc:=costB_pos hr first
 have hb:=begin_ok hr hf hg
 unfold Rg.stepB
 by_cases c:0<=r.valB first/\(acc.2<0\/r.costB first+r.valB first<acc.2)
 ·rw[if_pos c]
  rcases hb with⟨b1,_⟩|⟨b1,b2,b3,b4,b5⟩
  ·omega
  ·refine .inr ⟨by show 0<=r.costB first+r.valB first;omega,b2,.inr b3,b4,λst hst hp=>?_⟩
   show r.costB first+r.valB first<r.cost st\/(r.costB first+r.valB first=r.cost st/\lexI (r.wayB first) st)
   rw[← b4]
   rcases hp with hp|hp
   ·rcases h with⟨_,h2⟩|⟨h1,_,_,_,h5⟩
    ·exact absurd (h2 st hst hp) id
    ·have:=h5 st hst hp
     left
     rcases c.2 with c2|c2
     ·omega
     ·rcases this with t|⟨t,_⟩<;>omega
   ·exact b5 st hst hp
 ·rw[if_neg c]
  rcases h with⟨h1,h2⟩|⟨h1,h2,h3,h4,h5⟩
  ·refine .inl ⟨h1,λst hst hp=>?_⟩
   rcases hp with hp|hp
   ·exact h2 st hst hp
   ·rcases hb with⟨_,b2⟩|⟨b1,_⟩
    ·exact b2 st hst hp
    ·exact c ⟨b1,.inl (by rw[h1];decide)⟩
  ·refine .inr ⟨h1,h2,.inl h3,h4,λst hst hp=>?_⟩
   rcases hp with hp|hp
   ·exact h5 st hst hp
   ·rcases hb with⟨_,b2⟩|⟨b1,b2,b3,b4,b5⟩
    ·exact absurd (b2 st hst hp) id
    ·have hle:acc.2<=r.costB first+r.valB first:=by
      by_cases d:r.costB first+r.valB first<acc.2
      ·exact absurd ⟨b1,.inr d⟩ c
      ·omega
     have hlx:lexI acc.1 st:=by
      obtain⟨l1,l2⟩:=hlt _ h3
      exact lexI_of_take (r.S-1) (by rw[h2.len,hst.len]) (by rw[hp];exact l1) (by rw[hp];exact l2)
     by_cases e:acc.2=r.cost st
     ·exact .inr ⟨e,hlx⟩
     ·left
      rcases b5 st hst hp with t|⟨t,_⟩<;>omega
structure Rg.Best(r:Rg)(st:List Int)(c:Int):Prop where
 good:r.Good st
 cost:r.cost st=c
 least:∀ q,r.Good q->c<r.cost q\/(c=r.cost q/\lexI st q)
theorem Rg.Best.uniq{r:Rg}{a b:List Int}{c d:Int}(h:r.Best a c)(k:r.Best b d):a=b/\c=d:=by
 have h1:=h.least b k.good
 have k1:=k.least a h.good
 rw[k.cost] at h1
 rw[h.cost] at k1
 rcases h1 with h1|⟨h1,h2⟩
 ·rcases k1 with k1|⟨k1,_⟩<;>omega
 ·rcases k1 with k1|⟨_,k2⟩
  ·omega
  ·exact⟨lexI.antisymm (by rw[h.good.len,k.good.len]) h2 k2,h1⟩
theorem amid_best{r:Rg}{ps:List Int->Prop}{acc:List Int×Int}(h:r.Amid ps acc)(hall:∀ st,r.Good st->ps (st.take (r.S-1))) :
 (acc=([],-1)/\∀ st,¬ r.Good st)\/(0<=acc.2/\r.Best acc.1 acc.2):=by
 rcases h with⟨h1,h2⟩|⟨h1,h2,_,h4,h5⟩
 ·exact .inl ⟨h1,λst hst=>h2 st hst (hall st hst)⟩
 ·exact .inr ⟨h1,h2,h4,λq hq=>h5 q hq (hall q hq)⟩
end
section
theorem getD_bd{lo hi:Int}{l:List Int}(h:∀ x∈l,lo<=x/\x<=hi)(h0:lo<=0/\0<=hi)(i:Nat):lo<=l.getD i 0/\l.getD i 0<=hi:=by
 rw[List.getD_eq_getElem?_getD]
 cases e:l[i]? with
 |none=>exact h0
 |some x=>exact h x (List.mem_of_getElem? e)
theorem getD_some{l:List Int}{i:Nat}{x:Int}(h:l[i]?=some x):l.getD i 0=x:=by
 rw[List.getD_eq_getElem?_getD,h];rfl
theorem st_15{r:Rg}(hr:r.Ok){st:List Int}(hg:∀ x∈st,r.low<=x/\x<=r.high):∀ x∈st,-15<=x/\x<=15:=λx hx=>by
 have h:=hg x hx
 have h1:=hr.l1
 have h2:=hr.l2
 have h3:=hr.h2
 omega
theorem mul_abs{a b A B:Int}(ha : -A<=a/\a<=A)(hb : -B<=b/\b<=B)(hA:0<=A) : -(A*B)<=a*b/\a*b<=A*B:=by
 have hB:0<=B:=by omega
 have h:a.natAbs<=A.natAbs:=by omega
 have k:b.natAbs<=B.natAbs:=by omega
 have hm:=Nat.mul_le_mul h k
 rw[← Int.natAbs_mul,← Int.natAbs_mul] at hm
 have hp:0<=A*B:=Int.mul_nonneg hA hB
 omega
theorem wt_1000{r:Rg}(hr:r.Ok)(i:Nat):(0<=r.fi.getD i 0/\r.fi.getD i 0<=1000)/\0<=r.th.getD i 0/\r.th.getD i 0<=1000:=
 ⟨getD_bd hr.fw (by omega) i,getD_bd hr.tw (by omega) i⟩
theorem wss_bd{x s S:Int}(hx:0<=x/\x<=1000)(hs : -S<=s/\s<=S)(hS:0<=S):(-(1000*S)<=x*s/\x*s<=1000*S)/\0<=x*s*s/\x*s*s<=1000*S*S:=by
 have h1:=mul_abs (a:=x) (b:=s) (A:=1000) (B:=S) (by omega) hs (by omega)
 have h2:=mul_abs (a:=x*s) (b:=s) (A:=1000*S) (B:=S) h1 hs (Int.mul_nonneg (by omega) hS)
 exact⟨h1,sq_pos s hx.1,h2.2⟩
theorem totF_snoc(f:Nat->Int)(k:Nat):totF f 0 (k+1)=totF f 0 k+f k:=by
 rw[totF_split f k 0 1];simp[totF]
theorem totF_bd{f:Nat->Int}{M:Int}(h:∀ i,0<=f i/\f i<=M):∀ k:Nat,0<=totF f 0 k/\totF f 0 k<=M*k
 |0=>by simp[totF]
 |k+1=>by
  have ih:=totF_bd h k
  have h1:=h k
  rw[totF_snoc]
  have:M*((k+1:Nat):Int)=M*k+M:=by rw[Int.natCast_add,Int.mul_add];simp
  omega
end
end Go.Proofs.YtjibohkeapdalaaGreatDoor
