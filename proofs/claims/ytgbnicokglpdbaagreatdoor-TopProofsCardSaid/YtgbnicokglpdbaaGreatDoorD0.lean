/-
The plain mathematics of a panel; conditions: those of each theorem.
-/
import Derived.Test.YtgbnicokglpdbaaGreatDoorA0
namespace Go.Proofs.YtgbnicokglpdbaaGreatDoor
section
structure aj where
 W:Int
 H:Int
 V:Int
 T:Bool
def jG(v lo hi:Int):Bool:=decide (lo<=v)&&decide (v<=hi)
def lC(s:aj):Bool:=jG s.W 1 64&&jG s.H 1 64&&jG s.V 0 1000000
def eP(w h k:Int)(ss:List aj):Bool:=jG w 1 64&&jG h 1 64&&jG k 0 8&&decide (ss.length<=16)&&ss.all lC
abbrev dA:=(Int×Int)×Int
def eQ(w h:Int)(i:Nat)(s:aj):List dA:=
 (if s.W=w/\s.H=h then [((1,(i:Int)),s.V)] else [])++(if s.T=true/\s.H=w/\s.W=h then [((2,(i:Int)),s.V)] else [])
def aV(w h:Int):Nat->List aj->List dA
 |_,[]=>[]
 |i,s :: r=>eQ w h i s++aV w h (i+1) r
def jd(T:Int->Int->Int)(k w h:Int)(n:Nat):List dA:=(List.range n).map λ(a:Nat)=>((3,(a:Int)+1),T ((a:Int)+1) h+T (w-((a:Int)+1)-k) h)
def gn(T:Int->Int->Int)(k w h:Int)(n:Nat):List dA:=(List.range n).map λ(a:Nat)=>((4,(a:Int)+1),T w ((a:Int)+1)+T w (h-((a:Int)+1)-k))
def dN(T:Int->Int->Int)(k:Int)(ss:List aj)(w h:Int):List dA:=
 ((0,0),0) :: (aV w h 0 ss++(jd T k w h (w-1).toNat++gn T k w h (h-1).toNat))
def lS(l:List dA):Int:=l.foldl (λm x=>max m x.2) 0
def pW(k:Int)(ss:List aj):Nat->Int->Int->Int
 |0,_,_=>0
 |f+1,w,h=>if w<1\/h<1 then 0 else lS (dN (pW k ss f) k ss w h)
def val(k:Int)(ss:List aj)(w h:Int):Int:=pW k ss (w.toNat+h.toNat) w h
theorem fD(k:Int)(ss:List aj)(w h:Int)(hh:w<1\/h<1):val k ss w h=0:=by
 unfold val
 cases w.toNat+h.toNat with
 |zero=>rfl
 |succ f=>simp[pW,hh]
theorem Ch{T T':Int->Int->Int}{k w h:Int}(n:Nat)(hn:(n:Int)<=w-1)(hk:0<=k)(he:∀ x,x<w->T x h=T' x h):jd T k w h n=jd T' k w h n:=by
 unfold jd
 refine List.map_congr_left λa ha=>?_
 have:=List.mem_range.1 ha
 rw[he _ (by omega),he _ (by omega)]
theorem CC{T T':Int->Int->Int}{k w h:Int}(n:Nat)(hn:(n:Int)<=h-1)(hk:0<=k)(he:∀ x,x<h->T w x=T' w x):gn T k w h n=gn T' k w h n:=by
 unfold gn
 refine List.map_congr_left λa ha=>?_
 have:=List.mem_range.1 ha
 rw[he _ (by omega),he _ (by omega)]
theorem tv{T T':Int->Int->Int}{k:Int}{ss:List aj}{w h:Int}(hw:1<=w)(hh:1<=h)(hk:0<=k)(he:∀ x,x<w->T x h=T' x h)(a0:∀ x,x<h->T w x=T' w x):dN T k ss w h=dN T' k ss w h:=by
 unfold dN
 rw[Ch _ (by omega) hk he,CC _ (by omega) hk a0]
theorem vO(k:Int)(ss:List aj)(hk:0<=k):∀ (f:Nat) (w h:Int),w.toNat+h.toNat<=f->pW k ss f w h=val k ss w h:=by
 intro f
 induction f using Nat.strongRecOn with
 |_ f ih =>
  intro w h hf
  by_cases aa:w<1\/h<1
  ·rw[fD k ss w h aa]
   cases f with
   |zero=>rfl
   |succ f=>simp[pW,aa]
  have hs:∃ g,w.toNat+h.toNat=g+1:=⟨w.toNat+h.toNat-1,by omega⟩
  obtain⟨g,hg⟩:=hs
  obtain⟨f',rfl⟩:∃ f',f=f'+1:=⟨f-1,by omega⟩
  unfold val
  rw[hg]
  simp only[pW,if_neg aa]
  congr 1
  refine tv (by omega) (by omega) hk (λx hx=>?_) (λx hx=>?_)
  ·rw[ih f' (by omega) _ _ (by omega)]
   rw[ih g (by omega) _ _ (by omega)]
  rw[ih f' (by omega) _ _ (by omega)]
  rw[ih g (by omega) _ _ (by omega)]
theorem yx(k:Int)(ss:List aj)(hk:0<=k)(w h:Int)(hw:1<=w)(hh:1<=h):val k ss w h=lS (dN (val k ss) k ss w h):=by
 have hg:w.toNat+h.toNat=(w.toNat+h.toNat-1)+1:=by omega
 rw[val,hg]
 simp only[pW,if_neg (show ¬ (w<1\/h<1) by omega)]
 congr 1
 refine tv hw hh hk (λx hx=>?_) (λx hx=>?_)
 ·exact vO k ss hk _ _ _ (by omega)
 exact vO k ss hk _ _ _ (by omega)
theorem xt(l:List dA):∀ m:Int,m<=l.foldl (λm x=>max m x.2) m/\∀ x∈l,x.2<=l.foldl (λm x=>max m x.2) m:=by
 induction l with
 |nil=>intro m;simp
 |cons a r ih =>
  intro m
  have h:=ih (max m a.2)
  refine⟨?_,?_⟩
  ·simp only[List.foldl_cons];omega
  intro x hx
  simp only[List.foldl_cons]
  rcases List.mem_cons.1 hx with rfl|hx
  ·omega
  exact h.2 x hx
theorem vU(l:List dA):∀ m:Int,l.foldl (λm x=>max m x.2) m=m\/∃ x∈l,l.foldl (λm x=>max m x.2) m=x.2:=by
 induction l with
 |nil=>intro m;simp
 |cons a r ih =>
  intro m
  simp only[List.foldl_cons]
  rcases ih (max m a.2) with h|⟨x,hx,h⟩
  ·rw[h]
   by_cases hc:m<=a.2
   ·exact .inr ⟨a,by simp,by omega⟩
   exact .inl (by omega)
  exact .inr ⟨x,by simp[hx],h⟩
theorem yW(l:List dA):0<=lS l:=(xt l 0).1
theorem xL(T:Int->Int->Int)(k:Int)(ss:List aj)(w h:Int):∃ x∈dN T k ss w h,x.2=lS (dN T k ss w h):=by
 rcases vU (dN T k ss w h) 0 with h0|⟨x,hx,h0⟩
 ·exact⟨((0,0),0),by simp[dN],by unfold lS;omega⟩
 exact⟨x,hx,by unfold lS;omega⟩
theorem C9(l:List dA)(x:dA):lS (l++[x])=max (lS l) x.2:=by simp[lS,List.foldl_append]
theorem tu(k:Int)(ss:List aj)(w h:Int):0<=val k ss w h:=by
 unfold val
 generalize w.toNat+h.toNat=f
 cases f with
 |zero=>exact Int.le_refl _
 |succ f =>
  simp only[pW]
  split
  ·exact Int.le_refl _
  exact yW _
theorem Fk(w h:Int)(x:dA):∀ (ss:List aj) (i:Nat),x∈aV w h i ss ↔
 ∃ (j:Nat) (s:aj),ss[j]?=some s/\((s.W=w/\s.H=h/\x=((1,((i+j:Nat):Int)),s.V))\/(s.T=true/\s.H=w/\s.W=h/\x=((2,((i+j:Nat):Int)),s.V))):=by
 intro ss
 induction ss with
 |nil=>intro i;simp[aV]
 |cons s r ih =>
  intro i
  simp only[aV,List.mem_append,ih,eQ]
  constructor
  ·rintro ((h1|h1)|⟨j,t,hj,h1⟩)
   ·split at h1
    ·rename_i hc;exact⟨0,s,rfl,.inl ⟨hc.1,hc.2,by simpa using h1⟩⟩
    simp at h1
   ·split at h1
    ·rename_i hc;exact⟨0,s,rfl,.inr ⟨hc.1,hc.2.1,hc.2.2,by simpa using h1⟩⟩
    simp at h1
   exact⟨j+1,t,by simpa using hj,by rw[show i+(j+1)=i+1+j by omega];exact h1⟩
  rintro⟨j,t,hj,h1⟩
  cases j with
  |zero =>
   simp at hj;subst hj
   rcases h1 with⟨a,b,c⟩|⟨a,b,c,d⟩
   ·exact .inl (.inl (by rw[if_pos ⟨a,b⟩];simpa using c))
   exact .inl (.inr (by rw[if_pos ⟨a,b,c⟩];simpa using d))
  |succ j=>exact .inr ⟨j,t,by simpa using hj,by rw[show i+1+j=i+(j+1) by omega];exact h1⟩
theorem Ir(T:Int->Int->Int)(k w h:Int)(n:Nat)(x:dA):x∈jd T k w h n ↔ ∃ a:Int,1<=a/\a<=n/\x=((3,a),T a h+T (w-a-k) h):=by
 simp only[jd,List.mem_map,List.mem_range]
 constructor
 ·rintro⟨a,ha,rfl⟩;exact⟨a+1,by omega,by omega,rfl⟩
 rintro⟨a,h1,h2,rfl⟩;exact⟨(a-1).toNat,by omega,by rw[show (((a-1).toNat:Nat):Int)+1=a by omega]⟩
theorem Is(T:Int->Int->Int)(k w h:Int)(n:Nat)(x:dA):x∈gn T k w h n ↔ ∃ a:Int,1<=a/\a<=n/\x=((4,a),T w a+T w (h-a-k)):=by
 simp only[gn,List.mem_map,List.mem_range]
 constructor
 ·rintro⟨a,ha,rfl⟩;exact⟨a+1,by omega,by omega,rfl⟩
 rintro⟨a,h1,h2,rfl⟩;exact⟨(a-1).toNat,by omega,by rw[show (((a-1).toNat:Nat):Int)+1=a by omega]⟩
theorem lR(T:Int->Int->Int)(k:Int)(ss:List aj)(w h:Int)(hw:1<=w)(hh:1<=h)(x:dA):x∈dN T k ss w h ↔
 x=((0,0),0)\/(∃ (j:Nat) (s:aj),ss[j]?=some s/\((s.W=w/\s.H=h/\x=((1,(j:Int)),s.V))\/(s.T=true/\s.H=w/\s.W=h/\x=((2,(j:Int)),s.V))))\/
 (∃ a:Int,1<=a/\a<w/\x=((3,a),T a h+T (w-a-k) h))\/(∃ a:Int,1<=a/\a<h/\x=((4,a),T w a+T w (h-a-k))):=by
 simp only[dN,List.mem_cons,List.mem_append,Fk,Ir,Is,Nat.zero_add]
 constructor
 ·rintro (h1|h1|⟨a,h1,h2,h3⟩|⟨a,h1,h2,h3⟩)
  ·exact .inl h1
  ·exact .inr (.inl h1)
  ·exact .inr (.inr (.inl ⟨a,h1,by omega,h3⟩))
  exact .inr (.inr (.inr ⟨a,h1,by omega,h3⟩))
 rintro (h1|h1|⟨a,h1,h2,h3⟩|⟨a,h1,h2,h3⟩)
 ·exact .inl h1
 ·exact .inr (.inl h1)
 ·exact .inr (.inr (.inl ⟨a,h1,by omega,h3⟩))
 exact .inr (.inr (.inr ⟨a,h1,by omega,h3⟩))
def ua(k:Int)(ss:List aj)(w h:Int):Option dA:=(dN (val k ss) k ss w h).find? λx=>x.2==val k ss w h
def kf(k:Int)(ss:List aj):Nat->Int->Int->List (Int×Int)
 |0,_,_=>[]
 |f+1,w,h=>if w<1\/h<1 then [] else
  match ua k ss w h with
  |none=>[]
  |some ((c,a),_)=>(c,a) :: (if c=3 then kf k ss f a h++kf k ss f (w-a-k) h else if c=4 then kf k ss f w a++kf k ss f w (h-a-k) else [])
def aK(k:Int)(ss:List aj)(w h:Int):List (Int×Int):=kf k ss (w.toNat+h.toNat) w h
theorem kG(k:Int)(ss:List aj)(hk:0<=k)(w h:Int)(hw:1<=w)(hh:1<=h):∃ x,ua k ss w h=some x/\x∈dN (val k ss) k ss w h/\x.2=val k ss w h:=by
 obtain⟨y,hy,he⟩:=xL (val k ss) k ss w h
 rw[← yx k ss hk w h hw hh] at he
 cases hp:ua k ss w h with
 |none =>
  have:=List.find?_eq_none.1 hp y hy
  simp[he] at this
 |some x =>
  have h1:=List.mem_of_find?_eq_some hp
  have h2:=List.find?_some hp
  exact⟨x,rfl,h1,by simpa using h2⟩
theorem rr(k:Int)(ss:List aj)(f:Nat)(w h:Int)(hh:w<1\/h<1):kf k ss f w h=[]:=by
 cases f with
 |zero=>rfl
 |succ f=>simp[kf,hh]
theorem lz(k:Int)(ss:List aj)(hk:0<=k):∀ (f:Nat) (w h:Int),w.toNat+h.toNat<=f->kf k ss f w h=aK k ss w h:=by
 intro f
 induction f using Nat.strongRecOn with
 |_ f ih =>
  intro w h hf
  by_cases aa:w<1\/h<1
  ·rw[aK,rr _ _ _ _ _ aa,rr _ _ _ _ _ aa]
  obtain⟨g,hg⟩:∃ g,w.toNat+h.toNat=g+1:=⟨w.toNat+h.toNat-1,by omega⟩
  obtain⟨f',rfl⟩:∃ f',f=f'+1:=⟨f-1,by omega⟩
  unfold aK
  rw[hg]
  simp only[kf,if_neg aa]
  obtain⟨⟨⟨c,a⟩,v⟩,hp,hm,hv⟩:=kG k ss hk w h (by omega) (by omega)
  rw[hp]
  rcases (lR _ k ss w h (by omega) (by omega) _).1 hm with h1|⟨j,s,_,⟨_,_,h1⟩|⟨_,_,_,h1⟩⟩|⟨b,am,aF,h1⟩|⟨b,am,aF,h1⟩<;>simp only[Prod.mk.injEq] at h1<;>obtain⟨⟨rfl,rfl⟩,rfl⟩:=h1
  ·simp
  ·simp
  ·simp
  ·simp only[if_true]
   rw[ih f' (by omega) _ _ (by omega),ih g (by omega) _ _ (by omega),ih f' (by omega) _ _ (by omega),ih g (by omega) _ _ (by omega)]
  simp only[if_neg (show ¬ (4:Int)=3 by omega),if_true]
  rw[ih f' (by omega) _ _ (by omega),ih g (by omega) _ _ (by omega),ih f' (by omega) _ _ (by omega),ih g (by omega) _ _ (by omega)]
theorem iH(k:Int)(ss:List aj)(w h:Int)(hh:w<1\/h<1):aK k ss w h=[]:=rr _ _ _ _ _ hh
theorem rt(k:Int)(ss:List aj)(hk:0<=k)(w h:Int)(hw:1<=w)(hh:1<=h){c a v:Int}(hp:ua k ss w h=some ((c,a),v)) :
 aK k ss w h=(c,a) :: (if c=3 then aK k ss a h++aK k ss (w-a-k) h else if c=4 then aK k ss w a++aK k ss w (h-a-k) else []):=by
 obtain⟨g,hg⟩:∃ g,w.toNat+h.toNat=g+1:=⟨w.toNat+h.toNat-1,by omega⟩
 obtain⟨x,ad,hm,_⟩:=kG k ss hk w h hw hh
 rw[hp] at ad
 injection ad with ad
 subst ad
 rw[aK,hg]
 simp only[kf,if_neg (show ¬ (w<1\/h<1) by omega),hp]
 rcases (lR _ k ss w h (by omega) (by omega) _).1 hm with h1|⟨j,s,_,⟨_,_,h1⟩|⟨_,_,_,h1⟩⟩|⟨b,am,aF,h1⟩|⟨b,am,aF,h1⟩<;>simp only[Prod.mk.injEq] at h1<;>obtain⟨⟨rfl,rfl⟩,rfl⟩:=h1
 ·simp
 ·simp
 ·simp
 ·simp only[if_true]
  rw[lz k ss hk g _ _ (by omega),lz k ss hk g _ _ (by omega)]
 simp only[if_neg (show ¬ (4:Int)=3 by omega),if_true]
 rw[lz k ss hk g _ _ (by omega),lz k ss hk g _ _ (by omega)]
end
section
open Go.RowKit
def aj.enc(s:aj):List Value:=[.int .i64 s.W,.int .i64 s.H,.int .i64 s.V,.bool s.T]
theorem aj.enc_len(s:aj):s.enc.length=4:=rfl
def ep(c:Int×Int):List Value:=[.int .i64 c.1,.int .i64 c.2]
theorem nH(c:Int×Int):(ep c).length=2:=rfl
theorem ag.at4{w:World}{A:Option Addr}{n k:Nat}{l:List aj}(h:ag aj.enc 4 w A n l)(hk:k<n) :
 ∃ b o s,A=some ⟨b,o,none⟩/\b<w.heap.size/\l[k]?=some s/\w.cell? ⟨b,o+k*4,none⟩=some (.int .i64 s.W)/\w.cell? ⟨b,o+k*4+1,none⟩=some (.int .i64 s.H)/\
  w.cell? ⟨b,o+k*4+2,none⟩=some (.int .i64 s.V)/\w.cell? ⟨b,o+k*4+3,none⟩=some (.bool s.T):=by
 obtain⟨b,o,x,hA,hb,hx,hc⟩:=h.at_ aj.enc_len hk
 exact⟨b,o,x,hA,hb,hx,by simpa using hc 0 _ rfl,by simpa[Nat.add_assoc] using hc 1 _ rfl,by simpa[Nat.add_assoc] using hc 2 _ rfl,by simpa[Nat.add_assoc] using hc 3 _ rfl⟩
theorem ag.at2{w:World}{A:Option Addr}{n k:Nat}{l:List (Int×Int)}(h:ag ep 2 w A n l)(hk:k<n) :
 ∃ b o s,A=some ⟨b,o,none⟩/\b<w.heap.size/\l[k]?=some s/\w.cell? ⟨b,o+k*2,none⟩=some (.int .i64 s.1)/\w.cell? ⟨b,o+k*2+1,none⟩=some (.int .i64 s.2):=by
 obtain⟨b,o,x,hA,hb,hx,hc⟩:=h.at_ nH hk
 exact⟨b,o,x,hA,hb,hx,by simpa using hc 0 _ rfl,by simpa[Nat.add_assoc] using hc 1 _ rfl⟩
end
end Go.Proofs.YtgbnicokglpdbaaGreatDoor
