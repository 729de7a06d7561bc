/-
  Plain arithmetic: limbs, Knuth's division, Newton's root, tones reduced; no condition but what each states. Memory words and limb loops of nat; each states its condition. Contracts of nat's multiplication, shifts and comparison on limbs; each states its condition.
-/
import Derived.Test.YtjibohkeapdalaaGreatDoorAa
import Derived.Lib.BitFns
import Derived.Laws.BitsAllLaws
import Derived.Shelf.Small.Bits
import Derived.Deep.RegionWith
import Derived.IntWalk
namespace Go.Proofs.YtjibohkeapdalaaGreatDoor
set_option maxHeartbeats 4000000
section
section
section
def pw(k:Nat):Nat:=4294967296 ^ k
theorem pw_zero:pw 0=1:=rfl
theorem pw_succ(k:Nat):pw (k+1)=4294967296*pw k:=by unfold pw;rw[Nat.pow_succ,Nat.mul_comm]
theorem pw_pos(k:Nat):0<pw k:=Nat.pow_pos (by omega)
theorem pw_add(a b:Nat):pw (a+b)=pw a*pw b:=Nat.pow_add _ _ _
theorem pw_le{a b:Nat}(h:a<=b):pw a<=pw b:=Nat.pow_le_pow_right (by omega) h
theorem pw_two(k:Nat):pw k=2 ^ (32*k):=by unfold pw;rw[Nat.pow_mul]
def upd1(f:Nat->Nat)(k x:Nat):Nat->Nat:=λi=>if i=k then x else f i
def fv(f:Nat->Nat):Nat->Nat
 |0=>0
 |n+1=>fv f n+f n*pw n
theorem fv_succ(f:Nat->Nat)(n:Nat):fv f (n+1)=fv f n+f n*pw n:=rfl
theorem upd1_self(f:Nat->Nat)(k x:Nat):upd1 f k x k=x:=if_pos rfl
theorem upd1_ne{f:Nat->Nat}{k x i:Nat}(h:i≠k):upd1 f k x i=f i:=if_neg h
def Lm(f:Nat->Nat)(n:Nat):Prop:=∀ i,i<n->f i<4294967296
theorem Lm.mono{f:Nat->Nat}{n m:Nat}(h:Lm f n)(hm:m<=n):Lm f m:=λi hi=>h i (by omega)
theorem Lm.upd{f:Nat->Nat}{n k x:Nat}(h:Lm f n)(hx:x<4294967296):Lm (upd1 f k x) n:=λi hi=>by
 unfold upd1;split
 ·exact hx
 ·exact h i hi
theorem fv_lt{f:Nat->Nat}:∀ {n:Nat},Lm f n->fv f n<pw n
 |0,_=>by simp[fv,pw]
 |n+1,h=>by
  have ih:=fv_lt (n:=n) (h.mono (by omega))
  have h1:=h n (by omega)
  have h2:f n*pw n<=4294967295*pw n:=Nat.mul_le_mul_right _ (by omega)
  have h3:=pw_succ n
  unfold fv
  omega
theorem fv_congr{f g:Nat->Nat}:∀ {n:Nat},(∀ i,i<n->f i=g i)->fv f n=fv g n
 |0,_=>rfl
 |n+1,h=>by
  unfold fv
  rw[fv_congr (n:=n) (λi hi=>h i (by omega)),h n (by omega)]
theorem fv_zero:∀ n:Nat,fv (λ_=>0) n=0
 |0=>rfl
 |n+1=>by unfold fv;rw[fv_zero n];simp
theorem fv_zeros{f:Nat->Nat}{n:Nat}(h:∀ i,i<n->f i=0):fv f n=0:=(fv_congr h).trans (fv_zero n)
theorem fv_add(f:Nat->Nat)(n:Nat):∀ m:Nat,fv f (n+m)=fv f n+pw n*fv (λi=>f (n+i)) m
 |0=>by simp[fv]
 |m+1=>by
  show fv f (n+m)+f (n+m)*pw (n+m)=_
  rw[fv_add f n m]
  show _=fv f n+pw n*(fv (λi=>f (n+i)) m+f (n+m)*pw m)
  rw[pw_add,Nat.mul_add,Nat.add_assoc,Nat.mul_left_comm (pw n)]
theorem fv_tail{f:Nat->Nat}{n m:Nat}(h:∀ i,n<=i->i<m->f i=0)(hn:n<=m):fv f m=fv f n:=by
 obtain⟨k,rfl⟩:∃ k,m=n+k:=⟨m-n,by omega⟩
 rw[fv_add,fv_zeros (n:=k) (λi hi=>h _ (by omega) (by omega))];simp
theorem fv_upd{f:Nat->Nat}{k x:Nat}:∀ {n:Nat},k<n->fv (upd1 f k x) n+f k*pw k=fv f n+x*pw k
 |0,h=>absurd h (Nat.not_lt_zero _)
 |n+1,h=>by
  unfold fv
  by_cases e:k=n
  ·subst e
   have h1:fv (upd1 f k x) k=fv f k:=fv_congr λi hi=>by unfold upd1;rw[if_neg (by omega)]
   have h2:upd1 f k x k=x:=by unfold upd1;rw[if_pos rfl]
   rw[h1,h2];omega
  ·have ih:=fv_upd (f:=f) (k:=k) (x:=x) (n:=n) (by omega)
   have h2:upd1 f k x n=f n:=by unfold upd1;rw[if_neg (by omega)]
   rw[h2];omega
theorem fv_upd_out{f:Nat->Nat}{k x n:Nat}(h:n<=k):fv (upd1 f k x) n=fv f n:=fv_congr λi hi=>by unfold upd1;rw[if_neg (by omega)]
def lim(v i:Nat):Nat:=v/pw i%4294967296
theorem lim_lt(v i:Nat):lim v i<4294967296:=Nat.mod_lt _ (by omega)
theorem lim_Lm(v n:Nat):Lm (lim v) n:=λi _=>lim_lt v i
theorem fv_lim(v:Nat):∀ n:Nat,fv (lim v) n=v%pw n
 |0=>by simp[fv,pw,Nat.mod_one]
 |n+1=>by
  unfold fv
  rw[fv_lim v n]
  unfold lim
  rw[pw_succ,Nat.mul_comm 4294967296 (pw n),Nat.mod_mul,Nat.mul_comm (pw n)]
theorem fv_lim_eq{v n:Nat}(h:v<pw n):fv (lim v) n=v:=by rw[fv_lim,Nat.mod_eq_of_lt h]
theorem lim_fv{f:Nat->Nat}{n i:Nat}(h:Lm f n)(hi:i<n):lim (fv f n) i=f i:=by
 obtain⟨k,rfl⟩:∃ k,n=i+1+k:=⟨n-(i+1),by omega⟩
 have h1:=fv_lt (h.mono (show i<=i+1+k by omega))
 have h2:=h i hi
 unfold lim
 rw[fv_add f (i+1) k]
 show (fv f i+f i*pw i+pw (i+1)*_)/pw i%_=_
 rw[pw_succ,Nat.mul_comm 4294967296 (pw i),Nat.mul_assoc,Nat.mul_comm (f i),Nat.add_assoc,← Nat.mul_add,Nat.add_mul_div_left _ _ (pw_pos i),Nat.div_eq_of_lt h1,Nat.zero_add,Nat.add_mul_mod_self_left,Nat.mod_eq_of_lt h2]
theorem lim_ge{v i:Nat}(h:v<pw i):lim v i=0:=by unfold lim;rw[Nat.div_eq_of_lt h]
def ln(v:Nat):Nat:=if v=0 then 0 else ln (v/4294967296)+1
termination_by v
decreasing_by omega
theorem ln_zero:ln 0=0:=by unfold ln;simp
theorem ln_le_iff(k:Nat):∀ v:Nat,ln v<=k ↔ v<pw k:=by
 induction k with
 |zero =>
  intro v
  unfold ln
  rw[pw_zero]
  split<;>omega
 |succ k ih =>
  intro v
  unfold ln
  have:=ih (v/4294967296)
  rw[pw_succ]
  split
  ·have:=pw_pos k;omega
  ·rw[Nat.add_le_add_iff_right,this,Nat.div_lt_iff_lt_mul (by omega),Nat.mul_comm]
theorem lt_pw_ln(v:Nat):v<pw (ln v):=(ln_le_iff _ v).1 (Nat.le_refl _)
theorem ln_mono{a b:Nat}(h:a<=b):ln a<=ln b:=(ln_le_iff _ _).2 (Nat.lt_of_le_of_lt h (lt_pw_ln b))
theorem lt_of_ln{a b:Nat}(h:ln a<ln b):a<b:=Nat.lt_of_not_le λhh=>by have:=ln_mono hh;omega
theorem pw_le_of_ln{v k:Nat}(h:k<ln v):pw k<=v:=Nat.le_of_not_lt λhh=>by have:=(ln_le_iff k v).2 hh;omega
theorem ln_eq{v k:Nat}(h1:pw k<=v)(h2:v<pw (k+1)):ln v=k+1:=by
 have a:=(ln_le_iff (k+1) v).2 h2
 have b:¬ ln v<=k:=λh=>by have:=(ln_le_iff k v).1 h;omega
 omega
theorem ln_pos{v:Nat}(h:v≠0):0<ln v:=Nat.pos_of_ne_zero λh0=>by
 have:=(ln_le_iff 0 v).1 (by omega)
 rw[pw_zero] at this;omega
theorem ln_eq_zero{v:Nat}:ln v=0 ↔ v=0:=⟨λh=>Nat.eq_zero_of_not_pos λhh=>by have:=ln_pos (v:=v) (by omega);omega,λh=>by rw[h,ln_zero]⟩
theorem top_ne{v:Nat}(h:0<ln v):lim v (ln v-1)≠0:=by
 have h1:=lt_pw_ln v
 have h2:=pw_le_of_ln (v:=v) (k:=ln v-1) (by omega)
 obtain⟨k,hk⟩:∃ k,ln v=k+1:=⟨ln v-1,by omega⟩
 rw[hk] at h1 h2 ⊢
 simp only[Nat.add_sub_cancel] at h2 ⊢
 unfold lim
 rw[pw_succ] at h1
 rw[Nat.mod_eq_of_lt (by rw[Nat.div_lt_iff_lt_mul (pw_pos k)];exact h1)]
 have:=Nat.div_pos h2 (pw_pos k)
 omega
theorem trim_ln{f:Nat->Nat}{n k:Nat}(hf:Lm f n)(hk:k<=n)(h0:∀ i,k<=i->i<n->f i=0)(ht:k=0\/f (k-1)≠0):ln (fv f n)=k:=by
 rw[fv_tail h0 hk]
 have h1:=fv_lt (hf.mono hk)
 rcases ht with rfl|ht
 ·simp[fv,ln_zero]
 ·obtain⟨j,rfl|rfl⟩:∃ j,k=0\/k=j+1:=⟨k-1,by omega⟩
  ·simp[fv,ln_zero]
  ·refine ln_eq ?_ h1
   simp only[Nat.add_sub_cancel] at ht
   unfold fv
   have:1*pw j<=f j*pw j:=Nat.mul_le_mul_right _ (by omega)
   omega
theorem fv_less{f g:Nat->Nat}{n i:Nat}(hf:Lm f n)(_hg:Lm g n)(hi:i<n)(h:∀ j,i<j->j<n->f j=g j)(hlt:f i<g i):fv f n<fv g n:=by
 obtain⟨k,rfl⟩:∃ k,n=i+1+k:=⟨n-(i+1),by omega⟩
 rw[fv_add f,fv_add g,fv_congr (f:=λj=>f (i+1+j)) (g:=λj=>g (i+1+j)) (λj hj=>h _ (by omega) (by omega))]
 have h1:=fv_lt (hf.mono (show i<=i+1+k by omega))
 have h2:(f i+1)*pw i<=g i*pw i:=Nat.mul_le_mul_right _ hlt
 rw[Nat.add_mul] at h2
 unfold fv
 omega
theorem plus_step{f a b:Nat->Nat}{i c s c' V:Nat}(h:fv f i+c*pw i=V)(hs:s+4294967296*c'=a i+b i+c)(hf:f i=s):fv f (i+1)+c'*pw (i+1)=V+a i*pw i+b i*pw i:=by
 have e:(s+4294967296*c')*pw i=(a i+b i+c)*pw i:=by rw[hs]
 simp only[Nat.add_mul] at e
 have e2:c'*pw (i+1)=4294967296*c'*pw i:=by rw[pw_succ,← Nat.mul_assoc,Nat.mul_comm c']
 unfold fv
 rw[hf,e2];omega
theorem minus_step{f a b:Nat->Nat}{i c s c':Nat}(h:fv f i+fv b i=fv a i+c*pw i)(hs:s+b i+c=a i+4294967296*c')(hf:f i=s):fv f (i+1)+fv b (i+1)=fv a (i+1)+c'*pw (i+1):=by
 have e:(s+b i+c)*pw i=(a i+4294967296*c')*pw i:=by rw[hs]
 simp only[Nat.add_mul] at e
 have e2:c'*pw (i+1)=4294967296*c'*pw i:=by rw[pw_succ,← Nat.mul_assoc,Nat.mul_comm c']
 unfold fv
 rw[hf,e2];omega
theorem row_step{o:Nat->Nat}{n i j x bj c t V:Nat}(hk:i+j<n)(h:fv o n+c*pw (i+j)=V)(ht:t=x*bj+o (i+j)+c) :
 fv (upd1 o (i+j) (t%4294967296)) n+t/4294967296*pw (i+j+1)=V+x*bj*pw (i+j):=by
 have h1:=fv_upd (f:=o) (k:=i+j) (x:=t%4294967296) hk
 have h2:t/4294967296*pw (i+j+1)=4294967296*(t/4294967296)*pw (i+j):=by rw[pw_succ,← Nat.mul_assoc,Nat.mul_comm (t/4294967296)]
 have h3:(t%4294967296+4294967296*(t/4294967296))*pw (i+j)=(x*bj+o (i+j)+c)*pw (i+j):=by rw[Nat.mod_add_div,ht]
 simp only[Nat.add_mul] at h3
 omega
theorem mul_bound{x y a c:Nat}(hx:x<4294967296)(hy:y<4294967296)(ha:a<4294967296)(hc:c<4294967296):x*y+a+c<18446744073709551616:=by
 have h1:x*y<=4294967295*y:=Nat.mul_le_mul_right _ (by omega)
 omega
theorem ln_mul_le(a b:Nat):ln (a*b)<=ln a+ln b:=(ln_le_iff _ _).2 (by rw[pw_add];exact Nat.mul_lt_mul'' (lt_pw_ln a) (lt_pw_ln b))
theorem ln_add_le(a b:Nat):ln (a+b)<=max (ln a) (ln b)+1:=(ln_le_iff _ _).2 (by
 have h1:=Nat.lt_of_lt_of_le (lt_pw_ln a) (pw_le (Nat.le_max_left (ln a) (ln b)))
 have h2:=Nat.lt_of_lt_of_le (lt_pw_ln b) (pw_le (Nat.le_max_right (ln a) (ln b)))
 rw[pw_succ];omega)
theorem ln_sub_le(a b:Nat):ln (a-b)<=ln a:=ln_mono (Nat.sub_le a b)
theorem ln_div_le(a b:Nat):ln (a/b)<=ln a:=ln_mono (Nat.div_le_self a b)
theorem lim_div_pw(v k i:Nat):lim (v/pw k) i=lim v (k+i):=by unfold lim;rw[pw_add,Nat.div_div_eq_div_mul]
theorem ln_div_pw{v k:Nat}:ln (v/pw k)=ln v-k:=by
 rcases Nat.lt_or_ge k (ln v) with h|h
 ·have h1:=lt_pw_ln v
  have h2:=pw_le_of_ln (v:=v) (k:=ln v-1) (by omega)
  obtain⟨j,hj⟩:∃ j,ln v=k+(j+1):=⟨ln v-k-1,by omega⟩
  rw[hj] at h1 h2 ⊢
  rw[pw_add] at h1
  rw[show k+(j+1)-1=k+j by omega,pw_add] at h2
  rw[show k+(j+1)-k=j+1 by omega]
  refine ln_eq ?_ ?_
  ·rw[Nat.le_div_iff_mul_le (pw_pos k),Nat.mul_comm];exact h2
  ·rw[Nat.div_lt_iff_lt_mul (pw_pos k),Nat.mul_comm];exact h1
 ·have h1:v<pw k:=(ln_le_iff k v).1 h
  rw[Nat.div_eq_of_lt h1,ln_zero];omega
theorem word_step{a w i t:Nat}(hw:0<w)(ht:t=a/pw (i+1)%w*4294967296+lim a i):lim (a/w) i=t/w/\t/w<4294967296/\t%w=a/pw i%w:=by
 have e:a/pw i=a/pw (i+1)*4294967296+lim a i:=by
  unfold lim
  rw[pw_succ,Nat.mul_comm 4294967296 (pw i),← Nat.div_div_eq_div_mul]
  have:=Nat.div_add_mod (a/pw i) 4294967296
  omega
 obtain⟨A,hA⟩:∃ A,a/pw (i+1)=A:=⟨_,rfl⟩
 rw[hA] at e ht
 have hl:=lim_lt a i
 obtain⟨x,hx⟩:∃ x,lim a i=x:=⟨_,rfl⟩
 rw[hx] at e ht hl
 have hr:=Nat.mod_lt A hw
 have hd:=Nat.div_add_mod A w
 have e2:a/pw i=w*(A/w*4294967296)+t:=by
  have:A*4294967296=(w*(A/w)+A%w)*4294967296:=by rw[hd]
  rw[Nat.add_mul,Nat.mul_assoc] at this
  omega
 have htw:t/w<4294967296:=by
  rw[Nat.div_lt_iff_lt_mul hw]
  have:(A%w+1)*4294967296<=w*4294967296:=Nat.mul_le_mul_right _ hr
  rw[Nat.mul_comm]
  omega
 refine⟨?_,htw,?_⟩
 ·show a/w/pw i%_=_
  rw[Nat.div_div_eq_div_mul,Nat.mul_comm w,← Nat.div_div_eq_div_mul,e2,Nat.mul_add_div hw,Nat.add_comm,Nat.add_mul_mod_self_right,Nat.mod_eq_of_lt htw]
 ·rw[e2,Nat.mul_add_mod]
theorem down_step{y i r:Nat}(hr:r<32):lim (y/2 ^ r) i=(lim y i+4294967296*lim y (i+1))/2 ^ r%4294967296:=by
 unfold lim
 rw[pw_succ,Nat.mul_comm 4294967296 (pw i),← Nat.div_div_eq_div_mul y (pw i),Nat.div_div_eq_div_mul y (2 ^ r),Nat.mul_comm (2 ^ r),← Nat.div_div_eq_div_mul]
 obtain⟨Y,hY⟩:∃ Y,y/pw i=Y:=⟨_,rfl⟩
 rw[hY,← Nat.mod_mul]
 have h32:4294967296*4294967296=2 ^ r*(4294967296*2 ^ (32-r)):=by
  rw[Nat.mul_left_comm,← Nat.pow_add,show r+(32-r)=32 by omega]
 rw[h32]
 have:=Nat.div_add_mod Y (2 ^ r*(4294967296*2 ^ (32-r)))
 obtain⟨M,hM⟩:∃ M,Y%(2 ^ r*(4294967296*2 ^ (32-r)))=M:=⟨_,rfl⟩
 obtain⟨D,hD⟩:∃ D,Y/(2 ^ r*(4294967296*2 ^ (32-r)))=D:=⟨_,rfl⟩
 rw[hM,hD] at this
 rw[hM,← this,Nat.mul_assoc (2 ^ r),Nat.mul_add_div (Nat.pow_pos (by omega)),Nat.mul_assoc 4294967296,Nat.mul_add_mod]
end
end
section
section
structure Gs(U V top u2 v1 v2 p:Nat):Prop where
 vlo:(v1*4294967296+v2)*p<=V
 vhi:V<(v1*4294967296+v2+1)*p
 ulo:(top*4294967296+u2)*p<=U
 uhi:U<(top*4294967296+u2+1)*p
 norm:2147483648<=v1
 v1lt:v1<4294967296
 v2lt:v2<4294967296
 u2lt:u2<4294967296
 small:U<V*4294967296
 ppos:0<p
section
variable{U V top u2 v1 v2 p g r:Nat}
theorem Gs.vpos(h:Gs U V top u2 v1 v2 p):0<V:=by
 have a:=h.vlo
 have hn:0<v1*4294967296+v2:=by have:=h.norm;omega
 obtain⟨D,hD⟩:∃ D,v1*4294967296+v2=D:=⟨_,rfl⟩
 rw[hD] at a hn
 exact Nat.lt_of_lt_of_le (Nat.mul_pos hn h.ppos) a
theorem Gs.qlt(h:Gs U V top u2 v1 v2 p):U/V<4294967296:=by
 rw[Nat.div_lt_iff_lt_mul h.vpos,Nat.mul_comm];exact h.small
theorem Gs.first(h:Gs U V top u2 v1 v2 p):U/V<=top/v1:=by
 have hv:0<v1:=by have:=h.norm;omega
 rw[Nat.le_div_iff_mul_le hv]
 obtain⟨q,hq⟩:∃ q,U/V=q:=⟨_,rfl⟩
 rw[hq]
 have h1:q*V<=U:=by rw[← hq];exact Nat.div_mul_le_self U V
 have h2:q*((v1*4294967296+v2)*p)<=q*V:=Nat.mul_le_mul_left q h.vlo
 have h3:=h.uhi
 have h6:=h.u2lt
 have e:q*(v1*4294967296+v2)=q*v1*4294967296+q*v2:=by rw[Nat.mul_add,← Nat.mul_assoc]
 have h8:top*4294967296+u2+1<=(top+1)*4294967296:=by omega
 obtain⟨D,hD⟩:∃ D,v1*4294967296+v2=D:=⟨_,rfl⟩
 obtain⟨E,hE⟩:∃ E,top*4294967296+u2+1=E:=⟨_,rfl⟩
 rw[hD] at h2 e
 rw[hE] at h3 h8
 have h4:q*D*p<E*p:=by rw[Nat.mul_assoc];omega
 have h5:=Nat.lt_of_mul_lt_mul_right h4
 have h7:q*v1*4294967296<(top+1)*4294967296:=by
  rw[e] at h5
  exact Nat.lt_of_le_of_lt (Nat.le_add_right _ _) (Nat.lt_of_lt_of_le h5 h8)
 have:=Nat.lt_of_mul_lt_mul_right h7
 omega
theorem Gs.down(h:Gs U V top u2 v1 v2 p)(hg:g*v1+r=top)(hbad:4294967296<=g\/r*4294967296+u2<g*v2):U/V<g:=by
 rcases hbad with hb|hb
 ·exact Nat.lt_of_lt_of_le h.qlt hb
 ·rw[Nat.div_lt_iff_lt_mul h.vpos]
  have h1:(top*4294967296+u2+1)*p<=g*(v1*4294967296+v2)*p:=by
   refine Nat.mul_le_mul_right p ?_
   rw[Nat.mul_add,← Nat.mul_assoc,← hg,Nat.add_mul];omega
  have h2:g*((v1*4294967296+v2)*p)<=g*V:=Nat.mul_le_mul_left g h.vlo
  have:=h.uhi
  rw[Nat.mul_assoc] at h1
  omega
theorem Gs.stands(h:Gs U V top u2 v1 v2 p)(hg:g*v1+r=top)(h1:g*v2<=r*4294967296+u2)(h2:g<4294967296):g<=U/V+1:=by
 have hp:=h.ppos
 have hvp:=h.vpos
 have a5:=h.ulo
 have a6:=h.vlo
 have a9:=h.vhi
 have hn:4294967296<=v1*4294967296+v2:=by have:=h.norm;omega
 have e:g*(v1*4294967296+v2)=g*v1*4294967296+g*v2:=by rw[Nat.mul_add,← Nat.mul_assoc]
 obtain⟨D,hD⟩:∃ D,v1*4294967296+v2=D:=⟨_,rfl⟩
 obtain⟨E,hE⟩:∃ E,top*4294967296+u2=E:=⟨_,rfl⟩
 rw[hD] at a6 a9 hn e
 rw[hE] at a5
 have e1:g*D<=E:=by rw[e,← hE,← hg,Nat.add_mul];omega
 have e2:g*D*p<=E*p:=Nat.mul_le_mul_right p e1
 have e3:g*V<=g*((D+1)*p):=Nat.mul_le_mul_left g (Nat.le_of_lt a9)
 have e4:g*((D+1)*p)=g*D*p+g*p:=by rw[Nat.add_mul,Nat.mul_add,Nat.one_mul,Nat.mul_assoc]
 have e5:(g+1)*p<=D*p:=Nat.mul_le_mul_right p (by omega)
 have e6:(g+1)*p=g*p+p:=by rw[Nat.add_mul,Nat.one_mul]
 have e7:g*V<U+V:=by omega
 have e8:=Nat.div_add_mod U V
 have e9:=Nat.mod_lt U hvp
 have f:g*V<(U/V+2)*V:=by rw[Nat.add_mul,Nat.mul_comm (U/V)];omega
 have:=Nat.lt_of_mul_lt_mul_right f
 omega
theorem Gs.passed(h:Gs U V top u2 v1 v2 p)(hg:g*v1+r=top)(h1:4294967296<=r)(h2:g<=4294967296):g<=U/V:=by
 rw[Nat.le_div_iff_mul_le h.vpos]
 have a1:g*V<=g*((v1*4294967296+v2+1)*p):=Nat.mul_le_mul_left g (Nat.le_of_lt h.vhi)
 have a0:g*(v2+1)<=4294967296*4294967296:=Nat.mul_le_mul h2 h.v2lt
 have e:g*(v1*4294967296+v2+1)=g*v1*4294967296+g*(v2+1):=by rw[Nat.add_assoc,Nat.mul_add,← Nat.mul_assoc]
 have a5:=h.ulo
 obtain⟨D,hD⟩:∃ D,v1*4294967296+v2+1=D:=⟨_,rfl⟩
 obtain⟨E,hE⟩:∃ E,top*4294967296+u2=E:=⟨_,rfl⟩
 rw[hD] at a1 e
 rw[hE] at a5
 have a2:g*D<=E:=by rw[e,← hE,← hg,Nat.add_mul];omega
 have a3:=Nat.mul_le_mul_right p a2
 rw[Nat.mul_assoc] at a3
 omega
theorem Gs.first_le(h:Gs U V top u2 v1 v2 p):top/v1<=4294967297:=by
 have hv:0<v1:=by have:=h.norm;omega
 have hn:=h.norm
 have a5:=h.ulo
 have a6:=h.vhi
 have a7:=h.small
 have h3:=h.v2lt
 have hs:v1*4294967296+v2+1<=(v1+1)*4294967296:=by omega
 have hs2:(v1+1)*4294967296<=v1*4294967298:=by omega
 obtain⟨D,hD⟩:∃ D,v1*4294967296+v2+1=D:=⟨_,rfl⟩
 obtain⟨E,hE⟩:∃ E,top*4294967296+u2=E:=⟨_,rfl⟩
 rw[hD] at a6 hs
 rw[hE] at a5
 have h1:E*p<D*4294967296*p:=by
  rw[Nat.mul_right_comm D];omega
 have h2:=Nat.lt_of_mul_lt_mul_right h1
 have h4:top<D:=by omega
 have h5:top<v1*4294967298:=by omega
 have:=(Nat.div_lt_iff_lt_mul hv).2 (by rw[Nat.mul_comm] at h5;exact h5)
 omega
end
theorem sub_step{f u v:Nat->Nat}{g i c b s b' t:Nat}(h:fv f i+g*fv v i=fv u i+(c+b)*pw i)(ht:t=g*v i+c)(hs:s+t%4294967296+b=u i+4294967296*b')(hf:f i=s) :
 fv f (i+1)+g*fv v (i+1)=fv u (i+1)+(t/4294967296+b')*pw (i+1):=by
 have e:(s+t%4294967296+b)*pw i=(u i+4294967296*b')*pw i:=by rw[hs]
 have e2:(t%4294967296+4294967296*(t/4294967296))*pw i=(g*v i+c)*pw i:=by rw[Nat.mod_add_div,ht]
 have e3:(t/4294967296+b')*pw (i+1)=4294967296*(t/4294967296)*pw i+4294967296*b'*pw i:=by
  rw[pw_succ,Nat.add_mul,Nat.mul_left_comm,Nat.mul_left_comm b',Nat.mul_assoc,Nat.mul_assoc]
 simp only[Nat.add_mul] at e e2 h
 unfold fv
 rw[hf,e3,Nat.mul_add,← Nat.mul_assoc g];omega
def iroot(n:Nat)(a:Nat):Nat->Nat
 |0=>0
 |k+1=>if (k+1) ^ n<=a then k+1 else iroot n a k
def root(n a:Nat):Nat:=iroot n a a
theorem iroot_le(n a:Nat)(hn:0<n):∀ k,(iroot n a k) ^ n<=a
 |0=>by unfold iroot;rw[Nat.zero_pow hn];exact Nat.zero_le _
 |k+1=>by
  unfold iroot
  split
  ·assumption
  ·exact iroot_le n a hn k
theorem le_iroot(n a:Nat):∀ k x,x<=k->x ^ n<=a->x<=iroot n a k
 |0,x,h,_=>by omega
 |k+1,x,h,hx=>by
  unfold iroot
  split
  ·exact h
  ·rename_i hh
   refine le_iroot n a k x ?_ hx
   rcases Nat.lt_or_ge x (k+1) with h1|h1
   ·omega
   ·exact absurd (by rwa [show x=k+1 by omega] at hx) hh
theorem root_le{n a:Nat}(hn:0<n):root n a ^ n<=a:=iroot_le n a hn a
theorem le_pow_self{x n:Nat}(hn:0<n):x<=x ^ n:=by
 rcases Nat.eq_zero_or_pos x with h|h
 ·omega
 ·have:=Nat.pow_le_pow_right h hn
  rwa [Nat.pow_one] at this
theorem le_root{n a x:Nat}(hn:0<n)(h:x ^ n<=a):x<=root n a:=le_iroot n a a x (Nat.le_trans (le_pow_self hn) h) h
theorem root_lt{n a x:Nat}(hn:0<n)(h:a<x ^ n):root n a<x:=by
 rcases Nat.lt_or_ge (root n a) x with h1|h1
 ·exact h1
 ·have:=Nat.pow_le_pow_left h1 n
  have:=root_le (a:=a) hn
  omega
theorem root_eq{n a r:Nat}(hn:0<n)(h1:r ^ n<=a)(h2:a<(r+1) ^ n):root n a=r:=by
 have a1:=le_root hn h1
 have a2:=root_lt hn h2
 omega
theorem root_one(a:Nat):root 1 a=a:=root_eq (by omega) (by simp) (by simp)
theorem root_zero{n:Nat}(hn:0<n):root n 0=0:=root_eq hn (by rw[Nat.zero_pow hn];exact Nat.le_refl _) (by simp)
theorem means(x r:Nat):∀ n,(n+1)*r*x ^ n<=n*x ^ (n+1)+r ^ (n+1)
 |0=>by simp
 |n+1=>by
  have ih:=Nat.mul_le_mul_right x (means x r n)
  have h2:x ^ (n+1)*r+r ^ (n+1)*x<=x ^ (n+1)*x+r ^ (n+1)*r:=by
   rcases Nat.le_total r x with h|h
   ·have h1:=Nat.pow_le_pow_left h (n+1)
    obtain⟨d,rfl⟩:∃ d,x=r+d:=⟨x-r,by omega⟩
    have:=Nat.mul_le_mul_right d h1
    rw[Nat.mul_add,Nat.mul_add];omega
   ·have h1:=Nat.pow_le_pow_left h (n+1)
    obtain⟨d,rfl⟩:∃ d,r=x+d:=⟨r-x,by omega⟩
    have:=Nat.mul_le_mul_right d h1
    rw[Nat.mul_add,Nat.mul_add];omega
  have e1:(n+1)*r*x ^ n*x=(n+1)*(x ^ (n+1)*r):=by rw[Nat.mul_assoc,Nat.mul_assoc,← Nat.pow_succ,Nat.mul_comm r]
  have e2:n*x ^ (n+1)*x=n*x ^ (n+1+1):=by rw[Nat.mul_assoc,← Nat.pow_succ]
  have e3:(n+1+1)*r*x ^ (n+1)=(n+1)*(x ^ (n+1)*r)+x ^ (n+1)*r:=by rw[Nat.mul_assoc,Nat.mul_comm r,Nat.add_mul (n+1) 1,Nat.one_mul]
  have e4:(n+1)*x ^ (n+1+1)=n*x ^ (n+1+1)+x ^ (n+1+1):=by rw[Nat.add_mul,Nat.one_mul]
  rw[e1,Nat.add_mul _ _ x,e2] at ih
  have h3:x ^ (n+1)*r+r ^ (n+1)*x<=x ^ (n+1+1)+r ^ (n+1+1):=h2
  rw[e3,e4]
  clear e3 e4 e1 e2 h2
  omega
theorem newton_ge{n a x:Nat}(hx:0<x):root (n+1) a<=(x*n+a/x ^ n)/(n+1):=by
 obtain⟨r,hr⟩:∃ r,root (n+1) a=r:=⟨_,rfl⟩
 have h1:r ^ (n+1)<=a:=by rw[← hr];exact root_le (by omega)
 rw[hr,Nat.le_div_iff_mul_le (by omega)]
 have hm:=means x r n
 have hp:0<x ^ n:=Nat.pow_pos hx
 rcases Nat.le_total (r*(n+1)) (x*n) with h|h
 ·exact Nat.le_trans h (Nat.le_add_right _ _)
 ·have h2:r*(n+1)-x*n<=a/x ^ n:=by
   rw[Nat.le_div_iff_mul_le hp,Nat.sub_mul]
   have e1:r*(n+1)*x ^ n=(n+1)*r*x ^ n:=by rw[Nat.mul_comm r]
   have e2:x*n*x ^ n=n*x ^ (n+1):=by rw[Nat.pow_succ,Nat.mul_comm x n,Nat.mul_assoc,Nat.mul_comm x]
   omega
  exact Nat.sub_le_iff_le_add'.1 h2
theorem newton_lt{n a x:Nat}(h:root (n+1) a<x):(x*n+a/x ^ n)/(n+1)<x:=by
 have h1:a<x ^ (n+1):=Nat.lt_of_not_le λhh=>by have:=le_root (n:=n+1) (by omega) hh;omega
 have hp:0<x ^ n:=Nat.pow_pos (by omega)
 have h2:a/x ^ n<x:=by rw[Nat.div_lt_iff_lt_mul hp,Nat.mul_comm,← Nat.pow_succ];exact h1
 rw[Nat.div_lt_iff_lt_mul (by omega),Nat.mul_add]
 omega
def bitsN(v:Nat):Nat:=if v=0 then 0 else Nat.log2 v+1
theorem bitsN_le_iff(v k:Nat):bitsN v<=k ↔ v<2 ^ k:=by
 unfold bitsN
 split
 ·rename_i h;subst h;simp[Nat.pow_pos]
 ·rename_i h
  rw[← Nat.log2_lt h];omega
theorem lt_two_bits(v:Nat):v<2 ^ bitsN v:=(bitsN_le_iff v _).1 (Nat.le_refl _)
theorem bitsN_eq{v k:Nat}(h1:2 ^ k<=v)(h2:v<2 ^ (k+1)):bitsN v=k+1:=by
 have a:=(bitsN_le_iff v (k+1)).2 h2
 have b:¬ bitsN v<=k:=λh=>by have:=(bitsN_le_iff v k).1 h;omega
 omega
theorem two_le_of_bits{v k:Nat}(h:k<bitsN v):2 ^ k<=v:=Nat.le_of_not_lt λhh=>by have:=(bitsN_le_iff v k).2 hh;omega
theorem bitsN_pos{v:Nat}(h:0<v):0<bitsN v:=Nat.pos_of_ne_zero λh0=>by
 have:=(bitsN_le_iff v 0).1 (by omega)
 simp at this;omega
theorem bitsN_top{v k:Nat}(hk:ln v=k+1):bitsN v=32*k+bitsN (lim v k):=by
 have h1:=lt_pw_ln v
 have h2:=pw_le_of_ln (v:=v) (k:=k) (by omega)
 rw[hk,pw_succ] at h1
 have hl:lim v k=v/pw k:=by
  unfold lim
  rw[Nat.mod_eq_of_lt (by rw[Nat.div_lt_iff_lt_mul (pw_pos k)];exact h1)]
 have hpos:0<v/pw k:=Nat.div_pos h2 (pw_pos k)
 rw[hl]
 obtain⟨j,hj⟩:∃ j,bitsN (v/pw k)=j+1:=⟨bitsN (v/pw k)-1,by have:=bitsN_pos hpos;omega⟩
 have a1:=two_le_of_bits (v:=v/pw k) (k:=j) (by omega)
 have a2:=lt_two_bits (v/pw k)
 rw[hj] at a2
 rw[hj,← Nat.add_assoc]
 refine bitsN_eq ?_ ?_
 ·rw[Nat.pow_add,← pw_two,Nat.mul_comm,← Nat.le_div_iff_mul_le (pw_pos k)];exact a1
 ·rw[Nat.add_assoc,Nat.pow_add,← pw_two,Nat.mul_comm,← Nat.div_lt_iff_lt_mul (pw_pos k)];exact a2
end
end
section
section
theorem pw_one:pw 1=4294967296:=by unfold pw;rw[Nat.pow_one]
theorem gs_of{u v:Nat->Nat}{m:Nat}(hu:Lm u (m+3))(hv:Lm v (m+2))(hn:2147483648<=v (m+1))(hs:fv u (m+3)<fv v (m+2)*4294967296) :
 Gs (fv u (m+3)) (fv v (m+2)) (u (m+2)*4294967296+u (m+1)) (u m) (v (m+1)) (v m) (pw m):=by
 have a1:=fv_lt (hu.mono (show m<=m+3 by omega))
 have a2:=fv_lt (hv.mono (show m<=m+2 by omega))
 have e1:fv v (m+2)=fv v m+(v (m+1)*4294967296+v m)*pw m:=by
  show fv v m+v m*pw m+v (m+1)*pw (m+1)=_
  rw[pw_succ,Nat.add_mul,← Nat.mul_assoc];omega
 have e2:fv u (m+3)=fv u m+((u (m+2)*4294967296+u (m+1))*4294967296+u m)*pw m:=by
  show fv u m+u m*pw m+u (m+1)*pw (m+1)+u (m+2)*pw (m+1+1)=_
  rw[pw_succ (m+1),pw_succ,Nat.add_mul,Nat.add_mul,Nat.add_mul,← Nat.mul_assoc,← Nat.mul_assoc,← Nat.mul_assoc];omega
 exact {
  vlo:=by rw[e1];omega
  vhi:=by rw[e1,Nat.add_mul _ 1,Nat.one_mul];omega
  ulo:=by rw[e2];omega
  uhi:=by rw[e2,Nat.add_mul _ 1,Nat.one_mul];omega
  norm:=hn
  v1lt:=hv _ (by omega)
  v2lt:=hv _ (by omega)
  u2lt:=hu _ (by omega)
  small:=hs
  ppos:=pw_pos m }
theorem sub_last{f u:Nat->Nat}{n gV c b s b':Nat}(h:fv f n+gV=fv u n+(c+b)*pw n)(hs:s+c+b=u n+4294967296*b')(hf:f n=s):fv f (n+1)+gV=fv u (n+1)+b'*pw (n+1):=by
 have e:(s+c+b)*pw n=(u n+4294967296*b')*pw n:=by rw[hs]
 have e3:b'*pw (n+1)=4294967296*b'*pw n:=by rw[pw_succ,← Nat.mul_assoc,Nat.mul_comm b']
 simp only[Nat.add_mul] at e h
 unfold fv
 rw[hf,e3];omega
theorem dig_fine{F g U V:Nat}(hV:0<V)(h:F+g*V=U)(hg:U/V<=g):g=U/V/\F=U%V:=by
 have h1:g<=U/V:=(Nat.le_div_iff_mul_le hV).2 (by omega)
 obtain rfl:g=U/V:=by omega
 refine⟨rfl,?_⟩
 have:=Nat.div_add_mod U V
 rw[Nat.mul_comm] at this
 omega
theorem dig_over{F g U V P:Nat}(hV:0<V)(h:F+g*V=U+P)(hF:F<P)(hg:g<=U/V+1):g=U/V+1/\F+V=U%V+P:=by
 have h1:U/V<g:=(Nat.div_lt_iff_lt_mul hV).2 (by omega)
 obtain rfl:g=U/V+1:=by omega
 refine⟨rfl,?_⟩
 have:=Nat.div_add_mod U V
 rw[Nat.add_mul,Nat.one_mul,Nat.mul_comm (U/V)] at h
 omega
theorem one_way{a x R P:Nat}(h:a*P+x=4294967296*P+R)(hx:x<P)(hR:R<P):a=4294967296/\x=R:=by
 have h1:(a*P+x)/P=a:=by rw[Nat.mul_comm,Nat.mul_add_div (by omega),Nat.div_eq_of_lt hx,Nat.add_zero]
 have h2:(4294967296*P+R)/P=4294967296:=by rw[Nat.mul_comm,Nat.mul_add_div (by omega),Nat.div_eq_of_lt hR,Nat.add_zero]
 rw[h] at h1
 have e:a=4294967296:=by rw[← h1,h2]
 subst e
 exact⟨rfl,by omega⟩
theorem back_last{f f2:Nat->Nat}{n over V R:Nat}(h2:Lm f2 n)(h:fv f2 n+over*pw n=fv f n+V)(hF:fv f (n+1)+V=R+pw (n+1))(hR:R<pw n)(hl:f2 n=(f n+over)%4294967296):fv f2 (n+1)=R:=by
 have a:=fv_lt h2
 have e:fv f (n+1)=fv f n+f n*pw n:=rfl
 rw[e,pw_succ] at hF
 have e2:(f n+over)*pw n+fv f2 n=4294967296*pw n+R:=by rw[Nat.add_mul];omega
 obtain⟨e3,e4⟩:=one_way e2 a hR
 show fv f2 n+f2 n*pw n=R
 rw[hl,e3,e4];simp
theorem win_val{f:Nat->Nat}{U V k n M:Nat}(hf:f k=lim U k)(hM:n<=M)(hV:V<pw n)(hV0:0<V)(h:fv (λi=>f (k+1+i)) M=U/pw (k+1)%V) :
 fv (λi=>f (k+i)) (n+1)=U/pw (k+1)%V*4294967296+lim U k/\fv (λi=>f (k+1+n+i)) (M-n)=0:=by
 have hR:U/pw (k+1)%V<pw n:=Nat.lt_trans (Nat.mod_lt _ hV0) hV
 obtain⟨R,hRe⟩:∃ R,U/pw (k+1)%V=R:=⟨_,rfl⟩
 rw[hRe] at h hR ⊢
 obtain⟨d,rfl⟩:∃ d,M=n+d:=⟨M-n,by omega⟩
 rw[fv_add] at h
 have h0:fv (λi=>f (k+1+(n+i))) d=0:=Nat.eq_zero_of_not_pos λhp=>by
  have:pw n*1<=pw n*fv (λi=>f (k+1+(n+i))) d:=Nat.mul_le_mul_left _ hp
  omega
 rw[h0,Nat.mul_zero,Nat.add_zero] at h
 refine⟨?_,?_⟩
 ·rw[Nat.add_comm n 1,fv_add,show fv (λi=>f (k+i)) 1=f k by simp[fv,pw_zero],hf,pw_one]
  rw[fv_congr (g:=λi=>f (k+1+i)) (λi _=>by rw[Nat.add_assoc]),h];exact Nat.add_comm _ _ |>.trans (by rw[Nat.mul_comm])
 ·rw[show n+d-n=d by omega]
  rw[← h0]
  exact fv_congr λi _=>by rw[Nat.add_assoc (k+1)]
theorem win_next{f f':Nat->Nat}{k n M X:Nat}(hM:n<=M)(h1:fv (λi=>f' (k+i)) (n+1)=X)(h2:∀ i,k+n<i->f' i=f i)(h0:fv (λi=>f (k+1+n+i)) (M-n)=0):fv (λi=>f' (k+i)) (M+1)=X:=by
 obtain⟨d,rfl⟩:∃ d,M=n+d:=⟨M-n,by omega⟩
 have e:n+d-n=d:=by omega
 rw[e] at h0
 have e2:n+d+1=(n+1)+d:=by omega
 rw[e2,fv_add,h1]
 have e3:fv (λi=>f' (k+(n+1+i))) d=fv (λi=>f (k+1+n+i)) d:=fv_congr λi _=>by
  have e4:k+(n+1+i)=k+1+n+i:=by omega
  show f' (k+(n+1+i))=f (k+1+n+i)
  rw[h2 _ (by omega),e4]
 rw[e3,h0,Nat.mul_zero,Nat.add_zero]
theorem digit_step{U V i t:Nat}(hV:0<V)(ht:t=U/pw (i+1)%V*4294967296+lim U i):lim (U/V) i=t/V/\t/V<4294967296/\t%V=U/pw i%V/\t<V*4294967296:=by
 have h:=word_step hV ht
 refine⟨h.1,h.2.1,h.2.2,?_⟩
 have h1:=Nat.mod_lt (U/pw (i+1)) hV
 have h2:=lim_lt U i
 rw[ht]
 have:(U/pw (i+1)%V+1)*4294967296<=V*4294967296:=Nat.mul_le_mul_right _ h1
 omega
theorem shl_div(a b s:Nat):a*2 ^ s/(b*2 ^ s)=a/b:=Nat.mul_div_mul_right _ _ (Nat.pow_pos (by omega))
theorem shl_mod(a b s:Nat):a*2 ^ s%(b*2 ^ s)=a%b*2 ^ s:=Nat.mul_mod_mul_right _ _ _
theorem norm_top{b n s:Nat}(hb:ln b=n+1)(hs:s=32-bitsN (lim b n)):s<=31/\b*2 ^ s<pw (n+1)/\2147483648*pw n<=b*2 ^ s:=by
 have h1:=lt_pw_ln b
 have h2:=pw_le_of_ln (v:=b) (k:=n) (by omega)
 rw[hb,pw_succ] at h1
 have hl:lim b n=b/pw n:=by
  unfold lim
  rw[Nat.mod_eq_of_lt (by rw[Nat.div_lt_iff_lt_mul (pw_pos n)];exact h1)]
 have hd:0<b/pw n:=Nat.div_pos h2 (pw_pos n)
 rw[hl] at hs
 have hlt:b/pw n<2 ^ 32:=by rw[Nat.div_lt_iff_lt_mul (pw_pos n)];exact h1
 have c1:=(bitsN_le_iff (b/pw n) 32).2 hlt
 have c2:=bitsN_pos hd
 obtain⟨j,hj⟩:∃ j,bitsN (b/pw n)=j+1:=⟨bitsN (b/pw n)-1,by omega⟩
 have a1:=two_le_of_bits (v:=b/pw n) (k:=j) (by omega)
 have a2:=lt_two_bits (b/pw n)
 rw[hj] at a2 hs c1
 refine⟨by omega,?_,?_⟩
 ·have:b<2 ^ (j+1)*pw n:=by rw[← Nat.div_lt_iff_lt_mul (pw_pos n)];exact a2
  have h3:=Nat.mul_lt_mul_of_pos_right this (show 0<2 ^ s from Nat.pow_pos (by omega))
  refine Nat.lt_of_lt_of_le h3 (Nat.le_of_eq ?_)
  rw[Nat.mul_right_comm,← Nat.pow_add,show j+1+s=32 by omega,pw_succ]
 ·have:2 ^ j*pw n<=b:=by rw[← Nat.le_div_iff_mul_le (pw_pos n)];exact a1
  have h3:=Nat.mul_le_mul_right (2 ^ s) this
  refine Nat.le_trans (Nat.le_of_eq ?_) h3
  rw[Nat.mul_right_comm,← Nat.pow_add,show j+s=31 by omega]
theorem top_of{v n:Nat}(h1:v<pw (n+1))(h2:2147483648*pw n<=v):2147483648<=lim v n/\ln v=n+1:=by
 have hp:=pw_pos n
 refine⟨?_,ln_eq (by omega) h1⟩
 rw[pw_succ] at h1
 unfold lim
 rw[Nat.mod_eq_of_lt (by rw[Nat.div_lt_iff_lt_mul hp];exact h1),Nat.le_div_iff_mul_le hp]
 exact h2
theorem start_small{a b s n m:Nat}(ha:a<pw m)(hs:s<=31)(hnm:n+1<=m)(h2:2147483648*pw n<=b):a*2 ^ s/pw (m-n)<b:=by
 rw[Nat.div_lt_iff_lt_mul (pw_pos _)]
 have h31:2 ^ s<=2 ^ 31:=Nat.pow_le_pow_right (by omega) hs
 have e:pw m=pw n*pw (m-n):=by rw[← pw_add];congr 1;omega
 have h3:a*2 ^ s<pw m*2 ^ s:=Nat.mul_lt_mul_of_pos_right ha (Nat.pow_pos (by omega))
 have h4:pw m*2 ^ s<=pw m*2147483648:=Nat.mul_le_mul_left _ h31
 have h5:=Nat.mul_le_mul_right (pw (m-n)) h2
 rw[Nat.mul_assoc,← e,Nat.mul_comm] at h5
 omega
theorem quot_small{a b n m:Nat}(ha:a<pw m)(hnm:n+1<=m)(h2:pw n<=b):a/b<pw (m-n):=by
 rw[Nat.div_lt_iff_lt_mul (Nat.lt_of_lt_of_le (pw_pos n) h2)]
 have e:pw m=pw (m-n)*pw n:=by rw[← pw_add];congr 1;omega
 have:=Nat.mul_le_mul_left (pw (m-n)) h2
 omega
end
end
section
section
structure Tn where
 two:Int
 three:Int
 five:Int
 den:Int
def g4(a b c d:Int):Nat:=Nat.gcd (Nat.gcd (Nat.gcd a.natAbs b.natAbs) c.natAbs) d.natAbs
def qd(a:Int)(g:Nat):Int:=if a<0 then -((a.natAbs/g:Nat):Int) else ((a.natAbs/g:Nat):Int)
structure Tn.Ok(t:Tn):Prop where
 one:g4 t.two t.three t.five t.den=1
 lo:1<=t.den
 hi:t.den<=24
 two:t.two.natAbs<=960
 three:t.three.natAbs<=960
 five:t.five.natAbs<=960
def Tn.okB(t:Tn):Bool:=decide (g4 t.two t.three t.five t.den=1)&&decide (1<=t.den)&&decide (t.den<=24)&&decide (t.two.natAbs<=960/\t.three.natAbs<=960/\t.five.natAbs<=960)
theorem okB_iff(t:Tn):t.okB=true ↔ t.Ok:=by
 unfold Tn.okB
 simp only[Bool.and_eq_true,decide_eq_true_eq]
 exact⟨λ⟨⟨⟨a,b⟩,c⟩,d,e,f⟩=>⟨a,b,c,d,e,f⟩,λh=>⟨⟨⟨h.one,h.lo⟩,h.hi⟩,h.two,h.three,h.five⟩⟩
def redV(a b c d:Int):Tn:=⟨qd a (g4 a b c d),qd b (g4 a b c d),qd c (g4 a b c d),qd d (g4 a b c d)⟩
def redT(a b c d:Int):Option Tn:=if (redV a b c d).okB then some (redV a b c d) else none
theorem qd_mul{a:Int}{g k:Nat}(hk:0<k):qd ((k:Int)*a) (k*g)=qd a g:=by
 have e:((k:Int)*a).natAbs=k*a.natAbs:=by rw[Int.natAbs_mul,Int.natAbs_natCast]
 have s:((k:Int)*a<0)=(a<0):=by
  refine propext ⟨λh=>?_,λh=>Int.mul_neg_of_pos_of_neg (by omega) h⟩
  refine Int.lt_of_not_ge λh2=>?_
  have:=Int.mul_nonneg (show (0:Int)<=(k:Int) by omega) h2
  omega
 unfold qd
 simp only[s]
 rw[e,Nat.mul_div_mul_left _ _ hk]
theorem g4_mul(k:Nat)(a b c d:Int):g4 ((k:Int)*a) ((k:Int)*b) ((k:Int)*c) ((k:Int)*d)=k*g4 a b c d:=by
 unfold g4
 rw[Int.natAbs_mul,Int.natAbs_mul,Int.natAbs_mul,Int.natAbs_mul,Int.natAbs_natCast,Nat.gcd_mul_left,Nat.gcd_mul_left,Nat.gcd_mul_left]
theorem redT_mul{k:Nat}(hk:0<k)(a b c d:Int):redT ((k:Int)*a) ((k:Int)*b) ((k:Int)*c) ((k:Int)*d)=redT a b c d:=by
 have e:redV ((k:Int)*a) ((k:Int)*b) ((k:Int)*c) ((k:Int)*d)=redV a b c d:=by
  unfold redV
  rw[g4_mul,qd_mul hk,qd_mul hk,qd_mul hk,qd_mul hk]
 unfold redT
 rw[e]
theorem redT_ok{a b c d:Int}{t:Tn}(h:redT a b c d=some t):t.Ok/\t=redV a b c d:=by
 unfold redT at h
 split at h
 ·rename_i hk
  injection h with h
  subst h
  exact⟨(okB_iff _).1 hk,rfl⟩
 ·cases h
theorem qd_spec{a:Int}{g:Nat}(h:g ∣ a.natAbs):(g:Int)*qd a g=a:=by
 obtain⟨k,hk⟩:=h
 unfold qd
 rcases Nat.eq_zero_or_pos g with h0|h0
 ·subst h0
  rw[Nat.zero_mul] at hk
  have:a=0:=by omega
  subst this
  simp
 ·rw[hk,Nat.mul_div_cancel_left _ h0]
  split
  ·rw[Int.mul_neg,← Int.natCast_mul,← hk];omega
  ·rw[← Int.natCast_mul,← hk];omega
theorem g4_dvd(a b c d:Int):g4 a b c d ∣ a.natAbs/\g4 a b c d ∣ b.natAbs/\g4 a b c d ∣ c.natAbs/\g4 a b c d ∣ d.natAbs:=by
 have h1:g4 a b c d ∣ Nat.gcd (Nat.gcd a.natAbs b.natAbs) c.natAbs:=Nat.gcd_dvd_left _ _
 have h2:g4 a b c d ∣ Nat.gcd a.natAbs b.natAbs:=Nat.dvd_trans h1 (Nat.gcd_dvd_left _ _)
 exact⟨Nat.dvd_trans h2 (Nat.gcd_dvd_left _ _),Nat.dvd_trans h2 (Nat.gcd_dvd_right _ _),Nat.dvd_trans h1 (Nat.gcd_dvd_right _ _),Nat.gcd_dvd_right _ _⟩
theorem g4_pos{a b c d:Int}(hd:0<d):0<g4 a b c d:=Nat.gcd_pos_of_pos_right _ (by omega)
theorem redV_spec(a b c d:Int):a=(g4 a b c d:Int)*(redV a b c d).two/\b=(g4 a b c d:Int)*(redV a b c d).three/\c=(g4 a b c d:Int)*(redV a b c d).five/\d=(g4 a b c d:Int)*(redV a b c d).den:=by
 have h:=g4_dvd a b c d
 exact⟨(qd_spec h.1).symm,(qd_spec h.2.1).symm,(qd_spec h.2.2.1).symm,(qd_spec h.2.2.2).symm⟩
def ov(a b c:Int):Nat:=2 ^ a.toNat*3 ^ b.toNat*5 ^ c.toNat
def un(a b c:Int):Nat:=2 ^ (-a).toNat*3 ^ (-b).toNat*5 ^ (-c).toNat
theorem ov_pos(a b c:Int):0<ov a b c:=Nat.mul_pos (Nat.mul_pos (Nat.pow_pos (by omega)) (Nat.pow_pos (by omega))) (Nat.pow_pos (by omega))
theorem un_pos(a b c:Int):0<un a b c:=ov_pos (-a) (-b) (-c)
def le2(k:Int)(o u:Nat):Prop:=u*2 ^ k.toNat<=o*2 ^ (-k).toNat
theorem le2_shift{k:Int}{o u n m:Nat}(h:(m:Int)=k+n):le2 k o u ↔ u*2 ^ m<=o*2 ^ n:=by
 unfold le2
 rcases Int.le_total 0 k with hk|hk
 ·have e1:(-k).toNat=0:=by omega
  have e2:m=k.toNat+n:=by omega
  rw[e1,e2,Nat.pow_add,← Nat.mul_assoc,Nat.pow_zero,Nat.mul_one]
  exact⟨λh=>Nat.mul_le_mul_right _ h,λh=>Nat.le_of_mul_le_mul_right h (Nat.pow_pos (by omega))⟩
 ·have e1:k.toNat=0:=by omega
  have e2:n=(-k).toNat+m:=by omega
  rw[e1,e2,Nat.pow_add,← Nat.mul_assoc,Nat.pow_zero,Nat.mul_one]
  exact⟨λh=>Nat.mul_le_mul_right _ h,λh=>Nat.le_of_mul_le_mul_right h (Nat.pow_pos (by omega))⟩
theorem le2_mono{j k:Int}{o u:Nat}(h:le2 k o u)(hj:j<=k):le2 j o u:=by
 have a:=(le2_shift (k:=k) (o:=o) (u:=u) (n:=j.natAbs+k.natAbs) (m:=(k+(j.natAbs+k.natAbs:Nat)).toNat) (by omega)).1 h
 refine (le2_shift (k:=j) (n:=j.natAbs+k.natAbs) (m:=(j+(j.natAbs+k.natAbs:Nat)).toNat) (by omega)).2 (Nat.le_trans (Nat.mul_le_mul_left u ?_) a)
 exact Nat.pow_le_pow_right (by omega) (by omega)
instance (k:Int) (o u:Nat):Decidable (le2 k o u):=by unfold le2;infer_instance
def flr(o u:Nat):Int:=if le2 ((bitsN o:Int)-bitsN u) o u then (bitsN o:Int)-bitsN u else (bitsN o:Int)-bitsN u-1
theorem flr_spec{o u:Nat}(ho:0<o)(hu:0<u):le2 (flr o u) o u/\¬ le2 (flr o u+1) o u:=by
 obtain⟨B,hB⟩:∃ B,bitsN o=B+1:=⟨bitsN o-1,by have:=bitsN_pos ho;omega⟩
 obtain⟨C,hC⟩:∃ C,bitsN u=C+1:=⟨bitsN u-1,by have:=bitsN_pos hu;omega⟩
 have o1:=two_le_of_bits (v:=o) (k:=B) (by omega)
 have o2:=lt_two_bits o
 have u1:=two_le_of_bits (v:=u) (k:=C) (by omega)
 have u2:=lt_two_bits u
 rw[hB] at o2
 rw[hC] at u2
 have hup:¬ le2 ((B+1:Nat)-(C+1:Nat)+1:Int) o u:=λh=>by
  have a:=(le2_shift (n:=C) (m:=B+1) (by omega)).1 h
  have b:2 ^ C*2 ^ (B+1)<=u*2 ^ (B+1):=Nat.mul_le_mul_right _ u1
  have c:o*2 ^ C<2 ^ (B+1)*2 ^ C:=Nat.mul_lt_mul_of_pos_right o2 (Nat.pow_pos (by omega))
  rw[Nat.mul_comm] at b
  omega
 have hdn:le2 ((B+1:Nat)-(C+1:Nat)-1:Int) o u:=by
  refine (le2_shift (n:=C+1) (m:=B) (by omega)).2 ?_
  have b:u*2 ^ B<=2 ^ (C+1)*2 ^ B:=Nat.mul_le_mul_right _ (Nat.le_of_lt u2)
  have c:2 ^ B*2 ^ (C+1)<=o*2 ^ (C+1):=Nat.mul_le_mul_right _ o1
  rw[Nat.mul_comm (2 ^ (C+1))] at b
  omega
 unfold flr
 rw[hB,hC]
 split
 ·exact⟨by assumption,hup⟩
 ·rename_i h
  refine⟨hdn,?_⟩
  rw[show ((B+1:Nat):Int)-(C+1:Nat)-1+1=(B+1:Nat)-(C+1:Nat) by omega]
  exact h
theorem le2_iff{k:Int}{o u:Nat}(ho:0<o)(hu:0<u):le2 k o u ↔ k<=flr o u:=by
 have h:=flr_spec ho hu
 refine⟨λhk=>Int.le_of_not_gt λhlt=>h.2 (le2_mono hk (by omega)),λhk=>le2_mono h.1 hk⟩
theorem fdiv_eq{k m d:Int}(hd:0<d)(h1:m*d<=k)(h2:k<(m+1)*d):k/d=m:=by
 have a:m<=k/d:=(Int.le_ediv_iff_mul_le hd).2 h1
 have b:k/d<m+1:=(Int.ediv_lt_iff_lt_mul hd).2 h2
 omega
theorem ediv_bounds(k:Int){d:Int}(hd:0<d):k/d*d<=k/\k<(k/d+1)*d:=by
 have:=Int.mul_ediv_add_emod k d
 have h2:=Int.emod_nonneg k (show d≠0 by omega)
 have h3:=Int.emod_lt_of_pos k hd
 rw[Int.add_mul,Int.one_mul,Int.mul_comm (k/d)]
 omega
theorem le2_two{k a:Int}{p q r s x y:Nat}(h1:(p:Int)-q=a-k)(h2:(r:Int)-s=a):le2 k (2 ^ r*y) (2 ^ s*x) ↔ 2 ^ q*x<=2 ^ p*y:=by
 obtain⟨n,hn⟩:∃ n:Nat,n=p+q+k.natAbs+s:=⟨_,rfl⟩
 obtain⟨m,hm⟩:∃ m:Nat,(m:Int)=k+n:=⟨(k+n).toNat,by omega⟩
 obtain⟨e,he⟩:∃ e:Nat,r+n=p+e:=⟨r+n-p,by omega⟩
 have he2:s+m=q+e:=by omega
 rw[le2_shift hm]
 have f1:2 ^ s*x*2 ^ m=2 ^ e*(2 ^ q*x):=by
  rw[Nat.mul_right_comm,← Nat.pow_add,he2,Nat.pow_add];ac_rfl
 have f2:2 ^ r*y*2 ^ n=2 ^ e*(2 ^ p*y):=by
  rw[Nat.mul_right_comm,← Nat.pow_add,he,Nat.pow_add];ac_rfl
 rw[f1,f2]
 exact⟨λh=>Nat.le_of_mul_le_mul_left h (Nat.pow_pos (by omega)),λh=>Nat.mul_le_mul_left _ h⟩
theorem le2_move(k a b c:Int):le2 k (ov a b c) (un a b c) ↔ un (a-k) b c<=ov (a-k) b c:=by
 unfold ov un
 rw[Nat.mul_assoc,Nat.mul_assoc,Nat.mul_assoc,Nat.mul_assoc]
 exact le2_two (a:=a) (by omega) (by omega)
theorem pow_nat(b:Nat)(k:Nat)(a:Int):b ^ ((k:Int)*a).toNat=(b ^ a.toNat) ^ k:=by
 rw[← Nat.pow_mul]
 congr 1
 rcases Int.le_total 0 a with h|h
 ·obtain⟨n,rfl⟩:=Int.eq_ofNat_of_zero_le h
  rw[← Int.natCast_mul,Int.toNat_natCast,Int.toNat_natCast,Nat.mul_comm]
 ·have h1:(k:Int)*a<=0:=Int.mul_nonpos_of_nonneg_of_nonpos (by omega) h
  rw[show ((k:Int)*a).toNat=0 by omega,show a.toNat=0 by omega,Nat.zero_mul]
theorem ov_mul(k:Nat)(a b c:Int):ov ((k:Int)*a) ((k:Int)*b) ((k:Int)*c)=ov a b c ^ k:=by
 unfold ov
 rw[pow_nat,pow_nat,pow_nat,← Nat.mul_pow,← Nat.mul_pow]
theorem un_mul(k:Nat)(a b c:Int):un ((k:Int)*a) ((k:Int)*b) ((k:Int)*c)=un a b c ^ k:=by
 have h:=ov_mul k (-a) (-b) (-c)
 rw[Int.mul_neg,Int.mul_neg,Int.mul_neg] at h
 exact h
theorem pow_le_iff{x y k:Nat}(hk:0<k):x ^ k<=y ^ k ↔ x<=y:=⟨λh=>Nat.le_of_not_lt λhlt=>by
 have:=Nat.pow_lt_pow_left hlt (show k≠0 by omega)
 omega,λh=>Nat.pow_le_pow_left h k⟩
theorem ge_mul{k:Nat}(hk:0<k)(a b c:Int):un ((k:Int)*a) ((k:Int)*b) ((k:Int)*c)<=ov ((k:Int)*a) ((k:Int)*b) ((k:Int)*c) ↔ un a b c<=ov a b c:=by
 rw[un_mul,ov_mul,pow_le_iff hk]
def Tn.oct(t:Tn):Int:=flr (ov t.two t.three t.five) (un t.two t.three t.five)/t.den
def Tn.rest(t:Tn):Option Tn:=redT (t.two-t.oct*t.den) t.three t.five t.den
def Tn.In(t:Tn):Prop:=un t.two t.three t.five<=ov t.two t.three t.five/\¬ un (t.two-t.den) t.three t.five<=ov (t.two-t.den) t.three t.five
theorem rest_in{t u:Tn}(hd:0<t.den)(h:t.rest=some u):u.In/\u.Ok:=by
 obtain⟨hok,hu⟩:=redT_ok h
 have hs:=redV_spec (t.two-t.oct*t.den) t.three t.five t.den
 have hg:=g4_pos (a:=t.two-t.oct*t.den) (b:=t.three) (c:=t.five) hd
 rw[← hu] at hs
 obtain⟨g,hge⟩:∃ g,g4 (t.two-t.oct*t.den) t.three t.five t.den=g:=⟨_,rfl⟩
 rw[hge] at hs hg
 have hb:=ediv_bounds (flr (ov t.two t.three t.five) (un t.two t.three t.five)) hd
 have h1:=(le2_move _ _ _ _).1 ((le2_iff (ov_pos t.two t.three t.five) (un_pos t.two t.three t.five)).2 hb.1)
 have h2:¬ un (t.two-(t.oct+1)*t.den) t.three t.five<=ov (t.two-(t.oct+1)*t.den) t.three t.five:=λhh=>by
  have:=(le2_iff (ov_pos t.two t.three t.five) (un_pos t.two t.three t.five)).1 ((le2_move ((t.oct+1)*t.den) t.two t.three t.five).2 hh)
  have h3:=hb.2
  unfold Tn.oct at this
  omega
 refine⟨⟨?_,?_⟩,hok⟩
 ·have e:un (t.two-t.oct*t.den) t.three t.five<=ov (t.two-t.oct*t.den) t.three t.five:=h1
  rw[hs.1,hs.2.1,hs.2.2.1,ge_mul hg] at e
  exact e
 ·intro hh
  refine h2 ?_
  rw[← ge_mul hg] at hh
  have e:(g:Int)*(u.two-u.den)=t.two-(t.oct+1)*t.den:=by
   rw[Int.mul_sub,← hs.1,← hs.2.2.2,Int.add_mul,Int.one_mul];omega
  rw[e,← hs.2.1,← hs.2.2.1] at hh
  exact hh
def Tn.freqN(base:Nat)(t:Tn):Nat:=root t.den.toNat (base ^ t.den.toNat*ov t.two t.three t.five/un t.two t.three t.five)
theorem freq_in{base:Nat}{t:Tn}(hd:0<t.den)(h:t.In)(hb:0<base):base<=t.freqN base/\t.freqN base<2*base:=by
 obtain⟨d,hde⟩:∃ d:Nat,t.den=d:=⟨t.den.toNat,by omega⟩
 have hd0:0<d:=by omega
 unfold Tn.freqN
 rw[hde,Int.toNat_natCast]
 refine⟨le_root hd0 ?_,root_lt hd0 ?_⟩
 ·rw[Nat.le_div_iff_mul_le (un_pos _ _ _)]
  exact Nat.mul_le_mul_left _ h.1
 ·rw[Nat.div_lt_iff_lt_mul (un_pos _ _ _),Nat.mul_pow]
  have h2:¬ le2 (d:Int) (ov t.two t.three t.five) (un t.two t.three t.five):=λhh=>h.2 (by rw[hde];exact (le2_move _ _ _ _).1 hh)
  have h3:ov t.two t.three t.five<un t.two t.three t.five*2 ^ d:=by
   have:¬ un t.two t.three t.five*2 ^ d<=ov t.two t.three t.five*2 ^ 0:=λhh=>h2 ((le2_shift (by omega)).2 hh)
   rw[Nat.pow_zero,Nat.mul_one] at this
   omega
  have h4:=Nat.mul_lt_mul_of_pos_left h3 (show 0<base ^ d from Nat.pow_pos hb)
  refine Nat.lt_of_lt_of_le h4 (Nat.le_of_eq ?_)
  ac_rfl
theorem freq_one(base:Nat):Tn.freqN base ⟨0,0,0,1⟩=base:=by
 show root 1 (base ^ 1*1/1)=base
 rw[root_one,Nat.pow_one,Nat.mul_one,Nat.div_one]
theorem redV_one{a b c d:Int}(h:0<g4 a b c d):g4 (redV a b c d).two (redV a b c d).three (redV a b c d).five (redV a b c d).den=1:=by
 have hs:=redV_spec a b c d
 have e:=g4_mul (g4 a b c d) (redV a b c d).two (redV a b c d).three (redV a b c d).five (redV a b c d).den
 rw[← hs.1,← hs.2.1,← hs.2.2.1,← hs.2.2.2] at e
 have h2:g4 a b c d*1=g4 a b c d*g4 (redV a b c d).two (redV a b c d).three (redV a b c d).five (redV a b c d).den:=by rw[Nat.mul_one];exact e
 exact (Nat.eq_of_mul_eq_mul_left h h2).symm
theorem qd_abs(a:Int)(g:Nat):(qd a g).natAbs<=a.natAbs:=by
 unfold qd
 have:=Nat.div_le_self a.natAbs g
 split
 ·rw[Int.natAbs_neg,Int.natAbs_natCast];exact this
 ·rw[Int.natAbs_natCast];exact this
theorem redT_some{a b c d:Int}(ha:a.natAbs<=960)(hb:b.natAbs<=960)(hc:c.natAbs<=960)(hd:1<=d)(hd2:d<=24):redT a b c d=some (redV a b c d)/\(redV a b c d).Ok:=by
 have hg:0<g4 a b c d:=g4_pos (by omega)
 have hs:=redV_spec a b c d
 have hok:(redV a b c d).Ok:={
  one:=redV_one hg
  lo:=by
   refine Int.le_of_not_gt λh=>?_
   have h1:(g4 a b c d:Int)*(redV a b c d).den<=0:=Int.mul_nonpos_of_nonneg_of_nonpos (by omega) (by omega)
   rw[← hs.2.2.2] at h1
   omega
  hi:=by
   have h1:=qd_abs d (g4 a b c d)
   have h2:(redV a b c d).den=qd d (g4 a b c d):=rfl
   omega
  two:=Nat.le_trans (qd_abs a _) ha
  three:=Nat.le_trans (qd_abs b _) hb
  five:=Nat.le_trans (qd_abs c _) hc }
 exact⟨if_pos ((okB_iff _).2 hok),hok⟩
def fifT(s u:Int):Tn:=redV (-u+19*s) (u-12*s) 0 u
theorem fifT_ok{s u:Int}(h1 : -12<=s)(h2:s<=12)(h3:1<=u)(h4:u<=24):redT (-u+19*s) (u-12*s) 0 u=some (fifT s u)/\(fifT s u).Ok:=
 redT_some (by omega) (by omega) (by omega) h3 h4
def comT(s u:Int):Tn:=redV (-19*s) (12*s) 0 u
theorem comT_ok{s u:Int}(h1 : -12<=s)(h2:s<=12)(h3:1<=u)(h4:u<=24):redT (-19*s) (12*s) 0 u=some (comT s u)/\(comT s u).Ok:=
 redT_some (by omega) (by omega) (by omega) h3 h4
theorem comT_scale{s u n:Int}{g k:Nat}(hg:0<g)(hs:(g:Int)*n=s)(hu:g*k=u):redT (-19*n) (12*n) 0 (k:Int)=redT (-19*s) (12*s) 0 u:=by
 have h:=redT_mul hg (-19*n) (12*n) 0 (k:Int)
 have e1:(g:Int)*(-19*n) = -19*s:=by rw[← hs];exact Int.mul_left_comm _ _ _
 have e2:(g:Int)*(12*n)=12*s:=by rw[← hs];exact Int.mul_left_comm _ _ _
 rw[e1,e2,Int.mul_zero,hu] at h
 exact h.symm
theorem fif_of_com{s u:Int}(h3:1<=u):redT (-1*(comT s u).den+(comT s u).two*(-1*1)) (1*(comT s u).den+(comT s u).three*(-1*1)) (0*(comT s u).den+(comT s u).five*(-1*1)) (1*(comT s u).den)=redT (-u+19*s) (u-12*s) 0 u:=by
 have hs:=redV_spec (-19*s) (12*s) 0 u
 have hg:0<g4 (-19*s) (12*s) 0 u:=g4_pos (by omega)
 obtain⟨P,hP⟩:∃ P,redV (-19*s) (12*s) 0 u=P:=⟨_,rfl⟩
 obtain⟨g,hge⟩:∃ g,g4 (-19*s) (12*s) 0 u=g:=⟨_,rfl⟩
 unfold comT
 rw[hP,hge] at hs
 rw[hP]
 rw[hge] at hg
 rw[← redT_mul hg]
 have e1:(g:Int)*(-1*P.den+P.two*(-1*1)) = -u+19*s:=by
  rw[Int.mul_add,Int.mul_left_comm,← hs.2.2.2,← Int.mul_assoc (g:Int) P.two,← hs.1];omega
 have e2:(g:Int)*(1*P.den+P.three*(-1*1))=u-12*s:=by
  rw[Int.mul_add,Int.mul_left_comm,← hs.2.2.2,← Int.mul_assoc (g:Int) P.three,← hs.2.1];omega
 have e3:(g:Int)*(0*P.den+P.five*(-1*1))=0:=by
  rw[Int.mul_add,Int.mul_left_comm,← hs.2.2.2,← Int.mul_assoc (g:Int) P.five,← hs.2.2.1];omega
 have e4:(g:Int)*(1*P.den)=u:=by
  rw[Int.one_mul,← hs.2.2.2]
 rw[e1,e2,e3,e4]
end
end
end
section
section
open Go.RowKit
def lenOf:Value->Nat | .slice _ n _=>n|_=>0
def RdN(w:World)(A:Option Addr)(n:Nat)(f:Nat->Nat):Prop:=
 Lm f n/\(0<n->∃ b o,A=some ⟨b,o,none⟩/\b<w.heap.size/\∀ i,i<n->w.cell? ⟨b,o+i,none⟩=some (.int .u32 (f i:Nat)))
section
variable{w w':World}{A:Option Addr}{n:Nat}{f g:Nat->Nat}
theorem RdN.nil(w:World)(A:Option Addr)(f:Nat->Nat):RdN w A 0 f:=⟨λ_i h=>absurd h (Nat.not_lt_zero _),λh=>absurd h (Nat.lt_irrefl _)⟩
theorem RdN.keep(h:RdN w A n f)(hk:∀ p:Addr,p.block<w.heap.size->w'.cell? p=w.cell? p)(hs:w.heap.size<=w'.heap.size):RdN w' A n f:=
 ⟨h.1,λhn=>by
  obtain⟨b,o,e,hb,hc⟩:=h.2 hn
  exact⟨b,o,e,by omega,λi hi=>(hk _ hb).trans (hc i hi)⟩⟩
theorem RdN.below(h:RdN w A n f)(hb:Below w.heap.size w w'):RdN w' A n f:=h.keep (λ_ hp=>hb.cell hp) hb.size
theorem RdN.alloc(h:RdN w A n f)(o:Obj):RdN (w.alloc o) A n f:=h.below (below_new w o)
theorem RdN.drewN(h:RdN w A n f)(q:Nat):RdN (w.drewN q) A n f:=h
theorem RdN.kx{S:Nat->Prop}(h:RdN w A n f)(hk:Kx S w w')(hs:0<n->∀ a,A=some a->¬ S a.block):RdN w' A n f:=
 ⟨h.1,λhn=>by
  obtain⟨b,o,e,hb,hc⟩:=h.2 hn
  exact⟨b,o,e,Nat.lt_of_lt_of_le hb hk.size,λi hi=>(World.cell?_of_block (w:=w) (hk.block b hb (hs hn _ e))).trans (hc i hi)⟩⟩
theorem RdN.congr(h:RdN w A n f)(e:∀ i,i<n->f i=g i):RdN w A n g:=
 ⟨λi hi=>by rw[← e i hi];exact h.1 i hi,λhn=>by
  obtain⟨b,o,e',hb,hc⟩:=h.2 hn
  exact⟨b,o,e',hb,λi hi=>by rw[← e i hi];exact hc i hi⟩⟩
theorem RdN.take(h:RdN w A n f){k:Nat}(hk:k<=n):RdN w A k f:=
 ⟨h.1.mono hk,λhn=>by
  obtain⟨b,o,e,hb,hc⟩:=h.2 (by omega)
  exact⟨b,o,e,hb,λi hi=>hc i (by omega)⟩⟩
theorem RdN.from_{b o:Nat}(h:RdN w (some ⟨b,o,none⟩) n f){k m:Nat}(hk:k+m<=n):RdN w (some ⟨b,o+k,none⟩) m (λi=>f (k+i)):=
 ⟨λi hi=>h.1 _ (by omega),λhn=>by
  obtain⟨b',o',e,hb,hc⟩:=h.2 (by omega)
  injection e with e
  injection e with e1 e2
  subst e1 e2
  exact⟨b,o+k,rfl,hb,λi hi=>by rw[Nat.add_assoc];exact hc (k+i) (by omega)⟩⟩
theorem RdN.at_(h:RdN w A n f){k:Nat}(hk:k<n):∃ b o,A=some ⟨b,o,none⟩/\b<w.heap.size/\w.cell? ⟨b,o+k,none⟩=some (.int .u32 (f k:Nat)):=by
 obtain⟨b,o,e,hb,hc⟩:=h.2 (by omega)
 exact⟨b,o,e,hb,hc k hk⟩
def Nm(w:World)(A:Option Addr)(n:Nat)(v:Nat):Prop:=n=ln v/\RdN w A n (lim v)
theorem Nm.below{v:Nat}(h:Nm w A n v)(hb:Below w.heap.size w w'):Nm w' A n v:=⟨h.1,h.2.below hb⟩
theorem Nm.alloc{v:Nat}(h:Nm w A n v)(o:Obj):Nm (w.alloc o) A n v:=⟨h.1,h.2.alloc o⟩
theorem Nm.kx{S:Nat->Prop}{v:Nat}(h:Nm w A n v)(hk:Kx S w w')(hs:0<n->∀ a,A=some a->¬ S a.block):Nm w' A n v:=⟨h.1,h.2.kx hk hs⟩
theorem Nm.zero(w:World)(A:Option Addr):Nm w A 0 0:=⟨ln_zero.symm,RdN.nil _ _ _⟩
theorem Nm.val{v:Nat}(h:Nm w A n v):fv (lim v) n=v:=fv_lim_eq (by rw[h.1];exact lt_pw_ln v)
theorem Nm.lt{v:Nat}(h:Nm w A n v):v<pw n:=by rw[h.1];exact lt_pw_ln v
theorem Nm.top{v:Nat}(h:Nm w A n v)(hn:0<n):lim v (n-1)≠0:=by rw[h.1] at hn ⊢;exact top_ne hn
theorem Nm.of_rd{k:Nat}(h:RdN w A n f)(hk:k<=n)(h0:∀ i,k<=i->i<n->f i=0)(ht:k=0\/f (k-1)≠0):Nm w A k (fv f n):=
 ⟨(trim_ln h.1 hk h0 ht).symm,(h.take hk).congr λi hi=>(lim_fv h.1 (by omega)).symm⟩
end
theorem mapU_len(f:Nat->Nat)(n:Nat):((List.range n).map λi=>Value.int .u32 (f i:Nat)).length=n:=by simp
theorem mapU_get{f:Nat->Nat}{n j:Nat}{u:Value}(h:((List.range n).map λi=>Value.int .u32 (f i:Nat))[j]?=some u):j<n/\u=.int .u32 (f j:Nat):=by
 rw[List.getElem?_map] at h
 by_cases hj:j<n
 ·rw[List.getElem?_range hj] at h
  exact⟨hj,by simpa using h.symm⟩
 ·rw[List.getElem?_eq_none (by simpa using hj)] at h;simp at h
theorem mapU_at{f:Nat->Nat}{n j:Nat}(hj:j<n):((List.range n).map λi=>Value.int .u32 (f i:Nat))[j]?=some (.int .u32 (f j:Nat)):=by
 rw[List.getElem?_map,List.getElem?_range hj];rfl
theorem RdN.sl{w:World}{A:Option Addr}{n:Nat}{f:Nat->Nat}(h:RdN w A n f):Sl w 1 A n ((List.range n).map λi=>Value.int .u32 (f i:Nat)):=
 ⟨by simp,λhn=>by
  obtain⟨b,o,e,hb,hc⟩:=h.2 hn
  exact⟨b,o,e,hb,λj u hu=>by
   obtain⟨hj,rfl⟩:=mapU_get hu
   exact hc j hj⟩⟩
theorem RdN.of_sl{w:World}{A:Option Addr}{n:Nat}{f:Nat->Nat}(hl:Lm f n)(h:Sl w 1 A n ((List.range n).map λi=>Value.int .u32 (f i:Nat))):RdN w A n f:=
 ⟨hl,λhn=>by
  obtain⟨b,o,e,hb,hc⟩:=h.2 hn
  exact⟨b,o,e,hb,λi hi=>hc i _ (mapU_at hi)⟩⟩
theorem mapU_one(f:Nat->Nat)(n:Nat):∀ u∈(List.range n).map λi=>Value.int .u32 (f i:Nat),u.oneCell'=true:=by
 intro u hu
 obtain⟨i,_,rfl⟩:=List.mem_map.1 hu
 rfl
theorem infoU:(Tryz.prog.info? 185).map (λi=>(i.zero,i.size,i.bytes))=some (some (.int .u32 0),1,4):=by kernel_rfl
theorem elemU:ElemOk Tryz.prog 96 185 1 4:=ElemOk.of (z:=.int .u32 0) Tryz.underlying96 infoU rfl (by omega)
def BlkU(W:World)(g n:Nat)(f:Nat->Nat):Prop:=Lm f n/\∃ cs,W.heap[g]?=some (.cells cs 185 (0,0))/\∀ i,i<n->cs[i]?=some (.int .u32 (f i:Nat))
section
variable{W W':World}{g n i:Nat}{f p:Nat->Nat}
theorem BlkU.lt(h:BlkU W g n f):g<W.heap.size:=by
 obtain⟨cs,hh,_⟩:=h.2
 exact (Array.getElem?_eq_some_iff.1 hh).1
theorem BlkU.cell(h:BlkU W g n f)(hi:i<n):W.cell? ⟨g,i,none⟩=some (.int .u32 (f i:Nat)):=by
 obtain⟨cs,hh,hc⟩:=h.2
 rw[cell_of_row _ _ i _ _ (0,0) hh];exact hc i hi
theorem BlkU.frozen(h:BlkU W g n f)(i:Nat):W.frozen? ⟨g,i,none⟩=false:=by
 obtain⟨cs,hh,_⟩:=h.2
 simp[World.frozen?,hh]
theorem BlkU.congr(h:BlkU W g n f)(e:∀ i,i<n->f i=p i):BlkU W g n p:=by
 obtain⟨cs,hh,hc⟩:=h.2
 exact⟨λi hi=>by rw[← e i hi];exact h.1 i hi,cs,hh,λi hi=>by rw[hc i hi,e i hi]⟩
theorem BlkU.set(h:BlkU W g n f)(k x:Nat)(hx:x<4294967296):BlkU (W.setCell ⟨g,k,none⟩ (.int .u32 (x:Nat))) g n (upd1 f k x):=by
 obtain⟨cs,hh,hc⟩:=h.2
 refine⟨h.1.upd hx,cs.setIfInBounds k (.int .u32 (x:Nat)),?_,λi hi=>?_⟩
 ·simp only[World.setCell,Array.getElem?_modify,hh]
  simp
 ·have hi2:i<cs.size:=by
   have:=hc i hi
   exact (Array.getElem?_eq_some_iff.1 this).1
  rw[Array.getElem?_setIfInBounds]
  by_cases hk:k=i
  ·subst hk;rw[if_pos rfl,if_pos hi2,upd1_self]
  ·rw[if_neg hk,upd1_ne (λe=>hk e.symm)];exact hc i hi
theorem BlkU.made(h:W.heap[g]?=some (.cells (madeCells #[Value.int .u32 0] n) 185 (0,0))):BlkU W g n (λ_=>0):=by
 refine⟨λi _=>by simp,_,h,λi hi=>?_⟩
 rw[← Array.getElem?_toList,toList_madeCells_one]
 simp[hi]
theorem BlkU.of_own{base c:Nat}(hl:Lm f n)(h:W.ownsRow base 185 1 (.slice (some ⟨g,0,none⟩) n c) n ((List.range n).map λi=>Value.int .u32 (f i:Nat))):BlkU W g n f:=by
 rcases h.2 with⟨h',_⟩|⟨g',c',cur,h',_,hg,_,_,_,ht⟩
 ·simp at h'
 ·simp only[Value.slice.injEq,Option.some.injEq,Addr.mk.injEq,and_true,true_and] at h'
  obtain⟨rfl,rfl⟩:=h'
  refine⟨hl,cur,hg,λi hi=>?_⟩
  have h1:=congrArg (λl=>l[i]?) ht
  simp only[Nat.mul_one,List.getElem?_take,if_pos hi,Array.getElem?_toList] at h1
  rw[h1]
  exact mapU_at hi
theorem BlkU.kx{S:Nat->Prop}(h:BlkU W g n f)(hk:Kx S W W')(hs:¬ S g):BlkU W' g n f:=by
 obtain⟨cs,hh,hc⟩:=h.2
 exact⟨h.1,cs,(hk.block g h.lt hs).trans hh,hc⟩
theorem BlkU.below(h:BlkU W g n f)(hb:Below W.heap.size W W'):BlkU W' g n f:=by
 obtain⟨cs,hh,hc⟩:=h.2
 exact⟨h.1,cs,(hb.block g h.lt).trans hh,hc⟩
theorem BlkU.drewN(h:BlkU W g n f)(q:Nat):BlkU (W.drewN q) g n f:=h
theorem BlkU.rd(h:BlkU W g n f)(o m:Nat)(hm:o+m<=n):RdN W (some ⟨g,o,none⟩) m (λi=>f (o+i)):=
 ⟨λi hi=>h.1 _ (by omega),λ_=>⟨g,o,rfl,h.lt,λi hi=>h.cell (by omega)⟩⟩
theorem BlkU.rd0(h:BlkU W g n f)(m:Nat)(hm:m<=n):RdN W (some ⟨g,0,none⟩) m f:=(h.rd 0 m (by omega)).congr λi _=>by rw[Nat.zero_add]
end
theorem run_mkU(m:Nat)(hm:m<=4000000)(w:World)(k:IntKind):(Instr.makeSlice 96 (.int k (m:Int)) (.int k (m:Int))).run Tryz.prog w=.ok (.slice (some ⟨w.heap.size,0,none⟩) m m) (w.alloc (.cells (madeCells #[Value.int .u32 0] m) 185)):=
 run_make_row' 96 185 (.int .u32 0) 4 Tryz.underlying96 infoU rfl k k m (by omega) (by omega) w
theorem BlkU.new(w:World)(m:Nat):BlkU (w.alloc (.cells (madeCells #[Value.int .u32 0] m) 185)) w.heap.size m (λ_=>0):=BlkU.made (heap_alloc_new w _)
theorem natTrim_any(A:Option Addr)(n c:Nat)(f:Nat->Nat)(w:World)(h:RdN w A n f)(hnc:n<=c)(hn:n<=4000000) :
 Calls Tryz.prog 191 #[.slice A n c] w λe w'=>∃ k,e=.returned (.slice A k c)/\k<=n/\Nm w A k (fv f n)/\w=w':=by
 refine calls_cps ?_
 intro R hR
 go_enter Tryz.func191,Tryz.ntmps191
 go_wp2_with fail
 go_loop [0] (λs0=>∃ k:Nat,s0=.slice A k c/\k<=n/\Hid (∀ i,k<=i->i<n->f i=0)) (λs0=>lenOf s0)
 case atStart=>exact⟨n,rfl,Nat.le_refl _,zh λi h1 h2=>by omega⟩
 case round =>
  obtain⟨k,rfl,hk,H0⟩:=hrel
  rcases k with _|j
  ·have Hf:=zh (hR.out (.returned (.slice A 0 c)) w ⟨0,rfl,hk,Nm.of_rd h hk H0.out (.inl rfl),rfl⟩)
   clear hR H0
   go_wp2_with fail
   exact Hf.out
  ·obtain⟨b,o,rfl,hb,q0⟩:=h.at_ (k:=j) (by omega)
   have i0:(0:Int)<=(j:Int):=by omega
   have i1:(j:Int)+1<=(c:Int):=by omega
   by_cases hz:f j=0
   ·rw[hz] at q0
    have HZ:=zh hz
    clear hz
    go_wp2_with fail
    refine⟨⟨j,by simp,by omega,zh λi h1 h2=>?_⟩,?_⟩
    ·rcases Nat.lt_or_ge j i with h3|h3
     ·exact H0.out i h3 h2
     ·obtain rfl:i=j:=by omega
      exact HZ.out
    ·simp[lenOf]
   ·have Hf:=zh (hR.out (.returned (.slice (some ⟨b,o,none⟩) (j+1) c)) w ⟨j+1,rfl,hk,Nm.of_rd h hk H0.out (.inr hz),rfl⟩)
    have hz':(((f j:Nat):Int)==0)=false:=by simp;omega
    clear hz
    go_wp2_with fail
    exact Hf.out
theorem trim_blk{g N v:Nat}{f:Nat->Nat}{w:World}(h:BlkU w g N f/\fv f N=v)(hN:N<=4000000) :
 Calls Tryz.prog 191 #[.slice (some ⟨g,0,none⟩) N N] w λe w'=>∃ k,e=.returned (.slice (some ⟨g,0,none⟩) k N)/\k<=N/\Nm w (some ⟨g,0,none⟩) k v/\w=w':=by
 have h1:=natTrim_any (some ⟨g,0,none⟩) N N f w (h.1.rd0 N (Nat.le_refl _)) (Nat.le_refl _) hN
 rwa [h.2] at h1
theorem trim_eq(A:Option Addr)(n c v:Nat)(f:Nat->Nat)(w:World)(h:RdN w A n f)(hnc:n<=c)(hn:n<=4000000)(hv:fv f n=v) :
 Calls Tryz.prog 191 #[.slice A n c] w λe w'=>e=.returned (.slice A (ln v) c)/\w=w':=
 (natTrim_any A n c f w h hnc hn).mono λe w' ⟨k,h1,_,h2,h3⟩=>⟨by rw[h1,h2.1,hv],h3⟩
theorem RdN.nm{w:World}{A:Option Addr}{n v:Nat}{f:Nat->Nat}(h:RdN w A n f)(hv:fv f n=v):Nm w A (ln v) v:=by
 have hl:ln v<=n:=by rw[← hv];exact (ln_le_iff _ _).2 (fv_lt h.1)
 exact⟨rfl,(h.take hl).congr λi hi=>by rw[← hv,lim_fv h.1 (by omega)]⟩
theorem Nm.low{w:World}{A:Option Addr}{n v k:Nat}(h:Nm w A n v)(hk:k<=n):Nm w A (ln (v%pw k)) (v%pw k):=(h.2.take hk).nm (fv_lim v k)
theorem Nm.high{w:World}{b o n v k:Nat}(h:Nm w (some ⟨b,o,none⟩) n v)(hk:k<=n):Nm w (some ⟨b,o+k,none⟩) (n-k) (v/pw k):=
 ⟨by rw[ln_div_pw,h.1],(h.2.from_ (k:=k) (m:=n-k) (by omega)).congr λi _=>(lim_div_pw v k i).symm⟩
theorem trim_quiet(A:Option Addr)(n c v:Nat)(f:Nat->Nat)(w:World)(q:Nat)(h:RdN w A n f)(hnc:n<=c)(hn:n<=4000000)(hv:fv f n=v) :
 Calls Tryz.prog 191 #[.slice A n c] (w.drewN q) λe w'=>e=.returned (.slice A (ln v) c)/\∃ m,w'=w.drewN m:=
 (trim_eq A n c v f (w.drewN q) (h.drewN q) hnc hn hv).mono λ_ _ ⟨h1,h2⟩=>⟨h1,q,h2.symm⟩
end
section
open Go.RowKit Go.Shelf
theorem add32_any(x y c:Nat)(w:World)(hx:x<4294967296)(hy:y<4294967296)(hc:c<=1) :
 Calls Tryz.prog 306 #[.int .u32 (x:Nat),.int .u32 (y:Nat),.int .u32 (c:Nat)] w λe w'=>e=.returned (.tuple #[.int .u32 (((x+y+c)%4294967296:Nat)),.int .u32 (((x+y+c)/4294967296:Nat))])/\w=w':=by
 go_enter Tryz.func306,Tryz.ntmps306
 go_wp2
 go_ret2
 exact⟨by simp[],rfl⟩
theorem add32_zero(x c:Nat)(w:World)(hx:x<4294967296)(hc:c<=1) :
 Calls Tryz.prog 306 #[.int .u32 (x:Nat),.int .u32 0,.int .u32 (c:Nat)] w λe w'=>e=.returned (.tuple #[.int .u32 (((x+0+c)%4294967296:Nat)),.int .u32 (((x+0+c)/4294967296:Nat))])/\w=w':=add32_any x 0 c w hx (by omega) hc
theorem bit31{x:Nat}(hx:x<4294967296):x.testBit 31=decide (2147483648<=x):=by
 rw[Nat.testBit_eq_decide_div_mod_eq,show 2 ^ 31=2147483648 from rfl]
 congr 1
 exact propext (by omega)
theorem top31{x:Nat}(hx:x<4294967296):x/2147483648=if x.testBit 31 then 1 else 0:=by
 rw[bit31 hx]
 simp only[decide_eq_true_eq]
 split<;>omega
theorem borrow_bits{x y c d:Nat}(hx:x<4294967296)(hy:y<4294967296)(hc:c<=1)(hd:d=(x+4294967296-y-c)%4294967296) :
 (bits .or .u32 (bits .and .u32 (bits .xor .u32 4294967295 (x:Nat)) (y:Nat)) (bits .and .u32 (bits .xor .u32 4294967295 (bits .xor .u32 (x:Nat) (y:Nat))) (d:Nat)))/2147483648=((if x<y+c then 1 else 0:Nat):Int):=by
 have hd1:d<4294967296:=by omega
 have e1:bits .xor .u32 4294967295 (x:Nat)=((4294967295 ^^^ x:Nat):Int):=u32_xor_nat 4294967295 x (by omega) hx
 have l1:4294967295 ^^^ x<4294967296:=Nat.xor_lt_two_pow (n:=32) (by omega) hx
 have e2:bits .xor .u32 (x:Nat) (y:Nat)=((x ^^^ y:Nat):Int):=u32_xor_nat x y hx hy
 have l2:x ^^^ y<4294967296:=Nat.xor_lt_two_pow (n:=32) hx hy
 have e3:bits .xor .u32 4294967295 ((x ^^^ y:Nat):Int)=((4294967295 ^^^ (x ^^^ y):Nat):Int):=u32_xor_nat 4294967295 (x ^^^ y) (by omega) l2
 have l3:4294967295 ^^^ (x ^^^ y)<4294967296:=Nat.xor_lt_two_pow (n:=32) (by omega) l2
 rw[e1,e2,e3,u32_and_nat _ _ l1 hy,u32_and_nat _ _ l3 hd1,u32_or_nat _ _ (Nat.lt_of_le_of_lt Nat.and_le_right hy) (Nat.lt_of_le_of_lt Nat.and_le_right hd1)]
 have l4:((4294967295 ^^^ x) &&& y) ||| ((4294967295 ^^^ (x ^^^ y)) &&& d)<4294967296:=Nat.or_lt_two_pow (n:=32) (Nat.lt_of_le_of_lt Nat.and_le_right hy) (Nat.lt_of_le_of_lt Nat.and_le_right hd1)
 have e5:(((((4294967295 ^^^ x) &&& y) ||| ((4294967295 ^^^ (x ^^^ y)) &&& d):Nat):Int)/2147483648)=(((((4294967295 ^^^ x) &&& y) ||| ((4294967295 ^^^ (x ^^^ y)) &&& d))/2147483648:Nat):Int):=by omega
 rw[e5,top31 l4]
 congr 1
 simp only[Nat.testBit_or,Nat.testBit_and,Nat.testBit_xor,bit31 hx,bit31 hy,bit31 hd1,bit31 (show (4294967295:Nat)<4294967296 by omega)]
 have k:decide (2147483648<=4294967295)=true:=by decide
 rw[k]
 by_cases a:2147483648<=x<;>by_cases b:2147483648<=y<;>by_cases e:2147483648<=d<;>simp[a,b,e]<;>omega
theorem sub32_any(x y c:Nat)(w:World)(hx:x<4294967296)(hy:y<4294967296)(hc:c<=1) :
 Calls Tryz.prog 359 #[.int .u32 (x:Nat),.int .u32 (y:Nat),.int .u32 (c:Nat)] w λe w'=>e=.returned (.tuple #[.int .u32 (((x+4294967296-y-c)%4294967296:Nat)),.int .u32 ((if x<y+c then 1 else 0:Nat))])/\w=w':=by
 refine calls_cps ?_
 intro R hR
 have ed:((x:Int)-(y:Int)-(c:Int))%4294967296=(((x+4294967296-y-c)%4294967296:Nat):Int):=by omega
 have hb:=borrow_bits hx hy hc rfl
 have HR:=zh hR
 have Hed:=zh ed
 have Hb:=zh hb
 clear hR ed hb
 go_enter Tryz.func359,Tryz.ntmps359
 go_wp2
 rw[show IntKind.u32.max=4294967295 from by decide,Hed.out,Hb.out]
 exact HR.out.out _ _ ⟨rfl,rfl⟩
theorem sub32_zero(x c:Nat)(w:World)(hx:x<4294967296)(hc:c<=1) :
 Calls Tryz.prog 359 #[.int .u32 (x:Nat),.int .u32 0,.int .u32 (c:Nat)] w λe w'=>e=.returned (.tuple #[.int .u32 (((x+4294967296-0-c)%4294967296:Nat)),.int .u32 ((if x<0+c then 1 else 0:Nat))])/\w=w':=sub32_any x 0 c w hx (by omega) hc
def lenRen:Ren:=⟨λk=>if k=128 then 210 else if k=125 then 87 else if k=129 then 211 else k,λk=>if k=3 then 3 else if k=4 then 4 else if k=5 then 5 else if k=9 then 9 else if k=46 then 209 else if k=51 then 185 else k,λk=>k⟩
theorem lenLays:Lays.n128 Tryz.prog lenRen:={
 mixed:=by kernel_rfl
 f128:=by kernel_rfl
 t3:=by kernel_rfl
 a3:=λ_=>by kernel_rfl
 z3:=λ_=>by kernel_rfl
 v3:=λ_=>by kernel_rfl
 t4:=by kernel_rfl
 a4:=λ_=>by kernel_rfl
 z4:=λ_=>by kernel_rfl
 v4:=λ_=>by kernel_rfl
 t5:=by kernel_rfl
 a5:=λ_=>by kernel_rfl
 z5:=λ_=>by kernel_rfl
 v5:=λ_=>by kernel_rfl
 t9:=by kernel_rfl
 a9:=λ_=>by kernel_rfl
 z9:=λ_=>by kernel_rfl
 v9:=λ_=>by kernel_rfl
 t46:=by kernel_rfl
 a46:=λ_=>by kernel_rfl
 z46:=λ_=>by kernel_rfl
 v46:=λ_=>by kernel_rfl
 t51:=by kernel_rfl
 a51:=λ_=>by kernel_rfl
 z51:=λ_=>by kernel_rfl
 v51:=λ_=>by kernel_rfl
}
theorem bitLenAux_two:∀ (f x:Nat),x<2 ^ f->Lib.bitLenAux f x=bitsN x
 |0,x,h=>by
  obtain rfl:x=0:=by simp at h;omega
  rfl
 |f+1,x,h=>by
  unfold Lib.bitLenAux
  split
  ·rename_i h0;subst h0;rfl
  ·rename_i h0
   have h2:x/2<2 ^ f:=by rw[Nat.pow_succ] at h;omega
   rw[bitLenAux_two f _ h2]
   rcases Nat.eq_zero_or_pos (x/2) with h3|h3
   ·obtain rfl:x=1:=by omega
    rfl
   ·obtain⟨j,hj⟩:∃ j,bitsN (x/2)=j+1:=⟨bitsN (x/2)-1,by have:=bitsN_pos h3;omega⟩
    have a1:=two_le_of_bits (v:=x/2) (k:=j) (by omega)
    have a2:=lt_two_bits (x/2)
    rw[hj] at a2
    rw[hj,Nat.add_comm]
    refine (bitsN_eq ?_ ?_).symm
    ·rw[Nat.pow_succ];omega
    ·rw[Nat.pow_succ];omega
theorem bitLen_two{x:Nat}(h:x<18446744073709551616):Lib.bitLen x=bitsN x:=bitLenAux_two 64 x h
theorem len32_any(x:Nat)(w:World)(hx:x<4294967296) :
 Calls Tryz.prog 210 #[.int .u32 (x:Nat)] w λe w'=>e=.returned (.int .i64 (bitsN x:Nat))/\w=w':=by
 refine Calls.mono (Any.bits_Len32 lenLays (x:Int) w (by omega) (by omega)) ?_
 rintro e w' ⟨rfl,rfl⟩
 rw[Int.toNat_natCast,bitLen_two (by omega)]
 exact⟨rfl,rfl⟩
theorem bitsN_32{x:Nat}(hx:x<4294967296):bitsN x<=32:=(bitsN_le_iff x 32).2 hx
theorem lz32_any(x:Nat)(w:World)(hx:x<4294967296) :
 Calls Tryz.prog 304 #[.int .u32 (x:Nat)] w λe w'=>e=.returned (.int .i64 ((32-bitsN x:Nat):Int))/\w=w':=by
 have hb:=bitsN_32 hx
 have e:((32-bitsN x:Nat):Int)=32-(bitsN x:Int):=by omega
 rw[e]
 clear e
 go_enter Tryz.func304,Tryz.ntmps304
 go_wp2_with (go_at_call 210;(with_reducible refine (len32_any _ _ hx).mono ?_);rintro e w' ⟨rfl,rfl⟩)
 go_ret
 exact⟨rfl,rfl⟩
end
section
open Go.RowKit
def NewNum(w:World)(v:Nat)(e:Ending)(w':World):Prop:=∃ A' k c',e=.returned (.slice A' k c')/\k<=c'/\Nm w' A' k v/\(∀ ad,A'=some ad->w.heap.size<=ad.block)/\Below w.heap.size w w'
theorem fresh_at{B g o:Nat}(h:B<=g):∀ ad:Addr,(some ⟨g,o,none⟩:Option Addr)=some ad->B<=ad.block:=λad e=>by
 injection e with e
 subst e
 exact h
def cmpN(a b:Nat):Int:=if a<b then -1 else if a=b then 0 else 1
theorem own_any(A:Option Addr)(n c:Nat)(f:Nat->Nat)(w:World)(h:RdN w A n f)(hn:n<=1000000) :
 Calls Tryz.prog 195 #[.slice A n c] w λe w'=>∃ A' c',e=.returned (.slice A' n c')/\n<=c'/\w'.ownsRow w.heap.size 185 1 (.slice A' n c') n ((List.range n).map λi=>Value.int .u32 (f i:Nat))/\Below w.heap.size w w':=by
 refine calls_cps ?_
 intro R hR
 have hown:w.ownsRow w.heap.size 185 1 (.slice none 0 0) 0 []:=⟨rfl,.inl ⟨rfl,rfl⟩⟩
 go_enter Tryz.func195,Tryz.ntmps195
 go_wp2_with (at_builtin;refine wpList_app rfl _ (.tmp 3) _ rfl elemU w.heap.size _ _ _ rfl hown _ _ _ _ rfl h.sl (mapU_one f n) (by unfold maxLen;omega) (by omega) (Nat.le_refl _) ?_;intro A' c' w1 ho hg _)
 rw[Nat.zero_add,List.nil_append] at ho
 have hc:n<=c':=by
  obtain⟨A2,c2,e,h1,_,_⟩:=own_slice ho
  injection e with _ _ e3
  omega
 have Hf:=zh (hR.out (.returned (.slice A' n c')) w1 ⟨A',c',rfl,hc,ho,below_own (Below.refl _ _) hown (Nat.le_refl _) (Nat.le_refl _) hg⟩)
 clear hR ho
 exact Hf.out
theorem ncompare_any(A B:Option Addr)(n c m d a b:Nat)(w:World)(h1:Nm w A n a)(h2:Nm w B m b)(hn:n<=1000000)(hm:m<=1000000) :
 Calls Tryz.prog 200 #[.slice A n c,.slice B m d] w λe w'=>e=.returned (.int .i64 (cmpN a b))/\Qt w w':=by
 refine calls_cps ?_
 intro R hR
 have Hl1:=zh h1.1
 have Hl2:=zh h2.1
 have Hlt:=zh (show ∀ W',a<b->Qt w W'->R (.returned (.int .i64 (-1))) W' from λ_ h hq=>hR.out _ _ ⟨by unfold cmpN;rw[if_pos h],hq⟩)
 have Hgt:=zh (show ∀ W',b<a->Qt w W'->R (.returned (.int .i64 1)) W' from λ_ h hq=>hR.out _ _ ⟨by unfold cmpN;rw[if_neg (by omega),if_neg (by omega)],hq⟩)
 have Heq:=zh (show ∀ W',a=b->Qt w W'->R (.returned (.int .i64 0)) W' from λ_ h hq=>hR.out _ _ ⟨by unfold cmpN;rw[if_neg (by omega),if_pos h],hq⟩)
 clear hR
 by_cases hnm:n=m
 ·subst hnm
  have hb0:((n:Int) != n)=false:=by simp
  go_enter Tryz.func200,Tryz.ntmps200
  go_wp2_with fail
  go_loopw [5] (λi wr=>∃ (k:Nat),k<=n/\i=.int .i64 ((k:Int)-1)/\Hid (∀ j,k<=j->j<n->lim a j=lim b j)/\Qt w wr) (λi _=>(intOf i+1).toNat)
  case atStart=>exact⟨n,Nat.le_refl _,rfl,zh (λj h1 h2=>by omega),Qt.refl _⟩
  case round =>
   obtain⟨k,hk,rfl,HE,hq⟩:=hrel
   rcases k with _|k
   ·have he:a=b:=by
     rw[← h1.val,← h2.val]
     exact fv_congr λi hi=>HE.out i (Nat.zero_le _) hi
    have Hf:=zh (Heq.out wr he hq)
    clear he
    go_wp2
    exact Hf.out
   ·obtain⟨W2,hW2⟩:∃ W2,wr=W2:=⟨_,rfl⟩
    obtain⟨bl,o,rfl,hbl,q0⟩:=(show RdN wr A n (lim a) from by obtain⟨q,rfl⟩:=hq;exact h1.2).at_ (k:=k) (by omega)
    obtain⟨bl',o',rfl,hbl',r0⟩:=(show RdN wr B n (lim b) from by obtain⟨q,rfl⟩:=hq;exact h2.2).at_ (k:=k) (by omega)
    have i1:(0:Int)<=(k:Int):=by omega
    have i2:(k:Int)<(n:Int):=by omega
    have Hless:=zh (λhl=>@fv_less (lim a) (lim b) n k h1.2.1 h2.2.1 (by omega) (λj g1 g2=>HE.out j (by omega) g2) hl)
    have Hmore:=zh (λhl=>@fv_less (lim b) (lim a) n k h2.2.1 h1.2.1 (by omega) (λj g1 g2=>(HE.out j (by omega) g2).symm) hl)
    rw[h1.val,h2.val] at Hless Hmore
    obtain⟨x,hx⟩:∃ x,lim a k=x:=⟨_,rfl⟩
    obtain⟨y,hy⟩:∃ y,lim b k=y:=⟨_,rfl⟩
    rw[hx] at q0 Hless Hmore
    rw[hy] at r0 Hless Hmore
    have Hx:=zh hx
    have Hy:=zh hy
    clear hx hy hW2
    rcases Nat.lt_trichotomy x y with hl|hl|hl
    ·have t1:(((x:Nat):Int) != (y:Int))=true:=by simp;omega
     have t2:decide (((x:Nat):Int)<(y:Int))=true:=decide_eq_true (by omega)
     have t3:decide (x<y)=true:=decide_eq_true (by omega)
     have Hf:=zh (λW h=>Hlt.out W (Hless.out hl) h)
     clear hl
     go_wp2_with fail
     go_quiet (fail)
     go_wp2_with fail
     go_quiet (fail)
     go_wp2_with fail
     exact Hf.out _ ((hq.step _).step _)
    ·have t1:(((x:Nat):Int) != (y:Int))=false:=by simp[hl]
     have HL:=zh hl
     clear hl
     go_wp2_with fail
     go_quiet (fail)
     go_wp2_with fail
     refine⟨⟨k,by omega,by go_num,zh λj g1 g2=>?_,hq.step _⟩,by simp[intOf]⟩
     rcases Nat.lt_or_ge k j with h|h
     ·exact HE.out j h g2
     ·obtain rfl:j=k:=by omega
      rw[Hx.out,Hy.out,HL.out]
    ·have t1:(((x:Nat):Int) != (y:Int))=true:=by simp;omega
     have t2:decide (((x:Nat):Int)<(y:Int))=false:=decide_eq_false (by omega)
     have t3:decide (x<y)=false:=decide_eq_false (by omega)
     have Hf:=zh (λW h=>Hgt.out W (Hmore.out hl) h)
     clear hl
     go_wp2_with fail
     go_quiet (fail)
     go_wp2_with fail
     go_quiet (fail)
     go_wp2_with fail
     exact Hf.out _ ((hq.step _).step _)
 ·have hb0:((n:Int) != m)=true:=by simp;omega
  rcases Nat.lt_or_ge n m with hl|hl
  ·have hb1:decide ((n:Int)<(m:Int))=true:=decide_eq_true (by omega)
   have hb2:decide (n<m)=true:=decide_eq_true (by omega)
   have Hf:=zh (Hlt.out w (lt_of_ln (by rw[← Hl1.out,← Hl2.out];exact hl)) (Qt.refl _))
   clear hnm hl
   go_enter Tryz.func200,Tryz.ntmps200
   go_wp2
   exact Hf.out
  ·have hb1:decide ((n:Int)<(m:Int))=false:=decide_eq_false (by omega)
   have hb2:decide (n<m)=false:=decide_eq_false (by omega)
   have Hf:=zh (Hgt.out w (lt_of_ln (by rw[← Hl1.out,← Hl2.out];omega)) (Qt.refl _))
   clear hnm hl
   go_enter Tryz.func200,Tryz.ntmps200
   go_wp2
   exact Hf.out
theorem Nm.over{w:World}{A:Option Addr}{n v i:Nat}(h:Nm w A n v)(hi:n<=i):lim v i=0:=lim_ge (Nat.lt_of_lt_of_le h.lt (pw_le hi))
theorem plus_any(A B:Option Addr)(n c m d a b:Nat)(w:World)(h1:Nm w A n a)(h2:Nm w B m b)(hn:n<=600000)(hm:m<=600000) :
 Calls Tryz.prog 199 #[.slice A n c,.slice B m d] w (NewNum w (a+b)):=by
 refine calls_cps ?_
 intro R hR
 have HR:=zh (show ∀ A' k c' W',k<=c'->Nm W' A' k (a+b)->(∀ ad,A'=some ad->w.heap.size<=ad.block)->Below w.heap.size w W'->R (.returned (.slice A' k c')) W' from λA' k c' W' g1 g2 g3 g4=>hR.out _ _ ⟨A',k,c',rfl,g1,g2,g3,g4⟩)
 clear hR
 go_enter Tryz.func199,Tryz.ntmps199
 go_upto_if 13 with fail
 go_cut [0,1] (λs0 s1 wx=>∃ A1 n1 c1 B1 m1 d1 a1 b1,s0=.slice A1 n1 c1/\s1=.slice B1 m1 d1/\n1<=600000/\m1<=n1/\Hid (Nm w A1 n1 a1/\Nm w B1 m1 b1/\a1+b1=a+b)/\w=wx)
 case first =>
  rcases Nat.lt_or_ge n m with hl|hl
  ·have hb1:decide ((n:Int)<(m:Int))=true:=decide_eq_true (by omega)
   have hb2:decide (n<m)=true:=decide_eq_true hl
   go_wp2_with fail
   go_meet
   exact⟨B,m,d,A,n,c,b,a,rfl,rfl,hm,by omega,zh ⟨h2,h1,Nat.add_comm _ _⟩,rfl⟩
  ·have hb1:decide ((n:Int)<(m:Int))=false:=decide_eq_false (by omega)
   have hb2:decide (n<m)=false:=decide_eq_false (by omega)
   go_wp2_with fail
   go_meet
   exact⟨A,n,c,B,m,d,a,b,rfl,rfl,hn,hl,zh ⟨h1,h2,rfl⟩,rfl⟩
 case rest =>
  clear h1 h2 hn hm
  obtain⟨A1,n1,c1,B1,m1,d1,a1,b1,e1,e2,hn,hm,H,e3⟩:=hcut
  subst e1 e2 e3
  have hmk:(Instr.makeSlice 96 (.int .i64 ((n1:Int)+1)) (.int .i64 ((n1:Int)+1))).run Tryz.prog w=.ok (.slice (some ⟨w.heap.size,0,none⟩) (n1+1) (n1+1)) (w.alloc (.cells (madeCells #[Value.int .u32 0] (n1+1)) 185)):=run_mkU (n1+1) (by omega) w .i64
  have HB:=zh (BlkU.new w (n1+1))
  have Hb:=zh (below_new w (.cells (madeCells #[Value.int .u32 0] (n1+1)) 185))
  obtain⟨W1,hW1⟩:∃ W1,w.alloc (.cells (madeCells #[Value.int .u32 0] (n1+1)) 185)=W1:=⟨_,rfl⟩
  obtain⟨g,hg⟩:∃ g,w.heap.size=g:=⟨_,rfl⟩
  rw[hW1] at HB Hb hmk
  rw[hg] at HB Hb hmk
  have Hg:=zh hg
  clear hW1 hg
  go_wp2_with fail
  go_loopw [6,22] (λs6 s22 wr=>∃ (i cy:Nat) (o:Nat->Nat),s6=.int .u32 (cy:Nat)/\s22=.int .i64 (i:Nat)/\i<=n1/\cy<=1/\Hid (BlkU wr g (n1+1) o/\fv o i+cy*pw i=fv (lim a1) i+fv (lim b1) i)/\Hid (Below g w wr)) (λ_ s22 _=>n1-(intOf s22).toNat)
  case atStart=>exact⟨0,0,λ_=>0,rfl,rfl,Nat.zero_le _,Nat.zero_le _,zh ⟨HB.out,rfl⟩,Hb⟩
  case round =>
   obtain⟨i,cy,o,rfl,rfl,hi,hcy,HI,HW⟩:=hrel
   by_cases hlt:i<n1
   ·have i1:(i:Int)<(n1:Int):=by omega
    have i2:(i:Int)<((n1:Int)+1):=by omega
    have hA:=(H.out.1.2.below (by rw[Hg.out];exact HW.out)).at_ hlt
    obtain⟨bl,oa,rfl,hbl,q0⟩:=hA
    have f0:=HI.out.1.frozen
    have c0:=HI.out.1.cell (i:=i) (by omega)
    have hx:=lim_lt a1 i
    obtain⟨x,hxx⟩:∃ x,lim a1 i=x:=⟨_,rfl⟩
    rw[hxx] at q0 hx
    have Hxx:=zh hxx
    clear hxx
    have Hnext:=zh (show ∀ y,lim b1 i=y->∀ v c',v=(x+y+cy)%4294967296->c'=(x+y+cy)/4294967296->BlkU (wr.setCell ⟨g,i,none⟩ (.int .u32 (v:Nat))) g (n1+1) (upd1 o i v)/\fv (upd1 o i v) (i+1)+c'*pw (i+1)=fv (lim a1) (i+1)+fv (lim b1) (i+1) from λy hy v c' hv hc'=>by
     subst hv hc'
     refine⟨HI.out.1.set i _ (Nat.mod_lt _ (by omega)),?_⟩
     have h:=plus_step (f:=upd1 o i ((x+y+cy)%4294967296)) (a:=lim a1) (b:=lim b1) (i:=i) (c:=cy) (c':=(x+y+cy)/4294967296) (s:=(x+y+cy)%4294967296) (V:=fv (lim a1) i+fv (lim b1) i) (by rw[fv_upd_out (Nat.le_refl _)];exact HI.out.2) (by rw[Hxx.out,hy];exact Nat.mod_add_div _ _) (upd1_self _ _ _)
     rw[h,fv_succ,fv_succ];omega)
    by_cases hm2:i<m1
    ·have i3:(i:Int)<(m1:Int):=by omega
     obtain⟨bl2,ob,rfl,hbl2,r0⟩:=(H.out.2.1.2.below (by rw[Hg.out];exact HW.out)).at_ hm2
     have hy:=lim_lt b1 i
     obtain⟨y,hyy⟩:∃ y,lim b1 i=y:=⟨_,rfl⟩
     rw[hyy] at r0 hy
     have Hn:=zh (Hnext.out y hyy _ _ rfl rfl)
     clear hyy Hnext
     go_wp2_with ((with_reducible refine (add32_any x y cy _ hx hy hcy).mono ?_);rintro e w' ⟨rfl,rfl⟩)
     refine⟨⟨i+1,(x+y+cy)/4294967296,_,by simp,by go_num,by omega,?_,Hn,zh (HW.out.setCell (by simp) _)⟩,by simp[intOf];omega⟩
     clear Hn
     omega
    ·have i3:(m1:Int)<=(i:Int):=by omega
     have Hn:=zh (Hnext.out 0 (H.out.2.1.over (by omega)) _ _ rfl rfl)
     clear Hnext
     go_wp2_with ((with_reducible refine (add32_zero x cy _ hx hcy).mono ?_);rintro e w' ⟨rfl,rfl⟩)
     refine⟨⟨i+1,(x+0+cy)/4294967296,_,by simp,by go_num,by omega,?_,Hn,zh (HW.out.setCell (by simp) _)⟩,by simp[intOf];omega⟩
     clear Hn
     omega
   ·obtain rfl:n1=i:=by omega
    have f0:=HI.out.1.frozen
    have c0:=HI.out.1.cell (i:=n1) (by omega)
    have Hset:=zh (show BlkU (wr.setCell ⟨g,n1,none⟩ (.int .u32 (cy:Nat))) g (n1+1) (upd1 o n1 cy)/\fv (upd1 o n1 cy) (n1+1)=a+b from
     ⟨HI.out.1.set n1 cy (by omega),by rw[fv_succ,upd1_self,fv_upd_out (Nat.le_refl _),HI.out.2,H.out.1.val,← H.out.2.2,fv_lim_eq (Nat.lt_of_lt_of_le H.out.2.1.lt (pw_le hm))]⟩)
    have Hbs:=zh (show Below g w (wr.setCell ⟨g,n1,none⟩ (.int .u32 (cy:Nat))) from HW.out.setCell (by simp) _)
    go_wp2_with fail
    refine (trim_blk Hset.out (by omega)).mono ?_
    rintro e w' ⟨k,rfl,hk,hnm,rfl⟩
    have Hf:=zh (HR.out _ k _ _ hk hnm (fresh_at (Nat.le_of_eq Hg.out)) (by rw[Hg.out];exact Hbs.out))
    clear hnm
    go_wp2_with fail
    exact Hf.out
theorem sub_digit{x y c:Nat}(hx:x<4294967296)(hy:y<4294967296)(hc:c<=1):(x+4294967296-y-c)%4294967296+y+c=x+4294967296*(if x<y+c then 1 else 0):=by
 split<;>omega
theorem minus_any(A B:Option Addr)(n c m d a b:Nat)(w:World)(h1:Nm w A n a)(h2:Nm w B m b)(hn:n<=1000000)(hba:b<=a) :
 Calls Tryz.prog 358 #[.slice A n c,.slice B m d] w (NewNum w (a-b)):=by
 refine calls_cps ?_
 intro R hR
 have HR:=zh (show ∀ A' k c' W',k<=c'->Nm W' A' k (a-b)->(∀ ad,A'=some ad->w.heap.size<=ad.block)->Below w.heap.size w W'->R (.returned (.slice A' k c')) W' from λA' k c' W' g1 g2 g3 g4=>hR.out _ _ ⟨A',k,c',rfl,g1,g2,g3,g4⟩)
 have hm:m<=n:=by rw[h1.1,h2.1];exact ln_mono hba
 have Hba:=zh hba
 have H:=zh (And.intro h1 h2)
 clear hR hba h1 h2
 have hmk:(Instr.makeSlice 96 (.int .i64 (n:Int)) (.int .i64 (n:Int))).run Tryz.prog w=.ok (.slice (some ⟨w.heap.size,0,none⟩) n n) (w.alloc (.cells (madeCells #[Value.int .u32 0] n) 185)):=run_mkU n (by omega) w .i64
 have HB:=zh (BlkU.new w n)
 have Hb:=zh (below_new w (.cells (madeCells #[Value.int .u32 0] n) 185))
 obtain⟨W1,hW1⟩:∃ W1,w.alloc (.cells (madeCells #[Value.int .u32 0] n) 185)=W1:=⟨_,rfl⟩
 obtain⟨g,hg⟩:∃ g,w.heap.size=g:=⟨_,rfl⟩
 rw[hW1] at HB Hb hmk
 rw[hg] at HB Hb hmk
 have Hg:=zh hg
 clear hW1 hg
 go_enter Tryz.func358,Tryz.ntmps358
 go_wp2_with fail
 go_loopw [6,14] (λs6 s14 wr=>∃ (i cy:Nat) (o:Nat->Nat),s6=.int .u32 (cy:Nat)/\s14=.int .i64 (i:Nat)/\i<=n/\cy<=1/\Hid (BlkU wr g n o/\fv o i+fv (lim b) i=fv (lim a) i+cy*pw i)/\Hid (Below g w wr)) (λ_ s14 _=>n-(intOf s14).toNat)
 case atStart=>exact⟨0,0,λ_=>0,rfl,rfl,Nat.zero_le _,Nat.zero_le _,zh ⟨HB.out,rfl⟩,Hb⟩
 case round =>
  obtain⟨i,cy,o,rfl,rfl,hi,hcy,HI,HW⟩:=hrel
  by_cases hlt:i<n
  ·have i1:(i:Int)<(n:Int):=by omega
   have hA:=(H.out.1.2.below (by rw[Hg.out];exact HW.out)).at_ hlt
   obtain⟨bl,oa,rfl,hbl,q0⟩:=hA
   have f0:=HI.out.1.frozen
   have c0:=HI.out.1.cell (i:=i) (by omega)
   have hx:=lim_lt a i
   obtain⟨x,hxx⟩:∃ x,lim a i=x:=⟨_,rfl⟩
   rw[hxx] at q0 hx
   have Hxx:=zh hxx
   clear hxx
   have Hnext:=zh (show ∀ y,lim b i=y->y<4294967296->∀ v c',v=(x+4294967296-y-cy)%4294967296->c'=(if x<y+cy then 1 else 0)->BlkU (wr.setCell ⟨g,i,none⟩ (.int .u32 (v:Nat))) g n (upd1 o i v)/\fv (upd1 o i v) (i+1)+fv (lim b) (i+1)=fv (lim a) (i+1)+c'*pw (i+1) from λy hy hy2 v c' hv hc'=>by
    subst hv hc'
    refine⟨HI.out.1.set i _ (Nat.mod_lt _ (by omega)),?_⟩
    exact minus_step (f:=upd1 o i ((x+4294967296-y-cy)%4294967296)) (a:=lim a) (b:=lim b) (i:=i) (c:=cy) (c':=if x<y+cy then 1 else 0) (s:=(x+4294967296-y-cy)%4294967296) (by rw[fv_upd_out (Nat.le_refl _)];exact HI.out.2) (by rw[Hxx.out,hy];exact sub_digit hx hy2 hcy) (upd1_self _ _ _))
   by_cases hm2:i<m
   ·have i3:(i:Int)<(m:Int):=by omega
    obtain⟨bl2,ob,rfl,hbl2,r0⟩:=(H.out.2.2.below (by rw[Hg.out];exact HW.out)).at_ hm2
    have hy:=lim_lt b i
    obtain⟨y,hyy⟩:∃ y,lim b i=y:=⟨_,rfl⟩
    rw[hyy] at r0 hy
    have Hn:=zh (Hnext.out y hyy hy _ _ rfl rfl)
    clear hyy Hnext
    go_wp2_with ((with_reducible refine (sub32_any x y cy _ hx hy hcy).mono ?_);rintro e w' ⟨rfl,rfl⟩)
    refine⟨⟨i+1,if x<y+cy then 1 else 0,_,by simp,by go_num,by omega,?_,Hn,zh (HW.out.setCell (by simp) _)⟩,by simp[intOf];omega⟩
    clear Hn
    split<;>omega
   ·have i3:(m:Int)<=(i:Int):=by omega
    have Hn:=zh (Hnext.out 0 (H.out.2.over (by omega)) (by omega) _ _ rfl rfl)
    clear Hnext
    go_wp2_with ((with_reducible refine (sub32_zero x cy _ hx hcy).mono ?_);rintro e w' ⟨rfl,rfl⟩)
    refine⟨⟨i+1,if x<0+cy then 1 else 0,_,by simp,by go_num,by omega,?_,Hn,zh (HW.out.setCell (by simp) _)⟩,by simp[intOf];omega⟩
    clear Hn
    split<;>omega
  ·obtain rfl:n=i:=by omega
   have Hset:=zh (show BlkU wr g n o/\fv o n=a-b from ⟨HI.out.1,by
    have h:=HI.out.2
    rw[H.out.1.val,fv_lim_eq (Nat.lt_of_lt_of_le H.out.2.lt (pw_le hm))] at h
    have hf:=fv_lt HI.out.1.1
    have hl:=H.out.1.lt
    have hcy2:cy=0:=Nat.eq_zero_of_not_pos λhp=>by
     obtain rfl:cy=1:=by omega
     have:=Hba.out
     omega
    rw[hcy2] at h
    omega⟩)
   go_wp2_with fail
   refine (trim_blk Hset.out (by omega)).mono ?_
   rintro e w' ⟨k,rfl,hk,hnm,rfl⟩
   have Hf:=zh (HR.out _ k _ _ hk hnm (fresh_at (Nat.le_of_eq Hg.out)) (by rw[Hg.out];exact HW.out))
   clear hnm
   go_wp2_with fail
   exact Hf.out
theorem length_any(A:Option Addr)(n c a:Nat)(w:World)(h1:Nm w A n a)(hn:n<=1000000) :
 Calls Tryz.prog 196 #[.slice A n c] w λe w'=>e=.returned (.int .i64 (bitsN a:Nat))/\w=w':=by
 refine calls_cps ?_
 intro R hR
 have HR:=zh hR
 have Hl:=zh h1.1
 clear hR
 rcases n with _|n
 ·have h0:a=0:=ln_eq_zero.1 Hl.out.symm
  have Hf:=zh (HR.out.out (.returned (.int .i64 0)) w ⟨by rw[h0];rfl,rfl⟩)
  clear h0
  go_enter Tryz.func196,Tryz.ntmps196
  go_wp2
  exact Hf.out
 ·obtain⟨b,o,rfl,hb,q0⟩:=h1.2.at_ (k:=n) (by omega)
  have hx:=lim_lt a n
  have Hb:=zh (bitsN_top Hl.out.symm)
  have hb32:=bitsN_32 hx
  have i0:(0:Int)<=(n:Int):=by omega
  go_enter Tryz.func196,Tryz.ntmps196
  go_wp2_with (go_at_call 210;(with_reducible refine (len32_any _ _ hx).mono ?_);rintro e w' ⟨rfl,rfl⟩)
  refine HR.out.out _ _ ⟨?_,rfl⟩
  rw[Hb.out]
  simp
end
section
open Go.RowKit
theorem school_alg{i j x bj V F:Nat}:F+x*pw i*V+x*bj*pw (i+j)=F+x*pw i*(V+bj*pw j):=by
 rw[pw_add,Nat.mul_add (x*pw i),Nat.add_assoc]
 congr 2
 ac_rfl
theorem school_any(A B:Option Addr)(n c m d a b:Nat)(w:World)(h1:Nm w A n a)(h2:Nm w B m b)(hn:n<=600000)(hm:m<=600000) :
 Calls Tryz.prog 300 #[.slice A n c,.slice B m d] w (NewNum w (a*b)):=by
 refine calls_cps ?_
 intro R hR
 have HR:=zh (show ∀ A' k c' W',k<=c'->Nm W' A' k (a*b)->(∀ ad,A'=some ad->w.heap.size<=ad.block)->Below w.heap.size w W'->R (.returned (.slice A' k c')) W' from λA' k c' W' g1 g2 g3 g4=>hR.out _ _ ⟨A',k,c',rfl,g1,g2,g3,g4⟩)
 have H:=zh (And.intro h1 h2)
 clear hR h1 h2
 have hmk:(Instr.makeSlice 96 (.int .i64 ((n:Int)+(m:Int))) (.int .i64 ((n:Int)+(m:Int)))).run Tryz.prog w=.ok (.slice (some ⟨w.heap.size,0,none⟩) (n+m) (n+m)) (w.alloc (.cells (madeCells #[Value.int .u32 0] (n+m)) 185)):=by
  have h:=run_mkU (n+m) (by omega) w .i64
  rwa [Int.natCast_add] at h
 have HB:=zh (BlkU.new w (n+m))
 have Hb:=zh (below_new w (.cells (madeCells #[Value.int .u32 0] (n+m)) 185))
 obtain⟨W1,hW1⟩:∃ W1,w.alloc (.cells (madeCells #[Value.int .u32 0] (n+m)) 185)=W1:=⟨_,rfl⟩
 obtain⟨g,hg⟩:∃ g,w.heap.size=g:=⟨_,rfl⟩
 rw[hW1] at HB Hb hmk
 rw[hg] at HB Hb hmk
 have Hg:=zh hg
 clear hW1 hg
 go_enter Tryz.func300,Tryz.ntmps300
 go_wp2_with fail
 go_loopw [20] (λs20 wr=>∃ (i:Nat) (o:Nat->Nat),s20=.int .i64 (i:Nat)/\i<=n/\Hid (BlkU wr g (n+m) o/\fv o (n+m)=fv (lim a) i*b/\(∀ k,i+m<=k->k<n+m->o k=0))/\Hid (Below g w wr)) (λs20 _=>n-(intOf s20).toNat)
 case atStart=>exact⟨0,λ_=>0,rfl,Nat.zero_le _,zh ⟨HB.out,by rw[fv_zero];simp[fv],λ_ _ _=>rfl⟩,Hb⟩
 case round =>
  obtain⟨i,o,rfl,hi,HI,HW⟩:=hrel
  obtain⟨wo,rfl⟩:∃ wo:World,wo=wr:=⟨_,rfl⟩
  by_cases hlt:i<n
  ·have i1:(i:Int)<(n:Int):=by omega
   obtain⟨bl,oa,rfl,hbl,q0⟩:=(H.out.1.2.below (by rw[Hg.out];exact HW.out)).at_ hlt
   have hx:=lim_lt a i
   obtain⟨x,hxx⟩:∃ x,lim a i=x:=⟨_,rfl⟩
   rw[hxx] at q0 hx
   have Hxx:=zh hxx
   clear hxx
   go_wp2_with fail
   clear q0
   go_loopw [8,27] (λs8 s27 wr=>∃ (j cy:Nat) (o:Nat->Nat),s8=.int .u64 (cy:Nat)/\s27=.int .i64 (j:Nat)/\j<=m/\cy<4294967296/\Hid (BlkU wr g (n+m) o/\fv o (n+m)+cy*pw (i+j)=fv (lim a) i*b+x*pw i*fv (lim b) j/\(∀ k,i+m<=k->k<n+m->o k=0))/\Hid (Below g w wr)) (λ_ s27 _=>m-(intOf s27).toNat)
   case atStart=>exact⟨0,0,o,rfl,rfl,Nat.zero_le _,by omega,zh ⟨HI.out.1,by rw[HI.out.2.1];simp[fv],HI.out.2.2⟩,HW⟩
   case round =>
    obtain⟨j,cy,o2,rfl,rfl,hj,hcy,HI2,HW2⟩:=hrel
    by_cases hjt:j<m
    ·have j1:(j:Int)<(m:Int):=by omega
     obtain⟨bl2,ob,rfl,hbl2,r0⟩:=(H.out.2.2.below (by rw[Hg.out];exact HW2.out)).at_ hjt
     have hy:=lim_lt b j
     obtain⟨y,hyy⟩:∃ y,lim b j=y:=⟨_,rfl⟩
     rw[hyy] at r0 hy
     have f0:=HI2.out.1.frozen
     have c0:=HI2.out.1.cell (i:=i+j) (by omega)
     have hz:=HI2.out.1.1 (i+j) (by omega)
     obtain⟨z,hzz⟩:∃ z,o2 (i+j)=z:=⟨_,rfl⟩
     rw[hzz] at c0 hz
     have hmb:=mul_bound hx hy hz hcy
     obtain⟨t,ht⟩:∃ t,x*y+z+cy=t:=⟨_,rfl⟩
     have hxy:(x:Int)*(y:Int)+(z:Int)+(cy:Int)<=18446744073709551615:=by
      have:((x*y+z+cy:Nat):Int)<=18446744073709551615:=by omega
      simpa using this
     have hxy0:0<=(x:Int)*(y:Int):=Int.mul_nonneg (by omega) (by omega)
     have Hyy:=zh hyy
     have Hzz:=zh hzz
     have Ht:=zh ht
     clear hyy hzz ht hmb
     have Hn:=zh (show BlkU (wr.setCell ⟨g,i+j,none⟩ (.int .u32 ((t%4294967296:Nat):Int))) g (n+m) (upd1 o2 (i+j) (t%4294967296))/\fv (upd1 o2 (i+j) (t%4294967296)) (n+m)+t/4294967296*pw (i+(j+1))=fv (lim a) i*b+x*pw i*fv (lim b) (j+1)/\(∀ k,i+m<=k->k<n+m->upd1 o2 (i+j) (t%4294967296) k=0) from by
      refine⟨HI2.out.1.set _ _ (Nat.mod_lt _ (by omega)),?_,λk k1 k2=>by rw[upd1_ne (by omega)];exact HI2.out.2.2 k k1 k2⟩
      rw[← Nat.add_assoc,row_step (x:=x) (bj:=y) (by omega) HI2.out.2.1 (by rw[← Ht.out,Hzz.out]),fv_succ,Hyy.out,school_alg])
     have e1:((t%4294967296:Nat):Int)=((x:Int)*(y:Int)+(z:Int)+(cy:Int))%4294967296:=by rw[← Ht.out];simp
     have e2:((t/4294967296:Nat):Int)=((x:Int)*(y:Int)+(z:Int)+(cy:Int))/4294967296:=by rw[← Ht.out];simp
     have ht2:t/4294967296<4294967296:=by
      have:=mul_bound hx hy hz hcy
      rw[Ht.out] at this
      omega
     rw[e1] at Hn
     have He2:=zh e2
     clear e1 e2
     go_wp2_with fail
     exact⟨⟨j+1,t/4294967296,_,by rw[He2.out],by go_num,by omega,ht2,Hn,zh (HW2.out.setCell (by simp) _)⟩,by simp[intOf];omega⟩
    ·obtain rfl:m=j:=by omega
     have f0:=HI2.out.1.frozen
     have c0:=HI2.out.1.cell (i:=i+m) (by omega)
     have Hn:=zh (show BlkU (wr.setCell ⟨g,i+m,none⟩ (.int .u32 (cy:Nat))) g (n+m) (upd1 o2 (i+m) cy)/\fv (upd1 o2 (i+m) cy) (n+m)=fv (lim a) (i+1)*b/\(∀ k,i+1+m<=k->k<n+m->upd1 o2 (i+m) cy k=0) from by
      refine⟨HI2.out.1.set _ _ hcy,?_,λk k1 k2=>by rw[upd1_ne (by omega)];exact HI2.out.2.2 k (by omega) k2⟩
      have h:=fv_upd (f:=o2) (k:=i+m) (x:=cy) (n:=n+m) (by omega)
      rw[HI2.out.2.2 (i+m) (Nat.le_refl _) (by omega),Nat.zero_mul,Nat.add_zero] at h
      rw[h,HI2.out.2.1,H.out.2.val,fv_succ,Hxx.out,Nat.add_mul])
     go_wp2_with fail
     exact⟨⟨i+1,_,by go_num,by omega,Hn,zh (HW2.out.setCell (by simp) _)⟩,by simp[intOf];omega⟩
  ·obtain rfl:n=i:=by omega
   have Hset:=zh (show BlkU wo g (n+m) o/\fv o (n+m)=a*b from ⟨HI.out.1,by rw[HI.out.2.1,H.out.1.val]⟩)
   go_wp2_with fail
   refine (trim_blk Hset.out (by omega)).mono ?_
   rintro e w' ⟨k,rfl,hk,hnm,rfl⟩
   have Hf:=zh (HR.out _ k _ _ hk hnm (fresh_at (Nat.le_of_eq Hg.out)) (by rw[Hg.out];exact HW.out))
   clear hnm
   go_wp2_with fail
   exact Hf.out
theorem addAt_any(g N k:Nat)(B:Option Addr)(m d x:Nat)(f:Nat->Nat)(w:World)(h:BlkU w g N f)(h2:Nm w B m x)(hne:0<m->∀ a,B=some a->a.block≠g)(hN:N<=4000000)(hk:k+m<=N)(hroom:fv f N+x*pw k<pw N) :
 Calls Tryz.prog 356 #[.slice (some ⟨g,0,none⟩) N N,.slice B m d,.int .i64 (k:Nat)] w λe w'=>e=.returned (.tuple #[])/\∃ o,BlkU w' g N o/\fv o N=fv f N+x*pw k/\Kx (λj=>j=g) w w':=by
 refine calls_cps ?_
 intro R hR
 have HR:=zh (show ∀ W' o,BlkU W' g N o->fv o N=fv f N+x*pw k->Kx (λj=>j=g) w W'->R (.returned (.tuple #[])) W' from λW' o g1 g2 g3=>hR.out _ _ ⟨rfl,o,g1,g2,g3⟩)
 have HB:=zh h
 have H2:=zh h2
 have Hne:=zh hne
 have Hroom:=zh hroom
 clear hR h h2 hne hroom
 go_enter Tryz.func356,Tryz.ntmps356
 go_wp2_with fail
 go_loopw [6,11] (λs6 s11 wr=>∃ (i cy:Nat) (o:Nat->Nat),s6=.int .u32 (cy:Nat)/\s11=.int .i64 (i:Nat)/\i<=m/\cy<=1/\Hid (BlkU wr g N o/\fv o N+cy*pw (k+i)=fv f N+fv (lim x) i*pw k)/\Hid (Kx (λj=>j=g) w wr)) (λ_ s11 _=>m-(intOf s11).toNat)
 case atStart=>exact⟨0,0,f,rfl,rfl,Nat.zero_le _,Nat.zero_le _,zh ⟨HB.out,by simp[fv]⟩,zh (Kx.refl _ _)⟩
 case round =>
  obtain⟨i,cy,o,rfl,rfl,hi,hcy,HI,HK⟩:=hrel
  by_cases hlt:i<m
  ·have i1:(i:Int)<(m:Int):=by omega
   have i2:((k:Int)+(i:Int))<(N:Int):=by omega
   obtain⟨bl,oa,rfl,hbl,q0⟩:=(H2.out.2.kx HK.out Hne.out).at_ hlt
   have hx:=lim_lt x i
   obtain⟨y,hyy⟩:∃ y,lim x i=y:=⟨_,rfl⟩
   rw[hyy] at q0 hx
   have f0:=HI.out.1.frozen
   have c0:=HI.out.1.cell (i:=k+i) (by omega)
   have hz:=HI.out.1.1 (k+i) (by omega)
   obtain⟨z,hzz⟩:∃ z,o (k+i)=z:=⟨_,rfl⟩
   rw[hzz] at c0 hz
   have Hn:=zh (show BlkU (wr.setCell ⟨g,k+i,none⟩ (.int .u32 (((z+y+cy)%4294967296:Nat)))) g N (upd1 o (k+i) ((z+y+cy)%4294967296))/\fv (upd1 o (k+i) ((z+y+cy)%4294967296)) N+(z+y+cy)/4294967296*pw (k+(i+1))=fv f N+fv (lim x) (i+1)*pw k from by
    refine⟨HI.out.1.set _ _ (Nat.mod_lt _ (by omega)),?_⟩
    have h:=row_step (o:=o) (n:=N) (i:=k) (j:=i) (x:=1) (bj:=y) (c:=cy) (t:=z+y+cy) (by omega) HI.out.2 (by rw[hzz];omega)
    rw[← Nat.add_assoc k i 1,h,fv_succ,hyy,Nat.add_mul,Nat.one_mul,pw_add,Nat.mul_comm (pw k),Nat.mul_assoc,Nat.add_assoc])
   have Hyy:=zh hyy
   have Hzz:=zh hzz
   clear hyy hzz
   have z0:(0:Int)<=(k:Int)+(i:Int):=by omega
   have z1:IntKind.i64.wrap ((k:Int)+(i:Int))=(k:Int)+(i:Int):=IntWalk.i64_in _ (by omega)
   have z2:((k:Int)+(i:Int)).toNat=k+i:=by omega
   go_wp2_with fail
   go_region_with ((with_reducible refine (add32_any z y cy _ hz hx hcy).mono ?_);rintro e w' ⟨rfl,rfl⟩)
   all_goals go_wp2_with fail
   all_goals exact⟨⟨i+1,(z+y+cy)/4294967296,_,by simp,by go_num,by omega,by omega,zh Hn.out,zh ((kx_set HK.out rfl _ _).drewN 1)⟩,by simp[intOf];omega⟩
  ·obtain rfl:m=i:=by omega
   have Hq:=zh (show fv f N+fv (lim x) m*pw k=fv f N+x*pw k from by rw[H2.out.val])
   go_wp2_with fail
   go_loopw [6,8] (λs6 s8 wr=>∃ (p cy:Nat) (o:Nat->Nat),s6=.int .u32 (cy:Nat)/\s8=.int .i64 (p:Nat)/\k+m<=p/\p<=N/\cy<=1/\Hid (BlkU wr g N o/\fv o N+cy*pw p=fv f N+x*pw k)/\Hid (Kx (λj=>j=g) w wr)) (λ_ s8 _=>N-(intOf s8).toNat)
   case atStart=>exact⟨k+m,cy,o,rfl,by go_num,Nat.le_refl _,hk,hcy,zh ⟨HI.out.1,HI.out.2.trans Hq.out⟩,HK⟩
   case round =>
    obtain⟨p,cy2,o2,rfl,rfl,hp1,hp2,hcy2,HI2,HK2⟩:=hrel
    rcases Nat.eq_zero_or_pos cy2 with hc0|hc0
    ·subst hc0
     have Hf:=zh (HR.out _ o2 HI2.out.1 (by have:=HI2.out.2;omega) HK2.out)
     go_wp2_with fail
     go_end0
     exact Hf.out
    ·have hc1:cy2=1:=by omega
     have Hc1:=zh hc1
     have i0:(0:Int)<(cy2:Int):=by omega
     have hpN:p<N:=by
      rcases Nat.lt_or_ge p N with h|h
      ·exact h
      ·obtain rfl:p=N:=by omega
       have h1:=HI2.out.2
       rw[hc1] at h1
       have h2:=Hroom.out
       omega
     clear hc1
     have f0:=HI2.out.1.frozen
     have c0:=HI2.out.1.cell hpN
     have hz:=HI2.out.1.1 p hpN
     obtain⟨z,hzz⟩:∃ z,o2 p=z:=⟨_,rfl⟩
     rw[hzz] at c0 hz
     have Hn:=zh (show BlkU (wr.setCell ⟨g,p,none⟩ (.int .u32 (((z+0+cy2)%4294967296:Nat)))) g N (upd1 o2 p ((z+0+cy2)%4294967296))/\fv (upd1 o2 p ((z+0+cy2)%4294967296)) N+(z+0+cy2)/4294967296*pw (p+1)=fv f N+x*pw k from by
      refine⟨HI2.out.1.set _ _ (Nat.mod_lt _ (by omega)),?_⟩
      have h:=row_step (o:=o2) (n:=N) (i:=p) (j:=0) (x:=1) (bj:=0) (c:=cy2) (t:=z+0+cy2) (by omega) HI2.out.2 (by rw[Nat.add_zero p,hzz];omega)
      simpa using h)
     have Hzz:=zh hzz
     clear hzz
     have i2:(p:Int)<(N:Int):=by omega
     go_wp2_with ((with_reducible refine (add32_zero z cy2 _ hz hcy2).mono ?_);rintro e w' ⟨rfl,rfl⟩)
     refine⟨⟨p+1,(z+0+cy2)/4294967296,_,by simp,by go_num,by omega,by omega,by omega,zh Hn.out,zh (kx_set HK2.out rfl _ _)⟩,by simp[intOf];omega⟩
def SplitP(w:World)(k v c:Nat)(e:Ending)(w':World):Prop:=∃ A1 A2 n1 n2 c1 c2,e=.returned (.tuple #[.slice A1 n1 c1,.slice A2 n2 c2])/\n1<=c1/\c1<=c/\n2<=c2/\c2<=c/\Nm w A1 n1 (v%pw k)/\Nm w A2 n2 (v/pw k)/\Qt w w'
theorem nsplit_any(A:Option Addr)(n c k v:Nat)(w:World)(h:Nm w A n v)(hnc:n<=c)(hn:n<=600000) :
 Calls Tryz.prog 357 #[.slice A n c,.int .i64 (k:Nat)] w (SplitP w k v c):=by
 refine calls_cps ?_
 intro R hR
 have HR:=zh hR
 have H:=zh h
 clear hR
 rcases Nat.lt_or_ge k n with hl|hl
 ·obtain⟨b,o,rfl,hb,_⟩:=h.2.at_ hl
  have i0:(0:Int)<=(k:Int):=by omega
  have i1:(k:Int)<(n:Int):=by omega
  have i2:(k:Int)<=(c:Int):=by omega
  have i3:(k:Int)<(c:Int):=by omega
  have i4:(n:Int)<=(c:Int):=by omega
  have i5:k<c:=by omega
  clear h
  go_enter Tryz.func357,Tryz.ntmps357
  go_wp2_with fail
  go_quiet ((go_at_call 191;exact trim_quiet (some ⟨b,o,none⟩) k c (v%pw k) (lim v) _ _ (H.out.2.take (by omega)) (by omega) (by omega) (fv_lim v k)))
  go_wp2_with fail
  exact HR.out.out _ _ ⟨some ⟨b,o,none⟩,some ⟨b,o+k,none⟩,ln (v%pw k),n-k,c,c-k,rfl,Nat.le_trans ((ln_le_iff k _).2 (Nat.mod_lt _ (pw_pos k))) (by omega),Nat.le_refl _,by omega,Nat.sub_le _ _,H.out.low (by omega),H.out.high (by omega),⟨_,rfl⟩⟩
 ·have Hf:=zh (HR.out.out (.returned (.tuple #[.slice A n c,.slice none 0 0])) w ⟨A,none,n,0,c,0,rfl,hnc,Nat.le_refl _,Nat.le_refl _,Nat.zero_le _,by rw[Nat.mod_eq_of_lt (Nat.lt_of_lt_of_le h.lt (pw_le hl))];exact h,by rw[Nat.div_eq_of_lt (Nat.lt_of_lt_of_le h.lt (pw_le hl))];exact Nm.zero _ _,Qt.refl _⟩)
  have i1:decide ((n:Int)<=(k:Int))=true:=decide_eq_true (by omega)
  have i2:decide (n<=k)=true:=decide_eq_true (by omega)
  clear h
  go_enter Tryz.func357,Tryz.ntmps357
  go_wp2_with fail
  exact Hf.out
end
end
section
section
open Go.RowKit
def TimesOk(L:Nat):Prop:=∀ (A B:Option Addr) (n c m d a b:Nat) (w:World),n+m<L->Nm w A n a->Nm w B m b->n<=c->m<=d->n<=300000->m<=300000->
 Calls Tryz.prog 193 #[.slice A n c,.slice B m d] w (NewNum w (a*b))
theorem room_of{x k N T:Nat}(h:x*pw k<=T)(hT:T<pw N)(hk:k<=N):k+ln x<=N:=by
 have h1:x<pw (N-k):=by
  have h2:x*pw k<pw (N-k)*pw k:=by rw[← pw_add,Nat.sub_add_cancel hk];omega
  exact Nat.lt_of_mul_lt_mul_right h2
 have:=(ln_le_iff (N-k) x).2 h1
 omega
theorem kar_alg(a0 a1 b0 b1 P:Nat):(a0+P*a1)*(b0+P*b1)=a0*b0+((a0+a1)*(b0+b1)-a0*b0-a1*b1)*P+a1*b1*(P*P):=by
 have e1:(a0+a1)*(b0+b1)-a0*b0-a1*b1=a0*b1+a1*b0:=by
  rw[Nat.add_mul,Nat.mul_add,Nat.mul_add];omega
 rw[e1,Nat.add_mul,Nat.mul_add,Nat.mul_add,Nat.add_mul]
 have f1:a0*(P*b1)=a0*b1*P:=by ac_rfl
 have f2:P*a1*b0=a1*b0*P:=by ac_rfl
 have f3:P*a1*(P*b1)=a1*b1*(P*P):=by ac_rfl
 rw[f1,f2,f3];omega
theorem Nm.ne{w:World}{A:Option Addr}{n v g:Nat}(h:Nm w A n v)(hg:w.heap.size<=g):0<n->∀ a,A=some a->a.block≠g:=λhn a e=>by
 obtain⟨b,o,e',hb,_⟩:=h.2.2 hn
 rw[e'] at e
 injection e with e
 subst e
 dsimp only
 omega
theorem karatsuba_of{L:Nat}(ih:TimesOk L)(A B:Option Addr)(n c m d a b:Nat)(w:World)(hL:n+m<=L)(h1:Nm w A n a)(h2:Nm w B m b)(hnc:n<=c)(hmd:m<=d)(hn:n<=300000)(hm:40<=m)(hmn:m<=n)(hn2:n<2*m) :
 Calls Tryz.prog 302 #[.slice A n c,.slice B m d] w (NewNum w (a*b)):=by
 refine calls_cps ?_
 intro R hR
 have HR:=zh (show ∀ A' k c' W',k<=c'->Nm W' A' k (a*b)->(∀ ad,A'=some ad->w.heap.size<=ad.block)->Below w.heap.size w W'->R (.returned (.slice A' k c')) W' from λA' k c' W' g1 g2 g3 g4=>hR.out _ _ ⟨A',k,c',rfl,g1,g2,g3,g4⟩)
 have H1:=zh h1
 have H2:=zh h2
 clear hR h1 h2
 obtain⟨k,hk⟩:∃ k,(n+1)/2=k:=⟨_,rfl⟩
 have hkq:((n:Int)+1)/2=(k:Int):=by omega
 have hk1:2*k<=n+1:=by omega
 have hk2:n<=2*k:=by omega
 have hk3:k<=n:=by omega
 have Hkq:=zh hkq
 clear hk
 go_enter Tryz.func302,Tryz.ntmps302
 go_wp2_with fail
 refine (nsplit_any A n c k a w H1.out hnc (by omega)).mono ?_
 rintro e w1 ⟨A0,A1,n0,n1,c0,c1,rfl,ha1,ha2,ha3,ha4,ha5,ha6,hq1⟩
 have HA:=zh (show Nm w1 A0 n0 (a%pw k)/\Nm w1 A1 n1 (a/pw k) from ⟨ha5.below hq1.below,ha6.below hq1.below⟩)
 have hln0:n0<=k:=by rw[ha5.1];exact (ln_le_iff _ _).2 (Nat.mod_lt _ (pw_pos k))
 have hln1:n1<=n-k:=by rw[ha6.1,ln_div_pw,← H1.out.1];exact Nat.le_refl _
 have Hb1:=zh hq1.below
 have HB1:=zh (H2.out.below hq1.below)
 clear ha5 ha6 hq1
 go_wp2_with fail
 refine (nsplit_any B m d k b w1 HB1.out hmd (by omega)).mono ?_
 rintro e w2 ⟨B0,B1,m0,m1,d0,d1,rfl,hb1,hb2,hb3,hb4,hb5,hb6,hq2⟩
 have HB:=zh (show Nm w2 B0 m0 (b%pw k)/\Nm w2 B1 m1 (b/pw k) from ⟨hb5.below hq2.below,hb6.below hq2.below⟩)
 have HA2:=zh (show Nm w2 A0 n0 (a%pw k)/\Nm w2 A1 n1 (a/pw k) from ⟨HA.out.1.below hq2.below,HA.out.2.below hq2.below⟩)
 have hlm0:m0<=k:=by rw[hb5.1];exact (ln_le_iff _ _).2 (Nat.mod_lt _ (pw_pos k))
 have hlm1:m1<=m-k:=by rw[hb6.1,ln_div_pw,← H2.out.1];exact Nat.le_refl _
 have Hb2:=zh (Hb1.out.trans (hq2.below.mono Hb1.out.size))
 clear hb5 hb6 hq2 HA Hb1 HB1
 have HM:=zh (show n1<=k/\m1<=k from ⟨by omega,by omega⟩)
 obtain⟨a0,ea0⟩:∃ x,a%pw k=x:=⟨_,rfl⟩
 obtain⟨a1,ea1⟩:∃ x,a/pw k=x:=⟨_,rfl⟩
 obtain⟨b0,eb0⟩:∃ x,b%pw k=x:=⟨_,rfl⟩
 obtain⟨b1,eb1⟩:∃ x,b/pw k=x:=⟨_,rfl⟩
 have Hab:=zh (show a=a0+pw k*a1/\b=b0+pw k*b1 from by rw[← ea0,← ea1,← eb0,← eb1,Nat.mod_add_div,Nat.mod_add_div];exact⟨rfl,rfl⟩)
 rw[ea0,ea1] at HA2
 rw[eb0,eb1] at HB
 clear ea0 ea1 eb0 eb1
 go_wp2_with fail
 refine (ih A0 B0 n0 c0 m0 d0 a0 b0 w2 (by omega) HA2.out.1 HB.out.1 ha1 hb1 (by omega) (by omega)).mono ?_
 rintro e w3 ⟨AL,nl,cl,rfl,hl1,hl2,-,hl3⟩
 have HA3:=zh (show (Nm w3 A0 n0 a0/\Nm w3 A1 n1 a1)/\Nm w3 B0 m0 b0/\Nm w3 B1 m1 b1 from ⟨⟨HA2.out.1.below hl3,HA2.out.2.below hl3⟩,HB.out.1.below hl3,HB.out.2.below hl3⟩)
 have HL3:=zh hl2
 have Hb3:=zh (Hb2.out.trans (hl3.mono Hb2.out.size))
 clear hl2 hl3 HA2 HB Hb2
 go_wp2_with fail
 refine (ih A1 B1 n1 c1 m1 d1 a1 b1 w3 (by omega) HA3.out.1.2 HA3.out.2.2 ha3 hb3 (by omega) (by omega)).mono ?_
 rintro e w4 ⟨AH,nh,ch,rfl,hh1,hh2,-,hh3⟩
 have HA4:=zh (show ((Nm w4 A0 n0 a0/\Nm w4 A1 n1 a1)/\Nm w4 B0 m0 b0/\Nm w4 B1 m1 b1)/\Nm w4 AL nl (a0*b0)/\Nm w4 AH nh (a1*b1) from ⟨⟨⟨HA3.out.1.1.below hh3,HA3.out.1.2.below hh3⟩,HA3.out.2.1.below hh3,HA3.out.2.2.below hh3⟩,HL3.out.below hh3,hh2⟩)
 have Hb4:=zh (Hb3.out.trans (hh3.mono Hb3.out.size))
 clear hh2 hh3 HA3 HL3 Hb3
 go_wp2_with fail
 refine (plus_any A0 A1 n0 c0 n1 c1 a0 a1 w4 HA4.out.1.1.1 HA4.out.1.1.2 (by omega) (by omega)).mono ?_
 rintro e w5 ⟨AS,ns,cs,rfl,hs1,hs2,-,hs3⟩
 have HA5:=zh (show (Nm w5 B0 m0 b0/\Nm w5 B1 m1 b1)/\Nm w5 AL nl (a0*b0)/\Nm w5 AH nh (a1*b1) from ⟨⟨HA4.out.1.2.1.below hs3,HA4.out.1.2.2.below hs3⟩,HA4.out.2.1.below hs3,HA4.out.2.2.below hs3⟩)
 have hns:ns<=k+1:=by
  rw[hs2.1]
  refine Nat.le_trans (ln_add_le _ _) ?_
  rw[← HA4.out.1.1.1.1,← HA4.out.1.1.2.1]
  have:=HM.out.1
  omega
 have HS5:=zh hs2
 have Hb5:=zh (Hb4.out.trans (hs3.mono Hb4.out.size))
 clear hs2 hs3 HA4 Hb4
 go_wp2_with fail
 refine (plus_any B0 B1 m0 d0 m1 d1 b0 b1 w5 HA5.out.1.1 HA5.out.1.2 (by omega) (by omega)).mono ?_
 rintro e w6 ⟨AT,nt,ct,rfl,ht1,ht2,-,ht3⟩
 have HA6:=zh (show (Nm w6 AS ns (a0+a1)/\Nm w6 AT nt (b0+b1))/\Nm w6 AL nl (a0*b0)/\Nm w6 AH nh (a1*b1) from ⟨⟨HS5.out.below ht3,ht2⟩,HA5.out.2.1.below ht3,HA5.out.2.2.below ht3⟩)
 have hnt:nt<=k+1:=by
  rw[ht2.1]
  refine Nat.le_trans (ln_add_le _ _) ?_
  rw[← HA5.out.1.1.1,← HA5.out.1.2.1]
  have:=HM.out.2
  omega
 have Hb6:=zh (Hb5.out.trans (ht3.mono Hb5.out.size))
 clear ht2 ht3 HA5 HS5 Hb5
 go_wp2_with fail
 refine (ih AS AT ns cs nt ct (a0+a1) (b0+b1) w6 (by omega) HA6.out.1.1 HA6.out.1.2 hs1 ht1 (by omega) (by omega)).mono ?_
 rintro e w7 ⟨AM,nm,cm,rfl,hm1,hm2,-,hm3⟩
 have HA7:=zh (show Nm w7 AM nm ((a0+a1)*(b0+b1))/\Nm w7 AL nl (a0*b0)/\Nm w7 AH nh (a1*b1) from ⟨hm2,HA6.out.2.1.below hm3,HA6.out.2.2.below hm3⟩)
 have hnm:nm<=600000:=by
  rw[hm2.1]
  refine Nat.le_trans (ln_mul_le _ _) ?_
  rw[← HA6.out.1.1.1,← HA6.out.1.2.1]
  omega
 have Hle:=zh (show a0*b0<=(a0+a1)*(b0+b1)/\a1*b1<=(a0+a1)*(b0+b1)-a0*b0 from by
  have e1:(a0+a1)*(b0+b1)=a0*b0+a0*b1+(a1*b0+a1*b1):=by rw[Nat.add_mul,Nat.mul_add,Nat.mul_add]
  rw[e1];omega)
 have Hb7:=zh (Hb6.out.trans (hm3.mono Hb6.out.size))
 clear hm2 hm3 HA6 Hb6
 go_wp2_with fail
 refine (minus_any AM AL nm cm nl cl _ _ w7 HA7.out.1 HA7.out.2.1 (by omega) Hle.out.1).mono ?_
 rintro e w8 ⟨AN,nn,cn,rfl,hn1,hn2',-,hn3⟩
 have HA8:=zh (show Nm w8 AN nn ((a0+a1)*(b0+b1)-a0*b0)/\Nm w8 AL nl (a0*b0)/\Nm w8 AH nh (a1*b1) from ⟨hn2',HA7.out.2.1.below hn3,HA7.out.2.2.below hn3⟩)
 have hnn:nn<=600000:=by
  rw[hn2'.1]
  refine Nat.le_trans (ln_sub_le _ _) ?_
  rw[← HA7.out.1.1]
  exact hnm
 have Hb8:=zh (Hb7.out.trans (hn3.mono Hb7.out.size))
 clear hn2' hn3 HA7 Hb7
 go_wp2_with fail
 refine (minus_any AN AH nn cn nh ch _ _ w8 HA8.out.1 HA8.out.2.2 (by omega) Hle.out.2).mono ?_
 rintro e w9 ⟨AO,no,co,rfl,ho1,ho2,-,ho3⟩
 have HA9:=zh (show Nm w9 AO no ((a0+a1)*(b0+b1)-a0*b0-a1*b1)/\Nm w9 AL nl (a0*b0)/\Nm w9 AH nh (a1*b1) from ⟨ho2,HA8.out.2.1.below ho3,HA8.out.2.2.below ho3⟩)
 have Hb9:=zh (Hb8.out.trans (ho3.mono Hb8.out.size))
 clear ho2 ho3 HA8 Hb8
 have hmk:(Instr.makeSlice 96 (.int .i64 ((n:Int)+(m:Int)+2)) (.int .i64 ((n:Int)+(m:Int)+2))).run Tryz.prog w9=.ok (.slice (some ⟨w9.heap.size,0,none⟩) (n+m+2) (n+m+2)) (w9.alloc (.cells (madeCells #[Value.int .u32 0] (n+m+2)) 185)):=by
  have h:=run_mkU (n+m+2) (by omega) w9 .i64
  rwa [Int.natCast_add,Int.natCast_add] at h
 have HBk:=zh (BlkU.new w9 (n+m+2))
 have HbA:=zh (below_new w9 (.cells (madeCells #[Value.int .u32 0] (n+m+2)) 185))
 have HneA:=zh (show (0<nl->∀ a,AL=some a->a.block≠w9.heap.size)/\(0<no->∀ a,AO=some a->a.block≠w9.heap.size)/\(0<nh->∀ a,AH=some a->a.block≠w9.heap.size) from ⟨HA9.out.2.1.ne (Nat.le_refl _),HA9.out.1.ne (Nat.le_refl _),HA9.out.2.2.ne (Nat.le_refl _)⟩)
 obtain⟨W1,hW1⟩:∃ W1,w9.alloc (.cells (madeCells #[Value.int .u32 0] (n+m+2)) 185)=W1:=⟨_,rfl⟩
 obtain⟨g,hg⟩:∃ g,w9.heap.size=g:=⟨_,rfl⟩
 rw[hW1] at HBk HbA hmk
 rw[hg] at HBk HbA hmk HneA
 have Hg:=zh hg
 have HC:=zh (show Nm W1 AO no ((a0+a1)*(b0+b1)-a0*b0-a1*b1)/\Nm W1 AL nl (a0*b0)/\Nm W1 AH nh (a1*b1) from by
  have hb':Below w9.heap.size w9 W1:=by rw[hg];exact HbA.out
  exact⟨HA9.out.1.below hb',HA9.out.2.1.below hb',HA9.out.2.2.below hb'⟩)
 clear hW1 hg HA9
 obtain⟨N,hN⟩:∃ N,n+m+2=N:=⟨_,rfl⟩
 have hN1:N<=700000:=by omega
 have hN2:2*k<=N:=by omega
 rw[hN] at HBk hmk
 have HNN:=zh hN
 obtain⟨mid,hmid⟩:∃ x,(a0+a1)*(b0+b1)-a0*b0-a1*b1=x:=⟨_,rfl⟩
 have Hsum:=zh (show a0*b0+mid*pw k+a1*b1*(pw k*pw k)=a*b from by rw[Hab.out.1,Hab.out.2,kar_alg,hmid])
 have Hroom:=zh (show a*b<pw N from by
  rw[← hN]
  exact Nat.lt_of_lt_of_le (Nat.mul_lt_mul'' H1.out.lt H2.out.lt) (by rw[← pw_add];exact pw_le (by omega)))
 rw[hmid] at HC
 clear hmid hN
 have Hsum2:=zh (show a0*b0<=a*b/\mid*pw k<=a*b/\a1*b1*pw (2*k)<=a*b from by
  have:=Hsum.out
  have e2:pw (2*k)=pw k*pw k:=by rw[← pw_add,Nat.two_mul]
  rw[e2];omega)
 go_wp2_with fail
 refine (addAt_any g N 0 AL nl cl (a0*b0) _ W1 HBk.out HC.out.2.1 HneA.out.1 (by omega) (by rw[HC.out.2.1.1];exact room_of (k:=0) (T:=a*b) (by rw[pw_zero,Nat.mul_one];exact Hsum2.out.1) Hroom.out (Nat.zero_le _)) (by rw[fv_zero,pw_zero];have:=Hsum2.out.1;have:=Hroom.out;omega)).mono ?_
 rintro e w10 ⟨rfl,o1,hB1,hv1,hk10⟩
 rw[fv_zero,pw_zero,Nat.zero_add,Nat.mul_one] at hv1
 have HC2:=zh (show Nm w10 AO no mid/\Nm w10 AH nh (a1*b1) from ⟨HC.out.1.kx hk10 HneA.out.2.1,HC.out.2.2.kx hk10 HneA.out.2.2⟩)
 have HB10:=zh (And.intro hB1 hv1)
 have Hk10:=zh hk10
 clear hB1 hv1 hk10 HC HBk
 go_wp2_with fail
 refine (addAt_any g N k AO no co mid o1 w10 HB10.out.1 HC2.out.1 HneA.out.2.1 (by omega) (by rw[HC2.out.1.1];exact room_of (T:=a*b) Hsum2.out.2.1 Hroom.out (by omega)) (by rw[HB10.out.2];have:=Hsum.out;have:=Hroom.out;omega)).mono ?_
 rintro e w11 ⟨rfl,o2,hB2,hv2,hk11⟩
 rw[HB10.out.2] at hv2
 have HC3:=zh (HC2.out.2.kx hk11 HneA.out.2.2)
 have HB11:=zh (And.intro hB2 hv2)
 have Hk11:=zh (Hk10.out.trans hk11 (λ_ _ h=>h))
 clear hB2 hv2 hk11 HC2 HB10 Hk10
 go_wp2_with fail
 refine (addAt_any g N (2*k) AH nh ch (a1*b1) o2 w11 HB11.out.1 HC3.out HneA.out.2.2 (by omega) (by rw[HC3.out.1];exact room_of (T:=a*b) Hsum2.out.2.2 Hroom.out (by omega)) (by rw[HB11.out.2,Nat.two_mul,pw_add];have:=Hsum.out;have:=Hroom.out;omega)).mono ?_
 rintro e w12 ⟨rfl,o3,hB3,hv3,hk12⟩
 have Hset:=zh (show BlkU w12 g N o3/\fv o3 N=a*b from ⟨hB3,by rw[hv3,HB11.out.2,Nat.two_mul,pw_add];exact Hsum.out⟩)
 have Hk12:=zh (Hk11.out.trans hk12 (λ_ _ h=>h))
 clear hB3 hv3 hk12 HC3 HB11 Hk11
 go_wp2_with fail
 refine (trim_blk Hset.out (by omega)).mono ?_
 rintro e w' ⟨kk,rfl,hkk,hnm2,rfl⟩
 have Hf:=zh (HR.out _ kk _ _ hkk hnm2 (fresh_at (by rw[← Hg.out];exact Hb9.out.size)) (by
  have h1:Below w9.heap.size w9 W1:=by rw[Hg.out];exact HbA.out
  have h2:=Kx.low h1 Hk12.out (λj hj=>by rw[Hg.out];omega) h1.size
  exact Hb9.out.trans (h2.mono Hb9.out.size)))
 clear hnm2
 go_wp2_with fail
 exact Hf.out
theorem RdN.from2{w:World}{b o n:Nat}{f:Nat->Nat}(h:RdN w (some ⟨b,o,none⟩) n f){k m v:Nat}(hk:k+m<=n)(hv:fv (λi=>f (k+i)) m=v):Nm w (some ⟨b,o+k,none⟩) (ln v) v:=(h.from_ hk).nm hv
theorem part_val{v k m n:Nat}(hv:v<pw n):fv (λi=>lim v (k+i)) (min (k+m) n-k)=v/pw k%pw m:=by
 rw[fv_congr (g:=lim (v/pw k)) (λi _=>(lim_div_pw v k i).symm),fv_lim]
 rcases Nat.le_total (k+m) n with h|h
 ·rw[Nat.min_eq_left h,Nat.add_sub_cancel_left]
 ·rw[Nat.min_eq_right h]
  rcases Nat.le_total k n with h2|h2
  ·have h3:v/pw k<pw (n-k):=by
    rw[Nat.div_lt_iff_lt_mul (pw_pos k),← pw_add,Nat.sub_add_cancel h2];exact hv
   rw[Nat.mod_eq_of_lt h3,Nat.mod_eq_of_lt (Nat.lt_of_lt_of_le h3 (pw_le (by omega)))]
  ·have h3:v/pw k=0:=Nat.div_eq_of_lt (Nat.lt_of_lt_of_le hv (pw_le h2))
   rw[h3];simp
theorem pieces_of{L:Nat}(ih:TimesOk L)(A B:Option Addr)(n c m d a b:Nat)(w:World)(hL:n+m<=L)(h1:Nm w A n a)(h2:Nm w B m b)(hnc:n<=c)(hmd:m<=d)(hn:n<=300000)(hm:40<=m)(hn2:2*m<=n) :
 Calls Tryz.prog 301 #[.slice A n c,.slice B m d] w (NewNum w (a*b)):=by
 refine calls_cps ?_
 intro R hR
 have HR:=zh (show ∀ A' k c' W',k<=c'->Nm W' A' k (a*b)->(∀ ad,A'=some ad->w.heap.size<=ad.block)->Below w.heap.size w W'->R (.returned (.slice A' k c')) W' from λA' k c' W' g1 g2 g3 g4=>hR.out _ _ ⟨A',k,c',rfl,g1,g2,g3,g4⟩)
 obtain⟨bl,oa,rfl,hbl,_⟩:=h1.2.at_ (k:=0) (by omega)
 have H:=zh (And.intro h1 h2)
 clear hR h1 h2
 have hmk:(Instr.makeSlice 96 (.int .i64 ((n:Int)+(m:Int)+1)) (.int .i64 ((n:Int)+(m:Int)+1))).run Tryz.prog w=.ok (.slice (some ⟨w.heap.size,0,none⟩) (n+m+1) (n+m+1)) (w.alloc (.cells (madeCells #[Value.int .u32 0] (n+m+1)) 185)):=by
  have h:=run_mkU (n+m+1) (by omega) w .i64
  rwa [Int.natCast_add,Int.natCast_add] at h
 have HBk:=zh (BlkU.new w (n+m+1))
 have HbA:=zh (below_new w (.cells (madeCells #[Value.int .u32 0] (n+m+1)) 185))
 have Hne:=zh (H.out.2.ne (Nat.le_refl _))
 obtain⟨W1,hW1⟩:∃ W1,w.alloc (.cells (madeCells #[Value.int .u32 0] (n+m+1)) 185)=W1:=⟨_,rfl⟩
 obtain⟨g,hg⟩:∃ g,w.heap.size=g:=⟨_,rfl⟩
 rw[hW1] at HBk HbA hmk
 rw[hg] at HBk HbA hmk Hne
 have Hg:=zh hg
 obtain⟨N,hN⟩:∃ N,n+m+1=N:=⟨_,rfl⟩
 have hN1:N<=700000:=by omega
 have hN2:n+m<N:=by omega
 rw[hN] at HBk hmk
 have Hroom:=zh (show a*b<pw N from Nat.lt_of_lt_of_le (Nat.mul_lt_mul'' H.out.1.lt H.out.2.lt) (by rw[← pw_add];exact pw_le (by omega)))
 clear hW1 hg hN
 go_enter Tryz.func301,Tryz.ntmps301
 go_wp2_with fail
 go_loopw [6] (λs6 wr=>∃ (p:Nat) (o:Nat->Nat),s6=.int .i64 (p:Nat)/\p<=n+m/\Hid (BlkU wr g N o/\fv o N=a%pw p*b)/\Hid (Below g w wr)) (λs6 _=>n-(intOf s6).toNat)
 case atStart=>exact⟨0,λ_=>0,rfl,Nat.zero_le _,zh ⟨HBk.out,by rw[fv_zero,pw_zero,Nat.mod_one,Nat.zero_mul]⟩,HbA⟩
 case round =>
  obtain⟨p,o,rfl,hp,HI,HW⟩:=hrel
  by_cases hlt:p<n
  ·have i1:(p:Int)<(n:Int):=by omega
   obtain⟨q,hq⟩:∃ q,min (p+m) n=q:=⟨_,rfl⟩
   have hq1:p<=q:=by omega
   have hq2:q<=n:=by omega
   have hq3:q<=p+m:=by omega
   have hmin:min ((p:Int)+(m:Int)) (n:Int)=(q:Int):=by omega
   have HA:=zh (H.out.1.below (by rw[Hg.out];exact HW.out))
   have HB2:=zh (H.out.2.below (by rw[Hg.out];exact HW.out))
   have Hpv:=zh (part_val (k:=p) (m:=m) H.out.1.lt)
   rw[hq] at Hpv
   have i2:(p:Int)<=(q:Int):=by omega
   have i3:(q:Int)<=(c:Int):=by omega
   have i4:(0:Int)<=(p:Int):=by omega
   clear hq
   go_wp2_with fail
   refine (trim_eq (some ⟨bl,oa+p,none⟩) (q-p) (c-p) (a/pw p%pw m) (λi=>lim a (p+i)) wr (HA.out.2.from_ (by omega)) (by omega) (by omega) Hpv.out).mono ?_
   rintro e w' ⟨rfl,rfl⟩
   have HP:=zh (HA.out.2.from2 (k:=p) (m:=q-p) (by omega) Hpv.out)
   have hlp:ln (a/pw p%pw m)<=m:=(ln_le_iff _ _).2 (Nat.mod_lt _ (pw_pos m))
   have hlq:ln (a/pw p%pw m)<=q-p:=by rw[← Hpv.out];exact (ln_le_iff _ _).2 (fv_lt (λi _=>lim_lt a (p+i)))
   clear HA Hpv
   obtain⟨y,hy⟩:∃ y,a/pw p%pw m=y:=⟨_,rfl⟩
   rw[hy] at HP hlp hlq ⊢
   have Hstep:=zh (show a%pw (p+m)=a%pw p+y*pw p from by rw[pw_add,Nat.mod_mul,hy,Nat.mul_comm (pw p)])
   clear hy
   obtain⟨ly,hly⟩:∃ x,ln y=x:=⟨_,rfl⟩
   rw[hly] at HP hlp hlq ⊢
   clear hly
   go_wp2_with fail
   refine (ih (some ⟨bl,oa+p,none⟩) B ly (c-p) m d y b wr (by omega) HP.out HB2.out (by omega) hmd (by omega) (by omega)).mono ?_
   rintro e w2 ⟨AP,np,cp,rfl,hp1,hp2,hp4,hp3⟩
   have HI2:=zh (show BlkU w2 g N o/\fv o N=a%pw p*b from ⟨HI.out.1.below hp3,HI.out.2⟩)
   have HP2:=zh hp2
   have Hb2:=zh (HW.out.trans (hp3.mono (Nat.le_of_lt HI.out.1.lt)))
   have hgl:g<wr.heap.size:=HI.out.1.lt
   have HneP:=zh (show 0<np->∀ ad,AP=some ad->ad.block≠g from λ_ ad e=>by have:=hp4 ad e;omega)
   have Hrm:=zh (show a%pw p*b+y*b*pw p<=a*b from by
    have h1:(a%pw p+y*pw p)*b<=a*b:=Nat.mul_le_mul_right b (by rw[← Hstep.out];exact Nat.mod_le _ _)
    rw[Nat.add_mul,Nat.mul_right_comm] at h1
    exact h1)
   clear hp2 hp3 hp4 hgl HI HW HP HB2
   go_wp2_with fail
   refine (addAt_any g N p AP np cp (y*b) o w2 HI2.out.1 HP2.out HneP.out (by omega) (by rw[HP2.out.1];exact room_of (T:=a*b) (by have:=Hrm.out;omega) Hroom.out (by omega)) (by rw[HI2.out.2];have:=Hrm.out;have:=Hroom.out;omega)).mono ?_
   rintro e w3 ⟨rfl,o3,hB3,hv3,hk3⟩
   have HI3:=zh (show BlkU w3 g N o3/\fv o3 N=a%pw (p+m)*b from ⟨hB3,by rw[hv3,HI2.out.2,Hstep.out,Nat.add_mul,Nat.mul_right_comm]⟩)
   have Hb3:=zh (Kx.low Hb2.out hk3 (λj hj=>by omega) (Nat.le_of_lt HI2.out.1.lt))
   clear hB3 hv3 hk3 HI2 HP2 Hb2
   go_wp2_with fail
   exact⟨⟨p+m,o3,by go_num,by omega,HI3,Hb3⟩,by simp[intOf];omega⟩
  ·have Hset:=zh (show BlkU wr g N o/\fv o N=a*b from ⟨HI.out.1,by rw[HI.out.2,Nat.mod_eq_of_lt (Nat.lt_of_lt_of_le H.out.1.lt (pw_le (by omega)))]⟩)
   have i1:(n:Int)<=(p:Int):=by omega
   go_wp2_with fail
   refine (trim_blk Hset.out (by omega)).mono ?_
   rintro e w' ⟨k,rfl,hk,hnm,rfl⟩
   have Hf:=zh (HR.out _ k _ _ hk hnm (fresh_at (Nat.le_of_eq Hg.out)) (by rw[Hg.out];exact HW.out))
   clear hnm
   go_wp2_with fail
   exact Hf.out
theorem times_step{L:Nat}(ih:TimesOk L):TimesOk (L+1):=by
 intro A B n c m d a b w hL h1 h2 hnc hmd hn hm
 refine calls_cps ?_
 intro R hR
 have HR:=zh (show ∀ A' k c' W',k<=c'->Nm W' A' k (a*b)->(∀ ad,A'=some ad->w.heap.size<=ad.block)->Below w.heap.size w W'->R (.returned (.slice A' k c')) W' from λA' k c' W' g1 g2 g3 g4=>hR.out _ _ ⟨A',k,c',rfl,g1,g2,g3,g4⟩)
 clear hR
 go_enter Tryz.func193,Tryz.ntmps193
 go_upto_if 9 with fail
 go_cut [0,1] (λs0 s1 wx=>∃ A1 n1 c1 B1 m1 d1 a1 b1,s0=.slice A1 n1 c1/\s1=.slice B1 m1 d1/\n1<=300000/\m1<=n1/\n1+m1<=L/\n1<=c1/\m1<=d1/\Hid (Nm w A1 n1 a1/\Nm w B1 m1 b1/\a1*b1=a*b)/\w=wx)
 case first =>
  rcases Nat.lt_or_ge n m with hl|hl
  ·have hb1:decide ((n:Int)<(m:Int))=true:=decide_eq_true (by omega)
   have hb2:decide (n<m)=true:=decide_eq_true hl
   go_wp2_with fail
   go_meet
   exact⟨B,m,d,A,n,c,b,a,rfl,rfl,hm,by omega,by omega,hmd,hnc,zh ⟨h2,h1,Nat.mul_comm _ _⟩,rfl⟩
  ·have hb1:decide ((n:Int)<(m:Int))=false:=decide_eq_false (by omega)
   have hb2:decide (n<m)=false:=decide_eq_false (by omega)
   go_wp2_with fail
   go_meet
   exact⟨A,n,c,B,m,d,a,b,rfl,rfl,hn,hl,by omega,hnc,hmd,zh ⟨h1,h2,rfl⟩,rfl⟩
 case rest =>
  clear h1 h2 hn hm hnc hmd hL
  obtain⟨A1,n1,c1,B1,m1,d1,a1,b1,e1,e2,hn,hm,hL,hnc,hmd,H,e3⟩:=hcut
  subst e1 e2 e3
  rcases Nat.eq_zero_or_pos m1 with h0|h0
  ·have hb0:((m1:Int)==0)=true:=by simp[h0]
   have Hz:=zh (show a*b=0 from by
    rw[← H.out.2.2]
    have:b1=0:=ln_eq_zero.1 (by rw[← H.out.2.1.1,h0])
    rw[this,Nat.mul_zero])
   have Hf:=zh (HR.out none 0 0 w (Nat.le_refl _) (by rw[Hz.out];exact Nm.zero _ _) (λad e=>by cases e) (Below.refl _ _))
   clear h0
   go_wp2_with fail
   exact Hf.out
  ·have hb0:((m1:Int)==0)=false:=by simp;omega
   by_cases hs:m1<40
   ·have hb1:decide ((m1:Int)<40)=true:=decide_eq_true (by omega)
    have hi1:(m1:Int)<40:=by omega
    go_wp2_with fail
    refine (school_any A1 B1 n1 c1 m1 d1 a1 b1 w H.out.1 H.out.2.1 (by omega) (by omega)).mono ?_
    rintro e w' ⟨A',k,c',rfl,g1,g2,g3,g4⟩
    have Hf:=zh (HR.out A' k c' w' g1 (by rw[← H.out.2.2];exact g2) g3 g4)
    clear g2 g3 g4
    go_wp2_with fail
    exact Hf.out
   ·have hb1:decide ((m1:Int)<40)=false:=decide_eq_false (by omega)
    have hi1:¬ (m1:Int)<40:=by omega
    by_cases hp:2*m1<=n1
    ·have hb2:decide ((2:Int)*(m1:Int)<=(n1:Int))=true:=decide_eq_true (by omega)
     have hi2:(2:Int)*(m1:Int)<=(n1:Int):=by omega
     go_wp2_with fail
     refine (pieces_of ih A1 B1 n1 c1 m1 d1 a1 b1 w hL H.out.1 H.out.2.1 hnc hmd hn (by omega) hp).mono ?_
     rintro e w' ⟨A',k,c',rfl,g1,g2,g3,g4⟩
     have Hf:=zh (HR.out A' k c' w' g1 (by rw[← H.out.2.2];exact g2) g3 g4)
     clear g2 g3 g4
     go_wp2_with fail
     exact Hf.out
    ·have hb2:decide ((2:Int)*(m1:Int)<=(n1:Int))=false:=decide_eq_false (by omega)
     have hi2:¬ (2:Int)*(m1:Int)<=(n1:Int):=by omega
     go_wp2_with fail
     refine (karatsuba_of ih A1 B1 n1 c1 m1 d1 a1 b1 w hL H.out.1 H.out.2.1 hnc hmd hn (by omega) hm (by omega)).mono ?_
     rintro e w' ⟨A',k,c',rfl,g1,g2,g3,g4⟩
     have Hf:=zh (HR.out A' k c' w' g1 (by rw[← H.out.2.2];exact g2) g3 g4)
     clear g2 g3 g4
     go_wp2_with fail
     exact Hf.out
theorem times_all:∀ L,TimesOk L
 |0=>λ_ _ _ _ _ _ _ _ _ h=>absurd h (Nat.not_lt_zero _)
 |L+1=>times_step (times_all L)
theorem times_any(A B:Option Addr)(n c m d a b:Nat)(w:World)(h1:Nm w A n a)(h2:Nm w B m b)(hnc:n<=c)(hmd:m<=d)(hn:n<=300000)(hm:m<=300000) :
 Calls Tryz.prog 193 #[.slice A n c,.slice B m d] w (NewNum w (a*b)):=times_all (n+m+1) A B n c m d a b w (Nat.lt_succ_self _) h1 h2 hnc hmd hn hm
end
section
open Go.RowKit
theorem or_low{h l r:Nat}(hl:l<2 ^ r)(hh:h%2 ^ r=0):l ||| h=h+l:=by
 have hq:h=2 ^ r*(h/2 ^ r):=by have:=Nat.div_add_mod h (2 ^ r);omega
 rw[Nat.or_comm,hq,← Nat.two_pow_add_eq_or_of_lt hl]
theorem up_step{o:Nat->Nat}{N p x r F:Nat}(hr:r<32)(hx:x<4294967296)(hN:p+1<N)(h:fv o N=F)(h1:o p<2 ^ r)(h0:∀ j,p<j->j<N->o j=0) :
 (o p ||| (x*2 ^ r%4294967296))<4294967296/\x*2 ^ r/4294967296<2 ^ r/\fv (upd1 (upd1 o p (o p ||| (x*2 ^ r%4294967296))) (p+1) (x*2 ^ r/4294967296)) N=F+x*2 ^ r*pw p:=by
 have h32:(4294967296:Nat)=2 ^ r*2 ^ (32-r):=by rw[← Nat.pow_add,show r+(32-r)=32 by omega]
 have hm:x*2 ^ r%4294967296%2 ^ r=0:=by
  rw[h32,Nat.mod_mul_right_mod,Nat.mul_mod_left]
 have ho:=or_low h1 hm
 have h2r:2 ^ r<=4294967296:=by
  rw[show (4294967296:Nat)=2 ^ 32 from rfl];exact Nat.pow_le_pow_right (by omega) (by omega)
 have hlt:=Nat.mod_lt (x*2 ^ r) (show 0<4294967296 by omega)
 refine⟨Nat.or_lt_two_pow (n:=32) (by omega) hlt,?_,?_⟩
 ·rw[Nat.div_lt_iff_lt_mul (by omega),Nat.mul_comm]
  exact Nat.mul_lt_mul_of_pos_left hx (Nat.pow_pos (by omega))
 ·rw[ho]
  obtain⟨t,ht⟩:∃ t,x*2 ^ r=t:=⟨_,rfl⟩
  rw[ht]
  have a1:=fv_upd (f:=o) (k:=p) (x:=t%4294967296+o p) (n:=N) (by omega)
  have a2:=fv_upd (f:=upd1 o p (t%4294967296+o p)) (k:=p+1) (x:=t/4294967296) (n:=N) hN
  rw[upd1_ne (by omega),h0 (p+1) (by omega) hN,Nat.zero_mul,Nat.add_zero] at a2
  rw[a2]
  have a3:(t%4294967296+4294967296*(t/4294967296))*pw p=t*pw p:=by rw[Nat.mod_add_div]
  have a4:t/4294967296*pw (p+1)=4294967296*(t/4294967296)*pw p:=by rw[pw_succ,← Nat.mul_assoc,Nat.mul_comm (t/4294967296)]
  rw[Nat.add_mul] at a3 a1
  omega
theorem up_alg{v i q r x:Nat}(h:lim v i=x):2 ^ r*fv (lim v) i*pw q+x*2 ^ r*pw (i+q)=2 ^ r*fv (lim v) (i+1)*pw q:=by
 rw[fv_succ,h,pw_add,Nat.mul_add,Nat.add_mul]
 congr 1
 ac_rfl
theorem up_any(A:Option Addr)(n c v s:Nat)(w:World)(h1:Nm w A n v)(hn:n<=300000)(hs:s<=10000000) :
 Calls Tryz.prog 197 #[.slice A n c,.int .i64 (s:Nat)] w (NewNum w (v*2 ^ s)):=by
 refine calls_cps ?_
 intro R hR
 have HR:=zh (show ∀ A' k c' W',k<=c'->Nm W' A' k (v*2 ^ s)->(∀ ad,A'=some ad->w.heap.size<=ad.block)->Below w.heap.size w W'->R (.returned (.slice A' k c')) W' from λA' k c' W' g1 g2 g3 g4=>hR.out _ _ ⟨A',k,c',rfl,g1,g2,g3,g4⟩)
 clear hR
 rcases Nat.eq_zero_or_pos n with h0|h0
 ·have hb0:((n:Int)==0)=true:=by simp[h0]
  have hv0:v=0:=ln_eq_zero.1 (by rw[← h1.1,h0])
  have Hf:=zh (HR.out none 0 0 w (Nat.le_refl _) (by rw[hv0,Nat.zero_mul];exact Nm.zero _ _) (λad e=>by cases e) (Below.refl _ _))
  clear h0 hv0
  go_enter Tryz.func197,Tryz.ntmps197
  go_wp2_with fail
  exact Hf.out
 ·have hb0:((n:Int)==0)=false:=by simp;omega
  obtain⟨q,hq⟩:∃ q,s/32=q:=⟨_,rfl⟩
  obtain⟨r,hr⟩:∃ r,s%32=r:=⟨_,rfl⟩
  have hqi:(s:Int)/32=(q:Int):=by omega
  have hri:(s:Int)%32=(r:Int):=by omega
  have hr32:r<32:=by omega
  have hq2:q<=400000:=by omega
  have Hs:=zh (show v*2 ^ s=2 ^ r*v*pw q from by
   rw[pw_two,show s=32*q+r by omega,Nat.pow_add,Nat.mul_comm v,Nat.mul_assoc (2 ^ (32*q)),Nat.mul_comm (2 ^ (32*q))])
  have H1:=zh h1
  have hmk:(Instr.makeSlice 96 (.int .i64 ((n:Int)+(q:Int)+1)) (.int .i64 ((n:Int)+(q:Int)+1))).run Tryz.prog w=.ok (.slice (some ⟨w.heap.size,0,none⟩) (n+q+1) (n+q+1)) (w.alloc (.cells (madeCells #[Value.int .u32 0] (n+q+1)) 185)):=by
   have h:=run_mkU (n+q+1) (by omega) w .i64
   rwa [Int.natCast_add,Int.natCast_add] at h
  have HBk:=zh (BlkU.new w (n+q+1))
  have HbA:=zh (below_new w (.cells (madeCells #[Value.int .u32 0] (n+q+1)) 185))
  obtain⟨W1,hW1⟩:∃ W1,w.alloc (.cells (madeCells #[Value.int .u32 0] (n+q+1)) 185)=W1:=⟨_,rfl⟩
  obtain⟨g,hg⟩:∃ g,w.heap.size=g:=⟨_,rfl⟩
  rw[hW1] at HBk HbA hmk
  rw[hg] at HBk HbA hmk
  have Hg:=zh hg
  clear hW1 hg h1 hq hr h0
  go_enter Tryz.func197,Tryz.ntmps197
  go_wp2_with fail
  go_loopw [27] (λs27 wr=>∃ (i:Nat) (o:Nat->Nat),s27=.int .i64 (i:Nat)/\i<=n/\Hid (BlkU wr g (n+q+1) o/\fv o (n+q+1)=2 ^ r*fv (lim v) i*pw q/\o (i+q)<2 ^ r/\(∀ j,i+q<j->j<n+q+1->o j=0))/\Hid (Below g w wr)) (λs27 _=>n-(intOf s27).toNat)
  case atStart=>exact⟨0,λ_=>0,rfl,Nat.zero_le _,zh ⟨HBk.out,by rw[fv_zero];simp[fv],Nat.pow_pos (by omega),λ_ _ _=>rfl⟩,HbA⟩
  case round =>
   obtain⟨i,o,rfl,hi,HI,HW⟩:=hrel
   by_cases hlt:i<n
   ·have i1:(i:Int)<(n:Int):=by omega
    obtain⟨bl,oa,rfl,hbl,q0⟩:=(H1.out.2.below (by rw[Hg.out];exact HW.out)).at_ hlt
    have hx:=lim_lt v i
    obtain⟨x,hxx⟩:∃ x,lim v i=x:=⟨_,rfl⟩
    rw[hxx] at q0 hx
    have Hxx:=zh hxx
    clear hxx
    have f0:=HI.out.1.frozen
    have c0:=HI.out.1.cell (i:=i+q) (by omega)
    have c1:=HI.out.1.cell (i:=i+q+1) (by omega)
    have hust:=up_step (o:=o) (N:=n+q+1) (p:=i+q) hr32 hx (by omega) HI.out.2.1 HI.out.2.2.1 HI.out.2.2.2
    obtain⟨hu1,hu2,hu3⟩:=hust
    have hxr:x*2 ^ r<18446744073709551616:=by
     have h1:x*2 ^ r<4294967296*2 ^ r:=Nat.mul_lt_mul_of_pos_right hx (Nat.pow_pos (by omega))
     have h2:2 ^ r<=2 ^ 31:=Nat.pow_le_pow_right (by omega) (by omega)
     omega
    have hwr:IntKind.u64.wrap ((x:Int)*2 ^ r)=((x*2 ^ r:Nat):Int):=by
     have e:((x:Int)*2 ^ r)=((x*2 ^ r:Nat):Int):=by simp
     rw[e]
     exact IntWalk.u64_in _ (by omega)
    have h2u:2 ^ r<=2 ^ 31:=Nat.pow_le_pow_right (by omega) (by omega)
    have He1:=zh (show bits .or .u32 ((o (i+q):Nat):Int) (IntKind.u64.wrap ((x:Int)*2 ^ r)%4294967296)=((o (i+q) ||| (x*2 ^ r%4294967296):Nat):Int) from by
     rw[hwr,show (((x*2 ^ r:Nat):Int)%4294967296)=((x*2 ^ r%4294967296:Nat):Int) by omega]
     exact u32_or_nat _ _ (by have:=HI.out.2.2.1;omega) (Nat.mod_lt _ (by omega)))
    have He2:=zh (show IntKind.u64.wrap ((x:Int)*2 ^ r)/4294967296%4294967296=((x*2 ^ r/4294967296:Nat):Int) from by
     rw[hwr];omega)
    have Hn:=zh (show BlkU ((wr.setCell ⟨g,i+q,none⟩ (.int .u32 ((o (i+q) ||| (x*2 ^ r%4294967296):Nat):Int))).setCell ⟨g,i+q+1,none⟩ (.int .u32 ((x*2 ^ r/4294967296:Nat):Int))) g (n+q+1) (upd1 (upd1 o (i+q) (o (i+q) ||| (x*2 ^ r%4294967296))) (i+q+1) (x*2 ^ r/4294967296))/\fv (upd1 (upd1 o (i+q) (o (i+q) ||| (x*2 ^ r%4294967296))) (i+q+1) (x*2 ^ r/4294967296)) (n+q+1)=2 ^ r*fv (lim v) (i+1)*pw q/\upd1 (upd1 o (i+q) (o (i+q) ||| (x*2 ^ r%4294967296))) (i+q+1) (x*2 ^ r/4294967296) (i+1+q)<2 ^ r/\(∀ j,i+1+q<j->j<n+q+1->upd1 (upd1 o (i+q) (o (i+q) ||| (x*2 ^ r%4294967296))) (i+q+1) (x*2 ^ r/4294967296) j=0) from by
     refine⟨(HI.out.1.set _ _ hu1).set _ _ (by omega),?_,?_,λj j1 j2=>?_⟩
     ·refine hu3.trans ?_
      exact up_alg Hxx.out
     ·rw[show i+1+q=i+q+1 by omega,upd1_self];exact hu2
     ·rw[upd1_ne (by omega),upd1_ne (by omega)];exact HI.out.2.2.2 j (by omega) j2)
    clear hu1 hu2 hu3 hxr hwr h2u
    go_wp2_with fail
    rw[He1.out,He2.out]
    exact⟨⟨i+1,_,by go_num,by omega,Hn,zh ((HW.out.setCell (by simp) _).setCell (by simp) _)⟩,by simp[intOf];omega⟩
   ·obtain rfl:n=i:=by omega
    have Hset:=zh (show BlkU wr g (n+q+1) o/\fv o (n+q+1)=v*2 ^ s from ⟨HI.out.1,by rw[HI.out.2.1,H1.out.val,Hs.out]⟩)
    go_wp2_with fail
    refine (trim_blk Hset.out (by omega)).mono ?_
    rintro e w' ⟨k,rfl,hk,hnm,rfl⟩
    have Hf:=zh (HR.out _ k _ _ hk hnm (fresh_at (Nat.le_of_eq Hg.out)) (by rw[Hg.out];exact HW.out))
    clear hnm
    go_wp2_with fail
    exact Hf.out
def dwn(y r i:Nat):Nat->Nat:=λj=>if j<i then lim (y/2 ^ r) j else lim y j
theorem dwn_upd{y r i:Nat}:∀ j,upd1 (dwn y r i) i (lim (y/2 ^ r) i) j=dwn y r (i+1) j:=λj=>by
 unfold upd1 dwn
 by_cases h:j=i
 ·subst h;simp
 ·by_cases h2:j<i
  ·rw[if_neg h,if_pos h2,if_pos (by omega)]
  ·rw[if_neg h,if_neg h2,if_neg (by omega)]
theorem down_any(A:Option Addr)(n c v s:Nat)(w:World)(h1:Nm w A n v)(hnc:n<=c)(hn:n<=600000)(hs:s<=30000000) :
 Calls Tryz.prog 298 #[.slice A n c,.int .i64 (s:Nat)] w (NewNum w (v/2 ^ s)):=by
 refine calls_cps ?_
 intro R hR
 have HR:=zh (show ∀ A' k c' W',k<=c'->Nm W' A' k (v/2 ^ s)->(∀ ad,A'=some ad->w.heap.size<=ad.block)->Below w.heap.size w W'->R (.returned (.slice A' k c')) W' from λA' k c' W' g1 g2 g3 g4=>hR.out _ _ ⟨A',k,c',rfl,g1,g2,g3,g4⟩)
 clear hR
 obtain⟨q,hq⟩:∃ q,s/32=q:=⟨_,rfl⟩
 obtain⟨r,hr⟩:∃ r,s%32=r:=⟨_,rfl⟩
 have hqi:(s:Int)/32=(q:Int):=by omega
 have hri:(s:Int)%32=(r:Int):=by omega
 have hr32:r<32:=by omega
 have hq2:q<=1000000:=by omega
 have Hs:=zh (show v/2 ^ s=v/pw q/2 ^ r from by
  rw[pw_two,Nat.div_div_eq_div_mul,← Nat.pow_add,show 32*q+r=s by omega])
 clear hq hr
 rcases Nat.lt_or_ge q n with hl|hl
 ·obtain⟨bl,oa,rfl,hbl,_⟩:=h1.2.at_ hl
  have H1:=zh h1
  have Hh:=zh (h1.high (k:=q) (by omega))
  have i0:decide ((n:Int)<=(q:Int))=false:=decide_eq_false (by omega)
  have i00:decide (n<=q)=false:=decide_eq_false (by omega)
  have i1:(q:Int)<(n:Int):=by omega
  have i2:(q:Int)<=(c:Int):=by omega
  have i3:(q:Int)<(c:Int):=by omega
  have i4:(n:Int)<=(c:Int):=by omega
  have i5:q<c:=by omega
  clear h1
  go_enter Tryz.func298,Tryz.ntmps298
  go_wp2_with fail
  refine (own_any (some ⟨bl,oa+q,none⟩) (n-q) (c-q) (lim (v/pw q)) w Hh.out.2 (by omega)).mono ?_
  rintro e w1 ⟨A1,c1,rfl,hc1,ho,hb1⟩
  obtain⟨m,hm⟩:∃ m,n-q=m:=⟨_,rfl⟩
  obtain⟨y,hy⟩:∃ y,v/pw q=y:=⟨_,rfl⟩
  rw[hm] at ho Hh hc1 ⊢
  rw[hy] at ho Hh Hs
  have hm0:0<m:=by omega
  have hm1:m<=600000:=by omega
  obtain⟨g,cg,hv,hg0,hg1⟩:=ho.form hm0
  have hA:A1=some ⟨g,0,none⟩:=by injection hv
  subst hA
  have HBk:=zh (show BlkU w1 g m (dwn y r 0) from (BlkU.of_own (lim_Lm y m) ho).congr λi _=>by unfold dwn;rw[if_neg (Nat.not_lt_zero _)])
  have HbA:=zh hb1
  have Hy:=zh (show y<pw m from Hh.out.lt)
  clear ho hb1 hv hy hm hl H1 i0 i00 i1 i2 i3 i4 i5
  go_wp2_with fail
  go_loopw [25] (λs25 wr=>∃ (i:Nat),s25=.int .i64 (i:Nat)/\i<=m/\Hid (BlkU wr g m (dwn y r i))/\Hid (Below w.heap.size w wr)) (λs25 _=>m-(intOf s25).toNat)
  case atStart=>exact⟨0,rfl,Nat.zero_le _,HBk,HbA⟩
  case round =>
   obtain⟨i,rfl,hi,HI,HW⟩:=hrel
   by_cases hlt:i<m
   ·have i1:(i:Int)<(m:Int):=by omega
    have f0:=HI.out.frozen
    have c0:=HI.out.cell (i:=i) (by omega)
    have hx:dwn y r i i=lim y i:=by unfold dwn;rw[if_neg (Nat.lt_irrefl _)]
    rw[hx] at c0
    have hxl:=lim_lt y i
    have hst:=down_step (y:=y) (i:=i) hr32
    obtain⟨x,hxx⟩:∃ x,lim y i=x:=⟨_,rfl⟩
    rw[hxx] at c0 hxl hst
    clear hx hxx
    by_cases hnx:i+1<m
    ·have i2:(i:Int)+1<(m:Int):=by omega
     have c1:=HI.out.cell hnx
     have hx1:dwn y r i (i+1)=lim y (i+1):=by unfold dwn;rw[if_neg (by omega)]
     rw[hx1] at c1
     have hzl:=lim_lt y (i+1)
     obtain⟨z,hzz⟩:∃ z,lim y (i+1)=z:=⟨_,rfl⟩
     rw[hzz] at c1 hzl hst
     have Hst:=zh hst
     clear hx1 hzz hst
     have He:=zh (show bits .or .u64 (x:Int) ((z:Int)*4294967296)/2 ^ r%4294967296=((lim (y/2 ^ r) i:Nat):Int) from by
      have e1:bits .or .u64 (x:Int) ((z*4294967296:Nat):Int)=((x ||| z*4294967296:Nat):Int):=u64_or_nat x (z*4294967296) (by omega) (by omega)
      have e2:x ||| z*4294967296=z*4294967296+x:=or_low (r:=32) (by omega) (by omega)
      have e3:((z:Int)*4294967296)=((z*4294967296:Nat):Int):=by simp
      rw[e3,e1,e2,Hst.out,show x+4294967296*z=z*4294967296+x by omega]
      simp)
     have Hn:=zh ((HI.out.set i (lim (y/2 ^ r) i) (lim_lt _ _)).congr λj _=>dwn_upd j)
     have Hbn:=zh (show Below w.heap.size w (wr.setCell ⟨g,i,none⟩ (.int .u32 ((lim (y/2 ^ r) i:Nat):Int))) from HW.out.setCell (by simp;omega) _)
     go_wp2_with fail
     rw[He.out]
     exact⟨⟨i+1,by go_num,by omega,Hn,Hbn⟩,by simp[intOf];omega⟩
    ·have i2:¬ (i:Int)+1<(m:Int):=by omega
     have i3:decide ((i:Int)+1<(m:Int))=false:=decide_eq_false i2
     have hz:lim y (i+1)=0:=lim_ge (Nat.lt_of_lt_of_le Hy.out (pw_le (by omega)))
     rw[hz,Nat.mul_zero,Nat.add_zero] at hst
     have Hst:=zh hst
     clear hz hst
     have He:=zh (show (x:Int)/2 ^ r%4294967296=((lim (y/2 ^ r) i:Nat):Int) from by
      rw[Hst.out];simp)
     have Hn:=zh ((HI.out.set i (lim (y/2 ^ r) i) (lim_lt _ _)).congr λj _=>dwn_upd j)
     have Hbn:=zh (show Below w.heap.size w (wr.setCell ⟨g,i,none⟩ (.int .u32 ((lim (y/2 ^ r) i:Nat):Int))) from HW.out.setCell (by simp;omega) _)
     go_wp2_with fail
     rw[He.out]
     exact⟨⟨i+1,by go_num,by omega,Hn,Hbn⟩,by simp[intOf];omega⟩
   ·obtain rfl:m=i:=by omega
    have Hset:=zh (show BlkU wr g m (lim (y/2 ^ r))/\fv (lim (y/2 ^ r)) m=v/2 ^ s from ⟨HI.out.congr λj hj=>by unfold dwn;rw[if_pos hj],by rw[Hs.out,fv_lim_eq (Nat.lt_of_le_of_lt (Nat.div_le_self _ _) Hy.out)]⟩)
    go_wp2_with fail
    refine (natTrim_any (some ⟨g,0,none⟩) m c1 (lim (y/2 ^ r)) wr (Hset.out.1.rd0 m (Nat.le_refl _)) hc1 (by omega)).mono ?_
    rintro e w' ⟨k,rfl,hk,hnm,rfl⟩
    have Hf:=zh (HR.out _ k c1 _ (by omega) (by rw[← Hset.out.2];exact hnm) (fresh_at hg0) HW.out)
    clear hnm
    go_wp2_with fail
    exact Hf.out
 ·have i0:decide ((n:Int)<=(q:Int))=true:=decide_eq_true (by omega)
  have i00:decide (n<=q)=true:=decide_eq_true (by omega)
  have i1:(n:Int)<=(q:Int):=by omega
  have Hf:=zh (HR.out none 0 0 w (Nat.le_refl _) (by rw[Hs.out,Nat.div_eq_of_lt (Nat.lt_of_lt_of_le h1.lt (pw_le hl)),Nat.zero_div];exact Nm.zero _ _) (λad e=>by cases e) (Below.refl _ _))
  go_enter Tryz.func298,Tryz.ntmps298
  go_wp2_with fail
  exact Hf.out
end
end
end Go.Proofs.YtjibohkeapdalaaGreatDoor
