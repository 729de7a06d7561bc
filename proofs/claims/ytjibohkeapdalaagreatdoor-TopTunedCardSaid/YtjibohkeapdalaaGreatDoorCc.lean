/-
  Contracts of nat's byWord, digit and part; each states its condition. Contracts of nat's Check, Of, Bits, Cmp, Mul, DivMod, Pow, Root; each states its condition.
-/
import Derived.Test.YtjibohkeapdalaaGreatDoorCa
import Derived.BigQuiet
import Derived.Deep.CutBlock
import Derived.Laws.CopyOwn
import Derived.Deep.RegionHeld3
import Derived.Deep.LoopGhost
namespace Go.Proofs.YtjibohkeapdalaaGreatDoor
set_option maxHeartbeats 4000000
set_option maxRecDepth 16000
section
section
open Go.RowKit
def WordP(w:World)(q r:Nat)(e:Ending)(w':World):Prop:=∃ A' k c',e=.returned (.tuple #[.slice A' k c',.int .u32 (r:Nat)])/\k<=c'/\Nm w' A' k q/\(∀ ad,A'=some ad->w.heap.size<=ad.block)/\Below w.heap.size w w'
theorem byWord_any(A:Option Addr)(n c a x:Nat)(w:World)(h1:Nm w A n a)(hn:n<=1000000)(hx0:0<x)(hx:x<4294967296) :
 Calls Tryz.prog 303 #[.slice A n c,.int .u32 (x:Nat)] w (WordP w (a/x) (a%x)):=by
 refine calls_cps ?_
 intro R hR
 have HR:=zh (show ∀ A' k c' W' r,r=a%x->k<=c'->Nm W' A' k (a/x)->(∀ ad,A'=some ad->w.heap.size<=ad.block)->Below w.heap.size w W'->R (.returned (.tuple #[.slice A' k c',.int .u32 (r:Nat)])) W' from λA' k c' W' r g0 g1 g2 g3 g4=>hR.out _ _ ⟨A',k,c',by rw[g0],g1,g2,g3,g4⟩)
 have H:=zh h1
 have Hle:=zh (show a/x<pw n from Nat.lt_of_le_of_lt (Nat.div_le_self _ _) h1.lt)
 clear hR h1
 have hmk:(Instr.makeSlice 96 (.int .i64 (n:Int)) (.int .i64 (n:Int))).run Tryz.prog w=.ok (.slice (some ⟨w.heap.size,0,none⟩) n n) (w.alloc (.cells (madeCells #[Value.int .u32 0] n) 185)):=run_mkU n (by omega) w .i64
 have HB:=zh (BlkU.new w n)
 have Hb:=zh (below_new w (.cells (madeCells #[Value.int .u32 0] n) 185))
 obtain⟨W1,hW1⟩:∃ W1,w.alloc (.cells (madeCells #[Value.int .u32 0] n) 185)=W1:=⟨_,rfl⟩
 obtain⟨g,hg⟩:∃ g,w.heap.size=g:=⟨_,rfl⟩
 rw[hW1] at HB Hb hmk
 rw[hg] at HB Hb hmk
 have Hg:=zh hg
 clear hW1 hg
 go_enter Tryz.func303,Tryz.ntmps303
 go_wp2_with fail
 go_loopw [7,8] (λs7 s8 wr=>∃ (k r:Nat) (o:Nat->Nat),s7=.int .u64 (r:Nat)/\s8=.int .i64 ((k:Int)-1)/\k<=n/\r<x/\Hid (BlkU wr g n o/\(∀ i,k<=i->i<n->o i=lim (a/x) i)/\r=a/pw k%x)/\Hid (Below g w wr)) (λ_ s8 _=>(intOf s8+1).toNat)
 case atStart=>exact⟨n,0,λ_=>0,rfl,rfl,Nat.le_refl _,hx0,zh ⟨HB.out,λi g1 g2=>by omega,by rw[Nat.div_eq_of_lt H.out.lt,Nat.zero_mod]⟩,Hb⟩
 case round =>
  obtain⟨k,r,o,rfl,rfl,hk,hr,HI,HW⟩:=hrel
  rcases k with _|k
  ·have Hset:=zh (show BlkU wr g n o/\fv o n=a/x from ⟨HI.out.1,by rw[fv_congr (λi hi=>HI.out.2.1 i (Nat.zero_le _) hi),fv_lim_eq Hle.out]⟩)
   have Hrr:=zh (show r=a%x from by rw[HI.out.2.2,pw_zero,Nat.div_one])
   go_wp2_with fail
   refine (trim_blk Hset.out (by omega)).mono ?_
   rintro e w' ⟨k,rfl,hk,hnm,rfl⟩
   have Hf:=zh (HR.out _ k _ _ r Hrr.out hk hnm (fresh_at (Nat.le_of_eq Hg.out)) (by rw[Hg.out];exact HW.out))
   clear hnm
   have hr2:((r:Int))%4294967296=(r:Int):=by omega
   go_wp2_with fail
   exact Hf.out
  ·have i1:(k:Int)<(n:Int):=by omega
   have i2:(0:Int)<=(k:Int):=by omega
   obtain⟨bl,oa,rfl,hbl,q0⟩:=(H.out.2.below (by rw[Hg.out];exact HW.out)).at_ (k:=k) (by omega)
   have hy:=lim_lt a k
   have f0:=HI.out.1.frozen
   have c0:=HI.out.1.cell (i:=k) (by omega)
   obtain⟨t,ht⟩:∃ t,r*4294967296+lim a k=t:=⟨_,rfl⟩
   have hst:=word_step (a:=a) (w:=x) (i:=k) (t:=t) hx0 (by rw[← ht,HI.out.2.2])
   obtain⟨y,hyy⟩:∃ y,lim a k=y:=⟨_,rfl⟩
   rw[hyy] at q0 hy ht
   have he:bits .or .u64 ((r:Int)*4294967296) (y:Int)=(t:Int):=by
    have e1:bits .or .u64 ((r*4294967296:Nat):Int) (y:Int)=((r*4294967296 ||| y:Nat):Int):=u64_or_nat (r*4294967296) y (by omega) (by omega)
    have e2:r*4294967296 ||| y=r*4294967296+y:=by rw[Nat.or_comm];exact or_low (r:=32) (by omega) (by omega)
    have e3:((r:Int)*4294967296)=((r*4294967296:Nat):Int):=by simp
    rw[e3,e1,e2,ht]
   have htl:t<18446744073709551616:=by omega
   have Hst:=zh hst
   have x1:((x:Nat):Int)≠0:=by omega
   have Hn:=zh (show BlkU (wr.setCell ⟨g,k,none⟩ (.int .u32 ((t:Int)/(x:Int)))) g n (upd1 o k (t/x))/\(∀ i,k<=i->i<n->upd1 o k (t/x) i=lim (a/x) i)/\t%x=a/pw k%x from by
    refine⟨?_,λi g1 g2=>?_,hst.2.2⟩
    ·have h:=HI.out.1.set k (t/x) hst.2.1
     rwa [Int.natCast_ediv] at h
    ·by_cases e:i=k
     ·subst e;rw[upd1_self,hst.1]
     ·rw[upd1_ne e];exact HI.out.2.1 i (by omega) g2)
   have He1:=zh (show IntKind.u64.wrap ((t:Int)/(x:Int))%4294967296=(t:Int)/(x:Int) from by
    have h:IntKind.u64.wrap ((t/x:Nat):Int)%4294967296=((t/x:Nat):Int):=by rw[IntWalk.u64_in _ (by have:=hst.2.1;omega)];have:=hst.2.1;omega
    rwa [Int.natCast_ediv] at h)
   have hxi:(0:Int)<(x:Int):=by omega
   have hmr:=Nat.mod_lt t hx0
   clear hst ht hyy
   go_wp2_with fail
   go_region
   go_wp2_with fail
   rw[He1.out]
   exact⟨⟨k,t%x,_,by simp,by go_num,by omega,hmr,zh Hn.out,zh (HW.out.setCell (by simp) _).drew⟩,by simp[intOf]⟩
end
section
open Go.RowKit
theorem or_up{x y t:Nat}(h:x*4294967296+y=t)(hy:y<4294967296)(hx:x<4294967296):bits .or .u64 ((x:Int)*4294967296) (y:Int)=(t:Int):=by
 have e1:bits .or .u64 ((x*4294967296:Nat):Int) (y:Int)=((x*4294967296 ||| y:Nat):Int):=u64_or_nat (x*4294967296) y (by omega) (by omega)
 have e2:x*4294967296 ||| y=x*4294967296+y:=by rw[Nat.or_comm];exact or_low (r:=32) (by omega) (by omega)
 have e3:((x:Int)*4294967296)=((x*4294967296:Nat):Int):=by simp
 rw[e3,e1,e2,h]
theorem sub32_ex(x y c:Nat)(w:World)(hx:x<4294967296)(hy:y<4294967296)(hc:c<=1) :
 Calls Tryz.prog 359 #[.int .u32 (x:Nat),.int .u32 (y:Nat),.int .u32 (c:Nat)] w λe w'=>∃ s b:Nat,e=.returned (.tuple #[.int .u32 (s:Nat),.int .u32 (b:Nat)])/\s<4294967296/\b<=1/\Hid (s+y+c=x+4294967296*b)/\w=w':=
 (sub32_any x y c w hx hy hc).mono λ_ _ ⟨h1,h2⟩=>⟨_,_,h1,Nat.mod_lt _ (by omega),by split<;>omega,zh (sub_digit hx hy hc),h2⟩
theorem add32_ex(x y c:Nat)(w:World)(hx:x<4294967296)(hy:y<4294967296)(hc:c<=1) :
 Calls Tryz.prog 306 #[.int .u32 (x:Nat),.int .u32 (y:Nat),.int .u32 (c:Nat)] w λe w'=>∃ s b:Nat,e=.returned (.tuple #[.int .u32 (s:Nat),.int .u32 (b:Nat)])/\s<4294967296/\b<=1/\Hid (s+4294967296*b=x+y+c)/\w=w':=
 (add32_any x y c w hx hy hc).mono λ_ _ ⟨h1,h2⟩=>⟨_,_,h1,Nat.mod_lt _ (by omega),by omega,zh (Nat.mod_add_div _ _),h2⟩
theorem digit_any(g N o cu m d b U:Nat)(B:Option Addr)(f:Nat->Nat)(w:World)(h:BlkU w g N f)(h2:Nm w B (m+2) b)(hne:∀ a,B=some a->a.block≠g)(hN:N<=4000000)(hm:m<=600000)(ho:o+m+3<=N)
 (hn:2147483648<=lim b (m+1)) (hU:fv (λi=>f (o+i)) (m+3)=U) (hs:U<b*4294967296) :
 Calls Tryz.prog 305 #[.slice (some ⟨g,o,none⟩) (m+3) cu,.slice B (m+2) d] w λe w'=>e=.returned (.int .u32 ((U/b:Nat)))/\∃ f',BlkU w' g N f'/\fv (λi=>f' (o+i)) (m+3)=U%b/\(∀ i,i<o\/o+m+2<i->f' i=f i)/\Kx (λj=>j=g) w w':=by
 refine calls_cps ?_
 intro R hR
 have HR:=zh (show ∀ W' f' q,q=U/b->BlkU W' g N f'->fv (λi=>f' (o+i)) (m+3)=U%b->(∀ i,i<o\/o+m+2<i->f' i=f i)->Kx (λj=>j=g) w W'->R (.returned (.int .u32 (q:Nat))) W' from λW' f' q g0 g1 g2 g3 g4=>hR.out _ _ ⟨by rw[g0],f',g1,g2,g3,g4⟩)
 have HG:=gs_of (u:=λi=>f (o+i)) (v:=lim b) (m:=m) (λi hi=>h.1 _ (by omega)) (lim_Lm b _) hn (by rw[h2.val,hU];exact hs)
 rw[hU,h2.val] at HG
 have hcu:=h.cell (i:=o+(m+2)) (by omega)
 have hcu1:=h.cell (i:=o+(m+1)) (by omega)
 have hcu2:=h.cell (i:=o+m) (by omega)
 obtain⟨bl,ov,rfl,hbl,hv1⟩:=h2.2.at_ (k:=m+1) (by omega)
 obtain⟨_,_,e3,_,hv2⟩:=h2.2.at_ (k:=m) (by omega)
 injection e3 with e3
 injection e3 with e31 e32
 subst e31 e32
 have HB:=zh h
 have HU:=zh hU
 have H2:=zh h2
 have hne:=hne _ rfl
 have l1:=h.1 (o+(m+2)) (by omega)
 have l2:=h.1 (o+(m+1)) (by omega)
 have l3:=h.1 (o+m) (by omega)
 have l4:=lim_lt b (m+1)
 have l5:=lim_lt b m
 obtain⟨x2,e1⟩:∃ x,f (o+(m+2))=x:=⟨_,rfl⟩
 obtain⟨x1,e2⟩:∃ x,f (o+(m+1))=x:=⟨_,rfl⟩
 obtain⟨x0,e3⟩:∃ x,f (o+m)=x:=⟨_,rfl⟩
 obtain⟨v1,e4⟩:∃ x,lim b (m+1)=x:=⟨_,rfl⟩
 obtain⟨v0,e5⟩:∃ x,lim b m=x:=⟨_,rfl⟩
 rw[e1,e2,e3,e4,e5] at HG
 rw[e1] at hcu l1
 rw[e2] at hcu1 l2
 rw[e3] at hcu2 l3
 rw[e4] at hv1 l4 hn
 rw[e5] at hv2 l5
 obtain⟨top,ht⟩:∃ t,x2*4294967296+x1=t:=⟨_,rfl⟩
 rw[ht] at HG
 have hot:=or_up ht l2 l1
 have htl:top<18446744073709551616:=by omega
 have hg1:=HG.first
 have hg2:=HG.first_le
 obtain⟨G,hGe⟩:∃ G,top/v1=G:=⟨_,rfl⟩
 obtain⟨r,hre⟩:∃ r,top%v1=r:=⟨_,rfl⟩
 have hq1:(top:Int)/(v1:Int)=(G:Int):=by rw[← hGe];simp
 have hq2:(top:Int)%(v1:Int)=(r:Int):=by rw[← hre];simp
 have hrl:r<v1:=by rw[← hre];exact Nat.mod_lt _ (by omega)
 have hGr:Hid (G*v1+r=top):=zh (by rw[← hGe,← hre,Nat.mul_comm];exact Nat.div_add_mod _ _)
 rw[hGe] at hg1 hg2
 have Hg1:=zh hg1
 have HGs:=zh HG
 have Hs:=zh hs
 have i0:(o:Int)+(m:Int)+3<=(N:Int):=by omega
 have v1p:(0:Int)<(v1:Int):=by omega
 clear hR h h2 hU hs HG e1 e2 e3 e4 e5 ht hGe hre hg1 hbl
 go_enter Tryz.func305,Tryz.ntmps305
 go_wp2_with fail
 go_quiet (fail)
 go_wp2_with fail
 go_quiet (fail)
 go_upto_block 0 with fail
 go_cut [7] (λs7 wx=>∃ G':Nat,s7=.int .u64 (G':Nat)/\G'<4294967296/\Hid (U/b<=G'/\G'<=U/b+1)/\Qt w wx)
 case first =>
  go_wp2_with fail
  go_loopw [7,8] (λs7 s8 wr=>∃ (G r:Nat),s7=.int .u64 (G:Nat)/\s8=.int .u64 (r:Nat)/\G<=4294967297/\r<4294967296/\Hid (G*v1+r=top/\U/b<=G)/\Qt w wr) (λs7 _ _=>(intOf s7).toNat)
  case atStart=>exact⟨G,r,rfl,by rw[hq2],hg2,by omega,zh ⟨hGr.out,Hg1.out⟩,⟨_,World.drewN_drewN _ _ _⟩⟩
  case round =>
   clear hq1 hq2 hrl hGr Hg1 hg2
   obtain⟨G,r,rfl,rfl,hG,hr,HI,⟨q,rfl⟩⟩:=hrel
   obtain⟨x,hx⟩:∃ x,r*4294967296+x0=x:=⟨_,rfl⟩
   obtain⟨z,hz⟩:∃ z,G*v0=z:=⟨_,rfl⟩
   have hor:=or_up hx l3 hr
   have hzi:(G:Int)*(v0:Int)=(z:Int):=by rw[← hz];simp
   have hz2:G<4294967296->z<18446744073709551616:=λh=>by
    have:=mul_bound h l5 (show 0<4294967296 by omega) (show 0<4294967296 by omega)
    omega
   have Hbad:=zh (show 4294967296<=G\/x<z->U/b<G from λh=>HGs.out.down HI.out.1 (by rw[hz,hx];exact h))
   have Hend:=zh (show G<4294967296->z<=x->G<=U/b+1 from λh1 h2=>HGs.out.stands HI.out.1 (by rw[hz,hx];exact h2) h1)
   have Hstep:=zh (show U/b<G->0<G/\(G-1)*v1+(r+v1)=top from λh=>⟨Nat.lt_of_le_of_lt (Nat.zero_le _) h,by
    have h1:=HI.out.1
    have h0:=Nat.lt_of_le_of_lt (Nat.zero_le _) h
    obtain⟨p,rfl⟩:∃ p,G=p+1:=⟨G-1,by omega⟩
    rw[Nat.add_mul,Nat.one_mul] at h1
    rw[Nat.add_sub_cancel];omega⟩)
   clear hz hx
   rcases Nat.lt_or_ge G 4294967296 with hG2|hG2
   ·have hz3:=hz2 hG2
    have t0:decide ((0:Int)<(G:Int)/4294967296)=false:=decide_eq_false (by omega)
    rcases Nat.lt_or_ge x z with hc|hc
    ·have t1:decide ((x:Int)<(z:Int))=true:=decide_eq_true (by omega)
     have t2:decide (x<z)=true:=decide_eq_true (by omega)
     have hb:=Hbad.out (.inr hc)
     have hp:=(Hstep.out hb).1
     go_wp2_with fail
     go_quiet (fail)
     go_wp2_with fail
     ·have hp2:4294967296<=r+v1:=by omega
      have hle:=HGs.out.passed (Hstep.out hb).2 hp2 (by omega)
      have hql:=HGs.out.qlt
      go_meet
      exact⟨G-1,by go_num,by omega,zh ⟨by omega,by omega⟩,⟨_,rfl⟩⟩
     ·have h1:=(Hstep.out hb).2
      exact⟨⟨G-1,r+v1,by go_num,by go_num,by omega,by omega,zh ⟨h1,by omega⟩,⟨_,rfl⟩⟩,by simp[intOf];omega⟩
    ·have t1:decide ((x:Int)<(z:Int))=false:=decide_eq_false (by omega)
     have t2:decide (x<z)=false:=decide_eq_false (by omega)
     go_wp2_with fail
     go_quiet (fail)
     go_wp2_with fail
     go_meet
     exact⟨G,rfl,hG2,zh ⟨HI.out.2,Hend.out hG2 hc⟩,⟨_,World.drewN_drewN _ _ _⟩⟩
   ·have t0:decide ((0:Int)<(G:Int)/4294967296)=true:=decide_eq_true (by omega)
    have hb:=Hbad.out (.inl hG2)
    have hp:=(Hstep.out hb).1
    go_wp2_with fail
    go_quiet (fail)
    go_wp2_with fail
    ·have hp2:4294967296<=r+v1:=by omega
     have hle:=HGs.out.passed (Hstep.out hb).2 hp2 (by omega)
     have hql:=HGs.out.qlt
     go_meet
     exact⟨G-1,by go_num,by omega,zh ⟨by omega,by omega⟩,⟨_,rfl⟩⟩
    ·have h1:=(Hstep.out hb).2
     exact⟨⟨G-1,r+v1,by go_num,by go_num,by omega,by omega,zh ⟨h1,by omega⟩,⟨_,rfl⟩⟩,by simp[intOf];omega⟩
 case rest =>
  obtain⟨G,rfl,hG,HG,⟨q,rfl⟩⟩:=hcut
  have hdig:=HGs.out
  have hb0:=hdig.vpos
  clear hq1 hq2 hrl hGr Hg1 hg2 hot htl i0 v1p HGs hdig hv1 hv2 hcu hcu1 hcu2 l1 l2 l3 l4 l5 hn
  have HA:=zh (show BlkU (w.drewN q) g N f/\Nm (w.drewN q) (some ⟨bl,ov,none⟩) (m+2) b/\Kx (λj=>j=g) w (w.drewN q) from ⟨HB.out.drewN q,H2.out.below (below_drewN (Below.refl _ _) q),(Kx.refl _ w).drewN q⟩)
  obtain⟨wa,hwa⟩:∃ wa,w.drewN q=wa:=⟨_,rfl⟩
  rw[hwa] at HA ⊢
  generalize o+(m+2-1)=dd1
  generalize ov+(m+2-1)=dd2
  generalize ((m:Int)+2-1)=dd3
  obtain⟨Q,hQ⟩:∃ Q,U/b=Q:=⟨_,rfl⟩
  rw[hQ] at HR HG
  have HQ:=zh hQ
  have Hb0:=zh hb0
  have HR:=zh (show ∀ W' f' q,q=Q->BlkU W' g N f'->fv (λi=>f' (o+i)) (m+3)=U%b->(∀ i,i<o\/o+m+2<i->f' i=f i)->Kx (λj=>j=g) wa W'->R (.returned (.int .u32 (q:Nat))) W' from λW' f' q g0 g1 g2 g3 g4=>HR.out W' f' q g0 g1 g2 g3 (HA.out.2.2.trans g4 (λ_ _ h=>h)))
  clear hwa hQ HB H2 hb0
  go_wp2_with fail
  go_loopw [9,10,11,12,84] (λs9 s10 _ _ s84 wr=>∃ (i c bo:Nat) (o':Nat->Nat),s9=.int .u64 (c:Nat)/\s10=.int .u32 (bo:Nat)/\s84=.int .i64 (i:Nat)/\i<=m+2/\c<4294967296/\bo<=1/\Hid (BlkU wr g N o'/\(∀ j,j<o\/o+i<=j->o' j=f j)/\fv (λj=>o' (o+j)) i+G*fv (lim b) i=fv (λj=>f (o+j)) i+(c+bo)*pw i)/\Hid (Kx (λj=>j=g) wa wr)) (λ_ _ _ _ s84 _=>m+2-(intOf s84).toNat)
  case atStart=>exact⟨0,0,0,f,rfl,rfl,rfl,Nat.zero_le _,by omega,by omega,zh ⟨HA.out.1,λ_ _=>rfl,by simp[fv]⟩,zh (Kx.refl _ _)⟩
  case round =>
   obtain⟨i,c,bo,o',rfl,rfl,rfl,hi,hc,hbo,HI,HK⟩:=hrel
   by_cases hlt:i<m+2
   ·have i1:(i:Int)<(m:Int)+2:=by omega
    have i2:(i:Int)<(m:Int)+3:=by omega
    obtain⟨_,_,e3,_,q0⟩:=(HA.out.2.1.2.kx HK.out (λ_ a e=>by cases e;exact hne)).at_ hlt
    injection e3 with e3
    injection e3 with e31 e32
    subst e31 e32
    have hy:=lim_lt b i
    obtain⟨y,hyy⟩:∃ y,lim b i=y:=⟨_,rfl⟩
    rw[hyy] at q0 hy
    have f0:=HI.out.1.frozen
    have c0:=HI.out.1.cell (i:=o+i) (by omega)
    have hz:=HI.out.1.1 (o+i) (by omega)
    have hzf:=HI.out.2.1 (o+i) (.inr (Nat.le_refl _))
    obtain⟨z,hzz⟩:∃ z,o' (o+i)=z:=⟨_,rfl⟩
    rw[hzz] at c0 hz hzf
    obtain⟨p,hp⟩:∃ p,G*y=p:=⟨_,rfl⟩
    have hmb:=mul_bound hG hy hc (show 0<4294967296 by omega)
    rw[hp,Nat.add_zero] at hmb
    have hgy:(G:Int)*(y:Int)=(p:Int):=by rw[← hp];simp
    obtain⟨tl,htl⟩:∃ t,(p+c)%4294967296=t:=⟨_,rfl⟩
    obtain⟨th,hth⟩:∃ t,(p+c)/4294967296=t:=⟨_,rfl⟩
    have e1:((p:Int)+(c:Int))%4294967296=(tl:Int):=by omega
    have e2:((p:Int)+(c:Int))/4294967296=(th:Int):=by omega
    have l1:tl<4294967296:=by omega
    have l2:th<4294967296:=by omega
    have Hn:=zh (show ∀ s b',s<4294967296->s+tl+bo=z+4294967296*b'->BlkU (wr.setCell ⟨g,o+i,none⟩ (.int .u32 (s:Nat))) g N (upd1 o' (o+i) s)/\(∀ j,j<o\/o+(i+1)<=j->upd1 o' (o+i) s j=f j)/\fv (λj=>upd1 o' (o+i) s (o+j)) (i+1)+G*fv (lim b) (i+1)=fv (λj=>f (o+j)) (i+1)+(th+b')*pw (i+1) from λs b' hs hsb=>by
     refine⟨HI.out.1.set _ _ hs,λj hj=>?_,?_⟩
     ·rw[upd1_ne (by omega)];exact HI.out.2.1 j (by omega)
     ·rw[← hth]
      refine sub_step (f:=λj=>upd1 o' (o+i) s (o+j)) (u:=λj=>f (o+j)) (v:=lim b) (g:=G) (i:=i) (c:=c) (b:=bo) (b':=b') (t:=p+c) (s:=s) ?_ (by rw[hyy,hp]) ?_ (upd1_self _ _ _)
      ·rw[fv_congr (g:=λj=>o' (o+j)) (λj hj=>upd1_ne (by omega))];exact HI.out.2.2
      ·rw[htl,← hzf];exact hsb)
    have Hyy:=zh hyy
    clear hyy hzz hzf hp htl hth hmb
    go_wp2_with ((with_reducible refine (sub32_ex z tl bo _ hz l1 hbo).mono ?_);rintro e w' ⟨s,b',rfl,hs,hb',Hs',rfl⟩)
    exact⟨⟨i+1,th,b',_,by simp,by simp,by go_num,by omega,l2,hb',zh (Hn.out s b' hs Hs'.out),zh (kx_set HK.out rfl _ _)⟩,by simp[intOf];omega⟩
   ·obtain rfl:m+2=i:=by omega
    have f0:=HI.out.1.frozen
    have c0:=HI.out.1.cell (i:=o+(m+2)) (by omega)
    have hz:=HI.out.1.1 (o+(m+2)) (by omega)
    have hzf:=HI.out.2.1 (o+(m+2)) (.inr (Nat.le_refl _))
    obtain⟨z,hzz⟩:∃ z,o' (o+(m+2))=z:=⟨_,rfl⟩
    rw[hzz] at c0 hz hzf
    have Hn:=zh (show ∀ s b',s<4294967296->s+c+bo=z+4294967296*b'->BlkU (wr.setCell ⟨g,o+(m+2),none⟩ (.int .u32 (s:Nat))) g N (upd1 o' (o+(m+2)) s)/\(∀ j,j<o\/o+m+2<j->upd1 o' (o+(m+2)) s j=f j)/\fv (λj=>upd1 o' (o+(m+2)) s (o+j)) (m+3)+G*b=U+b'*pw (m+3) from λs b' hs hsb=>by
     refine⟨HI.out.1.set _ _ hs,λj hj=>?_,?_⟩
     ·rw[upd1_ne (by omega)];exact HI.out.2.1 j (by omega)
     ·have h:=sub_last (f:=λj=>upd1 o' (o+(m+2)) s (o+j)) (u:=λj=>f (o+j)) (n:=m+2) (gV:=G*b) (c:=c) (b:=bo) (s:=s) (b':=b') (by
       rw[fv_congr (g:=λj=>o' (o+j)) (λj hj=>upd1_ne (by omega))]
       have:=HI.out.2.2
       rwa [HA.out.2.1.val] at this) (by rw[← hzf];exact hsb) (upd1_self _ _ _)
      rwa [HU.out] at h)
    clear hzz hzf
    have hcm:(c:Int)%4294967296=(c:Int):=by omega
    go_upto_region 17 with ((with_reducible refine (sub32_ex z c bo _ hz hc hbo).mono ?_);rintro e w' ⟨s,b',rfl,hs,hb',Hs',rfl⟩)
    have Hn:=zh (Hn.out s b' hs Hs'.out)
    have HK1:=zh (kx_set HK.out (rfl:g=g) (o+(m+2)) (.int .u32 (s:Nat)))
    obtain⟨o2,ho2⟩:∃ o2,upd1 o' (o+(m+2)) s=o2:=⟨_,rfl⟩
    rw[ho2] at Hn
    obtain⟨w2,hw2⟩:∃ w2,wr.setCell ⟨g,o+(m+2),none⟩ (.int .u32 (s:Nat))=w2:=⟨_,rfl⟩
    rw[hw2] at Hn HK1 ⊢
    clear ho2 hw2 Hs' HI HK f0 c0 hz hcm
    rcases Nat.eq_zero_or_pos b' with hb0|hb0
    ·subst hb0
     have hf:=dig_fine Hb0.out (show fv (λi=>o2 (o+i)) (m+3)+G*b=U by have:=Hn.out.2.2;omega) (by rw[HQ.out];exact HG.out.1)
     have Hf:=zh (HR.out w2 o2 G (by rw[hf.1,HQ.out]) Hn.out.1 hf.2 (λj hj=>Hn.out.2.1 j hj) HK1.out)
     have hGm:(G:Int)%4294967296=(G:Int):=by omega
     clear hf
     go_wp2_with fail
     exact Hf.out
    ·have hbp:(0:Int)<(b':Int):=by omega
     have hFl:fv (λi=>o2 (o+i)) (m+3)<pw (m+3):=fv_lt (λi hi=>Hn.out.1.1 _ (by omega))
     have h1:b'=1:=by omega
     have hf:=dig_over Hb0.out (show fv (λi=>o2 (o+i)) (m+3)+G*b=U+pw (m+3) by have:=Hn.out.2.2;rw[h1,Nat.one_mul] at this;exact this) hFl (by rw[HQ.out];exact HG.out.2)
     rw[HQ.out] at hf
     obtain⟨hfe,hf2⟩:=hf
     have Hf2:=zh hf2
     have HGe:=zh hfe
     have hG1:(0:Int)<(G:Int):=by omega
     have Hl:=zh (show U%b<pw (m+2) from Nat.lt_trans (Nat.mod_lt _ Hb0.out) HA.out.2.1.lt)
     clear h1 hf2 hFl hfe
     go_wp2_with fail
     go_loopw [13,14,133] (λs13 _ s133 wr=>∃ (i ov:Nat) (o':Nat->Nat),s13=.int .u32 (ov:Nat)/\s133=.int .i64 (i:Nat)/\i<=m+2/\ov<=1/\Hid (BlkU wr g N o'/\(∀ j,j<o\/o+i<=j->o' j=o2 j)/\fv (λj=>o' (o+j)) i+ov*pw i=fv (λj=>o2 (o+j)) i+fv (lim b) i)/\Hid (Kx (λj=>j=g) wa wr)) (λ_ _ s133 _=>m+2-(intOf s133).toNat)
     case atStart=>exact⟨0,0,o2,rfl,rfl,Nat.zero_le _,by omega,zh ⟨Hn.out.1,λ_ _=>rfl,by simp[fv]⟩,HK1⟩
     case round =>
      obtain⟨i,ov,o',rfl,rfl,hi,hov,HI,HK⟩:=hrel
      by_cases hlt:i<m+2
      ·have i1:(i:Int)<(m:Int)+2:=by omega
       have i2:(i:Int)<(m:Int)+3:=by omega
       obtain⟨_,_,e3,_,q0⟩:=(HA.out.2.1.2.kx HK.out (λ_ a e=>by cases e;exact hne)).at_ hlt
       injection e3 with e3
       injection e3 with e31 e32
       subst e31 e32
       have hy:=lim_lt b i
       obtain⟨y,hyy⟩:∃ y,lim b i=y:=⟨_,rfl⟩
       rw[hyy] at q0 hy
       have f0:=HI.out.1.frozen
       have c0:=HI.out.1.cell (i:=o+i) (by omega)
       have hz:=HI.out.1.1 (o+i) (by omega)
       have hzf:=HI.out.2.1 (o+i) (.inr (Nat.le_refl _))
       obtain⟨z,hzz⟩:∃ z,o' (o+i)=z:=⟨_,rfl⟩
       rw[hzz] at c0 hz hzf
       have Hk:=zh (show ∀ s b',s<4294967296->s+4294967296*b'=z+y+ov->BlkU (wr.setCell ⟨g,o+i,none⟩ (.int .u32 (s:Nat))) g N (upd1 o' (o+i) s)/\(∀ j,j<o\/o+(i+1)<=j->upd1 o' (o+i) s j=o2 j)/\fv (λj=>upd1 o' (o+i) s (o+j)) (i+1)+b'*pw (i+1)=fv (λj=>o2 (o+j)) (i+1)+fv (lim b) (i+1) from λs b' hs hsb=>by
        refine⟨HI.out.1.set _ _ hs,λj hj=>?_,?_⟩
        ·rw[upd1_ne (by omega)];exact HI.out.2.1 j (by omega)
        ·have h:=plus_step (f:=λj=>upd1 o' (o+i) s (o+j)) (a:=λj=>o2 (o+j)) (b:=lim b) (i:=i) (c:=ov) (c':=b') (s:=s) (V:=fv (λj=>o2 (o+j)) i+fv (lim b) i) (by
          rw[fv_congr (g:=λj=>o' (o+j)) (λj hj=>upd1_ne (by omega))];exact HI.out.2.2) (by rw[hyy,← hzf];exact hsb) (upd1_self _ _ _)
         rw[h,fv_succ,fv_succ];omega)
       clear hyy hzz hzf
       have z0:(0:Int)<=(o:Int)+(i:Int):=by omega
       go_wp2_with fail
       go_region_with ((with_reducible refine (add32_ex z y ov _ hz hy hov).mono ?_);rintro e w' ⟨s,b',rfl,hs,hb',Hs',rfl⟩)
       all_goals go_wp2_with fail
       all_goals exact⟨⟨i+1,b',_,by simp,by go_num,by omega,hb',zh (Hk.out s b' hs Hs'.out),zh ((kx_set HK.out rfl _ _).drewN 1)⟩,by simp[intOf];omega⟩
      ·obtain rfl:m+2=i:=by omega
       have f0:=HI.out.1.frozen
       have c0:=HI.out.1.cell (i:=o+(m+2)) (by omega)
       have hz:=HI.out.1.1 (o+(m+2)) (by omega)
       have hzf:=HI.out.2.1 (o+(m+2)) (.inr (Nat.le_refl _))
       obtain⟨z,hzz⟩:∃ z,o' (o+(m+2))=z:=⟨_,rfl⟩
       rw[hzz] at c0 hz hzf
       have Hk:=zh (show BlkU (wr.setCell ⟨g,o+(m+2),none⟩ (.int .u32 (((z+ov)%4294967296:Nat)))) g N (upd1 o' (o+(m+2)) ((z+ov)%4294967296))/\(∀ j,j<o\/o+m+2<j->upd1 o' (o+(m+2)) ((z+ov)%4294967296) j=f j)/\fv (λj=>upd1 o' (o+(m+2)) ((z+ov)%4294967296) (o+j)) (m+3)=U%b from by
        refine⟨HI.out.1.set _ _ (Nat.mod_lt _ (by omega)),λj hj=>?_,?_⟩
        ·rw[upd1_ne (by omega),HI.out.2.1 j (by omega)];exact Hn.out.2.1 j hj
        ·refine back_last (f:=λj=>o2 (o+j)) (f2:=λj=>upd1 o' (o+(m+2)) ((z+ov)%4294967296) (o+j)) (n:=m+2) (over:=ov) (V:=b) (R:=U%b) (λj hj=>(HI.out.1.1.upd (Nat.mod_lt _ (by omega))) _ (by omega)) ?_ Hf2.out Hl.out ?_
         ·rw[fv_congr (g:=λj=>o' (o+j)) (λj hj=>upd1_ne (by omega))]
          have:=HI.out.2.2
          rwa [HA.out.2.1.val] at this
         ·show upd1 _ _ _ _=_
          rw[upd1_self,← hzf])
       have Hf:=HR.out _ _ (G-1) (by rw[HGe.out,Nat.add_sub_cancel]) Hk.out.1 Hk.out.2.2 Hk.out.2.1 (kx_set HK.out rfl _ _)
       have hGq:((G-1:Nat):Int)=(G:Int)-1:=by omega
       rw[hGq] at Hf
       have Hf:=zh Hf
       have hQm:((G:Int)-1)%4294967296=(G:Int)-1:=by omega
       clear hzz hzf hGq
       go_wp2_with fail
       exact Hf.out
end
section
open Go.RowKit
def Num(w:World)(V:Value)(v:Nat):Prop:=∃ A n c,V=.slice A n c/\n<=c/\Nm w A n v
theorem Num.below{w w':World}{V:Value}{v:Nat}(h:Num w V v)(hb:Below w.heap.size w w'):Num w' V v:=by
 obtain⟨A,n,c,e,h1,h2⟩:=h
 exact⟨A,n,c,e,h1,h2.below hb⟩
theorem Num.nil(w:World):Num w (.slice none 0 0) 0:=⟨none,0,0,rfl,Nat.le_refl _,Nm.zero _ _⟩
def GetsNum(w:World)(v:Nat)(e:Ending)(w':World):Prop:=∃ V,e=.returned V/\Num w' V v/\Below w.heap.size w w'
theorem NewNum.gets{w w':World}{v:Nat}{e:Ending}(h:NewNum w v e w'):GetsNum w v e w':=by
 obtain⟨A,k,c,e,h1,h2,_,h3⟩:=h
 exact⟨_,e,⟨A,k,c,rfl,h1,h2⟩,h3⟩
theorem Nm.of_own{w:World}{base c v n:Nat}{A:Option Addr}(hn:n=ln v)(h:w.ownsRow base 185 1 (.slice A n c) n ((List.range n).map λi=>Value.int .u32 (lim v i:Nat))):Nm w A n v:=
 ⟨hn,RdN.of_sl (lim_Lm v n) (Sl.of_own h)⟩
theorem own_num(A:Option Addr)(n c a:Nat)(w:World)(h:Nm w A n a)(hn:n<=1000000) :
 Calls Tryz.prog 195 #[.slice A n c] w (GetsNum w a):=
 (own_any A n c (lim a) w h.2 hn).mono λ_ _ ⟨A',c',e,hc,ho,hb⟩=>⟨_,e,⟨A',n,c',rfl,hc,Nm.of_own h.1 ho⟩,hb⟩
def PartP(w:World)(q r:Nat)(e:Ending)(w':World):Prop:=∃ V1 V2,e=.returned (.tuple #[V1,V2])/\Num w' V1 q/\Num w' V2 r/\Below w.heap.size w w'
theorem wpList_copyU{w:World}{ops:Array Oper}{rest:List Oper}{o:Oper}{a:Act}{Q:Exit->Act->World->Prop}(hgd:o.guard=none)(d s:Operand)
 (ho:o.op=.call { callee:=.builtin .copy,args:=#[d,s],argTypes:=#[96,96] }) {g N cap m c:Nat} {A:Option Addr} {f f2:Nat->Nat}
 (hd:a.eval d=.slice (some ⟨g,0,none⟩) N cap) (hs:a.eval s=.slice A m c) (hB:BlkU w g N f) (h2:RdN w A m f2) (hmN:m<=N)
 (h:∀ w',BlkU w' g N (λi=>if i<m then f2 i else f i)->Below g w w'->wpList Tryz.prog ops Q rest (a.put o.dst (goInt m)) w') :
 wpList Tryz.prog ops Q (o :: rest) a w:=by
 obtain⟨hl,cs,hg,hc⟩:=hB
 have hlen:((List.range m).map λi=>Value.int .u32 (f2 i:Nat)).length=m:=mapU_len f2 m
 have hsz:N<=cs.toList.length:=by
  rcases N with _|N
  ·exact Nat.zero_le _
  ·have:=(Array.getElem?_eq_some_iff.1 (hc N (Nat.lt_succ_self N))).1
   rw[Array.length_toList];omega
 refine wpList_copy_splice (P:=Tryz.prog) hgd d s 96 96 ho 185 Tryz.underlying96 (by kernel_rfl) (some ⟨g,0,none⟩) A N cap m c hd hs g 0 cs.toList 185 (by rw[hg]) ((List.range m).map λi=>Value.int .u32 (f2 i:Nat)) (by rw[hlen];exact (Nat.min_eq_left hmN).symm) (λhp=>⟨rfl,?_⟩) (by rw[hlen];omega) (mapU_one f2 m) g w (Below.refl _ _) (Nat.le_refl _) ?_
 ·rw[hlen] at hp
  obtain⟨b,o2,e,hb,hcc⟩:=h2.2 hp
  refine⟨_,e,λj v hv=>?_⟩
  obtain⟨hj,rfl⟩:=mapU_get hv
  have hcj:=hcc j hj
  unfold Addr.add
  rcases Nat.eq_zero_or_pos j with h0|h0
  ·subst h0;simpa using hcj
  ·rw[if_neg (by omega)];exact hcj
 ·intro w' hg' hb'
  rw[hlen]
  refine h w' ⟨λi hi=>?_,_,hg'.out,λi hi=>?_⟩ hb'
  ·dsimp only
   split
   ·exact h2.1 i ‹_›
   ·exact hl i hi
  ·dsimp only
   unfold splice
   rw[hlen,List.take_zero,List.nil_append,Nat.zero_add,List.getElem?_toArray]
   by_cases him:i<m
   ·rw[if_pos him,List.getElem?_append_left (by rw[hlen];exact him)]
    exact mapU_at him
   ·rw[if_neg him,List.getElem?_append_right (by rw[hlen];omega),hlen,List.getElem?_drop,Array.getElem?_toList]
    rw[show m+(i-m)=i by omega]
    exact hc i hi
theorem rd_one(w:World)(r:Nat)(hr:r<4294967296)(t:TypeId):RdN (w.alloc (.cells #[Value.int .u32 (r:Nat)] t)) (some ⟨w.heap.size,0,none⟩) 1 (λ_=>r):=
 ⟨λ_ _=>hr,λ_=>⟨_,_,rfl,by simp,λi hi=>by
  obtain rfl:i=0:=by omega
  rw[cell_of_row _ _ _ _ _ (0,0) (heap_alloc_new w _)];rfl⟩⟩
theorem cmpN_lt{a b:Nat}(h:a<b):cmpN a b = -1:=if_pos h
theorem cmpN_ge{a b:Nat}(h:b<=a):0<=cmpN a b:=by unfold cmpN;rw[if_neg (by omega)];split<;>omega
theorem npart_any(A B:Option Addr)(n c m d a b:Nat)(w:World)(h1:Nm w A n a)(h2:Nm w B m b)(_hnc:n<=c)(hmd:m<=d)(hn:n<=300000)(hm:m<=300000)(hb:0<b) :
 Calls Tryz.prog 194 #[.slice A n c,.slice B m d] w (PartP w (a/b) (a%b)):=by
 refine calls_cps ?_
 intro R hR
 have HR:=zh (show ∀ V1 V2 W',Num W' V1 (a/b)->Num W' V2 (a%b)->Below w.heap.size w W'->R (.returned (.tuple #[V1,V2])) W' from λV1 V2 W' g1 g2 g3=>hR.out _ _ ⟨V1,V2,rfl,g1,g2,g3⟩)
 have H1:=zh h1
 have H2:=zh h2
 have Hb:=zh hb
 clear hR h1 h2 hb
 rcases Nat.lt_or_ge a b with hab|hab
 ·obtain⟨x,hx⟩:∃ x,cmpN a b=x:=⟨_,rfl⟩
  have hx0:x<0:=by have:=cmpN_lt hab;omega
  have Hx:=zh hx
  have Hq:=zh (show a/b=0/\a%b=a from ⟨Nat.div_eq_of_lt hab,Nat.mod_eq_of_lt hab⟩)
  clear hab hx
  go_enter Tryz.func194,Tryz.ntmps194
  go_wp2_with ((with_reducible refine (ncompare_any A B n c m d a b _ H1.out H2.out (by omega) (by omega)).mono ?_);rw[Hx.out];rintro e w' ⟨rfl,q,rfl⟩)
  refine (own_num A n c a _ (H1.out.below (below_drewN (Below.refl _ _) q)) (by omega)).mono ?_
  rintro e w1 ⟨V,rfl,hV,hb1⟩
  have Hf:=zh (HR.out (.slice none 0 0) V w1 (by rw[Hq.out.1];exact Num.nil _) (by rw[Hq.out.2];exact hV) ⟨hb1.os,hb1.tape,hb1.output,hb1.size,hb1.block⟩)
  clear hV hb1
  go_wp2_with fail
  exact Hf.out
 ·obtain⟨x,hx⟩:∃ x,cmpN a b=x:=⟨_,rfl⟩
  have hx0:0<=x:=by have:=cmpN_ge hab;omega
  have Hx:=zh hx
  have Hab:=zh hab
  clear hab hx
  obtain rfl|rfl|⟨m,rfl⟩:m=0\/m=1\/∃ k,m=k+2:=by
   rcases m with _|_|m
   ·exact .inl rfl
   ·exact .inr (.inl rfl)
   ·exact .inr (.inr ⟨m,rfl⟩)
  ·exact absurd (ln_eq_zero.1 H2.out.1.symm) (by have:=Hb.out;omega)
  ·obtain⟨bl,ob,rfl,hbl,q0⟩:=H2.out.2.at_ (k:=0) (by omega)
   have hbe:lim b 0=b:=by
    have:=H2.out.lt
    rw[pw_one] at this
    unfold lim
    rw[pw_zero,Nat.div_one,Nat.mod_eq_of_lt this]
   have hbl2:=lim_lt b 0
   rw[hbe] at q0 hbl2
   have Hbe:=zh hbe
   clear hbe
   go_enter Tryz.func194,Tryz.ntmps194
   go_upto_region 4 with ((with_reducible refine (ncompare_any A _ n c 1 d a b _ H1.out H2.out (by omega) (by omega)).mono ?_);rw[Hx.out];rintro e w' ⟨rfl,q,rfl⟩)
   have q1:(w.drewN q).cell? ⟨bl,ob,none⟩=some (.int .u32 (b:Nat)):=q0
   go_wp2_with fail
   refine (byWord_any A n c a b _ (H1.out.below (below_drewN (Below.refl _ _) q)) (by omega) Hb.out hbl2).mono ?_
   rintro e w1 ⟨A1,k1,c1,rfl,hk1,hN1,-,hb1⟩
   have HN1:=zh (show Num w1 (.slice A1 k1 c1) (a/b) from ⟨A1,k1,c1,rfl,hk1,hN1⟩)
   have Hb1:=zh hb1
   have hr:=Nat.mod_lt a Hb.out
   obtain⟨r,hre⟩:∃ r,a%b=r:=⟨_,rfl⟩
   rw[hre] at hr HR ⊢
   clear hN1 hb1 hre
   go_wp2_with fail
   refine (natTrim_any _ _ _ (λ_=>r) _ (rd_one w1 r (by omega) _) (by omega) (by omega)).mono ?_
   rintro e w2 ⟨k,rfl,hk,hnm,rfl⟩
   have Hf:=zh (HR.out _ _ _ (HN1.out.below (below_new _ _)) ⟨_,k,1,rfl,hk,by simpa[fv,pw_zero] using hnm⟩ (Below.trans (b:=w1) ⟨Hb1.out.os,Hb1.out.tape,Hb1.out.output,Hb1.out.size,Hb1.out.block⟩ ((below_new _ _).mono Hb1.out.size)))
   clear hnm
   go_wp2_with fail
   exact Hf.out
  ·obtain⟨bl,ob,rfl,hbl,q0⟩:=H2.out.2.at_ (k:=m+1) (by omega)
   have hbl2:=lim_lt b (m+1)
   obtain⟨s,hse⟩:∃ s,32-bitsN (lim b (m+1))=s:=⟨_,rfl⟩
   have hnt:=norm_top (b:=b) (n:=m+1) (s:=s) H2.out.1.symm hse.symm
   have htop:=top_of hnt.2.1 hnt.2.2
   obtain⟨y,hy⟩:∃ y,lim b (m+1)=y:=⟨_,rfl⟩
   rw[hy] at q0 hbl2 hse
   have hs31:=hnt.1
   obtain⟨V,hV⟩:∃ V,b*2 ^ s=V:=⟨_,rfl⟩
   obtain⟨U,hU⟩:∃ U,a*2 ^ s=U:=⟨_,rfl⟩
   have hmn:m+2<=n:=by
    have:=ln_mono Hab.out
    rw[← H1.out.1,← H2.out.1] at this
    exact this
   obtain⟨K,hK⟩:∃ K,n-(m+2)=K:=⟨_,rfl⟩
   have hKi:(n:Int)-((m:Int)+2)=(K:Int):=by omega
   have hKn:n=K+(m+2):=by omega
   have Hp:=zh (show (U/V=a/b/\U%V=a%b*2 ^ s)/\V<pw (m+2)/\0<V/\2147483648<=lim V (m+1)/\ln V=m+2/\U/pw (K+1)<V/\a/b<pw (K+1) from by
    rw[hV] at hnt htop
    have h3:=start_small (s:=s) H1.out.lt hs31 (show m+1+1<=n by omega) hnt.2.2
    rw[hU,show n-(m+1)=K+1 by omega] at h3
    have h4:=quot_small H1.out.lt (show m+1+1<=n by omega) (pw_le_of_ln (v:=b) (k:=m+1) (by rw[← H2.out.1];omega))
    rw[show n-(m+1)=K+1 by omega] at h4
    refine⟨⟨by rw[← hU,← hV,shl_div],by rw[← hU,← hV,shl_mod]⟩,hnt.2.1,?_,htop.1,htop.2,h3,h4⟩
    have:=pw_pos (m+1)
    omega)
   have Hse:=zh hse
   have HU:=zh hU
   have HV:=zh hV
   have HKn:=zh hKn
   clear hnt htop hy hse hU hV hK hKn
   go_enter Tryz.func194,Tryz.ntmps194
   go_upto_region 6 with ((with_reducible refine (ncompare_any A _ n c (m+2) d a b _ H1.out H2.out (by omega) (by omega)).mono ?_);rw[Hx.out];rintro e w' ⟨rfl,q,rfl⟩)
   have q1:(w.drewN q).cell? ⟨bl,ob+(m+1),none⟩=some (.int .u32 (y:Nat)):=q0
   have h1:=zh (show Nm (w.drewN q) A n a from H1.out.below (below_drewN (Below.refl _ _) q))
   have h2:=zh (show Nm (w.drewN q) (some ⟨bl,ob,none⟩) (m+2) b from H2.out.below (below_drewN (Below.refl _ _) q))
   have hb0:=zh (show Below w.heap.size w (w.drewN q) from below_drewN (Below.refl _ _) q)
   obtain⟨w0,hw0⟩:∃ w0,w.drewN q=w0:=⟨_,rfl⟩
   rw[hw0] at q1 h1 h2 hb0 ⊢
   clear hw0 q0 H1 H2
   go_wp2_with (go_at_call 304;(with_reducible refine (lz32_any _ _ hbl2).mono ?_);rw[Hse.out];rintro e w' ⟨rfl,rfl⟩)
   refine (up_any _ (m+2) d b s w0 h2.out (by omega) (by omega)).mono ?_
   rw[HV.out]
   rintro e w1 ⟨A1,n1,c1,rfl,hk1,hN1,hf1,hb1⟩
   obtain rfl:n1=m+2:=by rw[hN1.1,Hp.out.2.2.2.2.1]
   obtain⟨b1,o1,rfl,hbl1,-⟩:=hN1.2.at_ (k:=0) (by omega)
   have H1:=zh (h1.out.below hb1)
   have HV1:=zh hN1
   have Hb1:=zh (hb0.out.trans (hb1.mono hb0.out.size))
   clear hN1 hf1 hb1 h1 h2 hb0 q1 hbl2
   go_upto_region 8 with fail
   have hmk:(Instr.makeSlice 96 (.int .i64 ((n:Int)+1)) (.int .i64 ((n:Int)+1))).run Tryz.prog w1=.ok (.slice (some ⟨w1.heap.size,0,none⟩) (n+1) (n+1)) (w1.alloc (.cells (madeCells #[Value.int .u32 0] (n+1)) 185)):=run_mkU (n+1) (by omega) w1 .i64
   have HB:=zh (BlkU.new w1 (n+1))
   have HbA:=zh (below_new w1 (.cells (madeCells #[Value.int .u32 0] (n+1)) 185))
   obtain⟨w2,hw2⟩:∃ w2,w1.alloc (.cells (madeCells #[Value.int .u32 0] (n+1)) 185)=w2:=⟨_,rfl⟩
   obtain⟨g,hg⟩:∃ g,w1.heap.size=g:=⟨_,rfl⟩
   rw[hw2] at HB HbA hmk
   rw[hg] at HB HbA hmk hbl1
   have Hg:=zh hg
   have H2:=zh (show Nm w2 A n a/\Nm w2 (some ⟨b1,o1,none⟩) (m+2) V from ⟨H1.out.below (by rw[Hg.out];exact HbA.out),HV1.out.below (by rw[Hg.out];exact HbA.out)⟩)
   have Hb2:=zh (Hb1.out.trans (HbA.out.mono (by rw[← Hg.out];exact Hb1.out.size)))
   have Hgw:=zh (show w.heap.size<=g by rw[← Hg.out];exact Hb1.out.size)
   clear hw2 hg H1 HV1 Hb1
   go_upto_region 9 with fail
   clear hmk
   go_wp2_with fail
   refine (up_any A n c a s w2 H2.out.1 (by omega) (by omega)).mono ?_
   rw[HU.out]
   rintro e w3 ⟨A3,n3,c3,rfl,hk3,hN3,-,hb3⟩
   have hn3:n3<=n+1:=by
    rw[hN3.1,← HU.out]
    refine (ln_le_iff _ _).2 ?_
    have h31:2 ^ s<=2 ^ 31:=Nat.pow_le_pow_right (by omega) hs31
    have h3:a*2 ^ s<pw n*2 ^ s:=Nat.mul_lt_mul_of_pos_right H2.out.1.lt (Nat.pow_pos (by omega))
    have h4:pw n*2 ^ s<=pw n*4294967296:=Nat.mul_le_mul_left _ (by omega)
    rw[pw_succ,Nat.mul_comm 4294967296];omega
   have HB3:=zh (HB.out.below hb3)
   have HV3:=zh (H2.out.2.below hb3)
   have Hb3:=zh (Hb2.out.trans (hb3.mono Hb2.out.size))
   have HU3:=zh hN3
   clear hb3 hN3 HB Hb2 H2 HbA
   go_upto_region 10 with (refine wpList_copyU rfl (.tmp 49) (.tmp 52) rfl rfl rfl HB3.out HU3.out.2 hn3 ?_;intro w4 hB4 hb4)
   have HB4:=zh (hB4.congr (p:=lim U) (λi _=>by
    split
    ·rfl
    ·exact (HU3.out.over (by omega)).symm))
   have HV4:=zh (HV3.out.kx (S:=λj=>¬ j<g) ⟨hb4.os,hb4.tape,hb4.output,hb4.size,λj _ hj=>hb4.block j (Nat.lt_of_not_le λh=>hj (Nat.not_lt_of_le h))⟩ (λ_ ad e=>by cases e;exact λh=>h hbl1))
   have Hb4:=zh (Hb3.out.trans (hb4.mono Hgw.out))
   have hgs:=zh HB4.out.lt
   clear hB4 hb4 HB3 HU3 HV3 Hb3 hn3
   go_upto_region 11 with fail
   have hmk:(Instr.makeSlice 96 (.int .i64 ((K:Int)+1)) (.int .i64 ((K:Int)+1))).run Tryz.prog w4=.ok (.slice (some ⟨w4.heap.size,0,none⟩) (K+1) (K+1)) (w4.alloc (.cells (madeCells #[Value.int .u32 0] (K+1)) 185)):=run_mkU (K+1) (by omega) w4 .i64
   have HQ:=zh (BlkU.new w4 (K+1))
   have HbA:=zh (below_new w4 (.cells (madeCells #[Value.int .u32 0] (K+1)) 185))
   obtain⟨w5,hw5⟩:∃ w5,w4.alloc (.cells (madeCells #[Value.int .u32 0] (K+1)) 185)=w5:=⟨_,rfl⟩
   obtain⟨gq,hgq⟩:∃ gq,w4.heap.size=gq:=⟨_,rfl⟩
   rw[hw5] at HQ HbA hmk
   rw[hgq] at HQ HbA hmk hgs
   have H5:=zh (show BlkU w5 g (n+1) (lim U)/\Nm w5 (some ⟨b1,o1,none⟩) (m+2) V from ⟨HB4.out.below (by rw[hgq];exact HbA.out),HV4.out.below (by rw[hgq];exact HbA.out)⟩)
   have Hb5:=zh (Hb4.out.trans (HbA.out.mono (by rw[← hgq];exact Hb4.out.size)))
   have Hgqw:=zh (show w.heap.size<=gq by rw[← hgq];exact Hb4.out.size)
   have hbg:b1<g:=hbl1
   have hgg:g<gq:=hgs.out
   clear hw5 hgq HB4 HV4 Hb4 HbA hgs
   go_wp2_with fail
   clear hmk
   go_loopw [13] (λs13 wr=>∃ (k:Nat) (fu fq:Nat->Nat),s13=.int .i64 ((k:Int)-1)/\k<=K+1/\Hid (BlkU wr g (n+1) fu/\(∀ i,i<k->fu i=lim U i)/\fv (λi=>fu (k+i)) (n+1-k)=U/pw k%V)/\Hid (BlkU wr gq (K+1) fq/\∀ i,k<=i->i<K+1->fq i=lim (a/b) i)/\Hid (Nm wr (some ⟨b1,o1,none⟩) (m+2) V)/\Hid (Below w.heap.size w wr)) (λs13 _=>(intOf s13+1).toNat)
   case atStart =>
    refine⟨K+1,lim U,λ_=>0,by go_num,Nat.le_refl _,zh ⟨H5.out.1,λ_ _=>rfl,?_⟩,zh ⟨HQ.out,λi g1 g2=>absurd g2 (by omega)⟩,zh H5.out.2,Hb5⟩
    have e:n+1-(K+1)=m+2:=by have:=HKn.out;omega
    rw[e,fv_congr (g:=lim (U/pw (K+1))) (λi _=>(lim_div_pw _ _ _).symm),fv_lim_eq (Nat.lt_trans Hp.out.2.2.2.2.2.1 Hp.out.2.1),Nat.mod_eq_of_lt Hp.out.2.2.2.2.2.1]
   case round =>
    obtain⟨k,fu,fq,rfl,hk,HI,HIq,HIv,HW⟩:=hrel
    rcases k with _|k
    ·as_aux_lemma =>
      have hKn:=HKn.out
      have Hq:=zh (show RdN wr (some ⟨gq,0,none⟩) (K+1) fq/\fv fq (K+1)=a/b from ⟨HIq.out.1.rd0 _ (Nat.le_refl _),by rw[fv_congr (λi hi=>HIq.out.2 i (Nat.zero_le _) hi),fv_lim_eq Hp.out.2.2.2.2.2.2]⟩)
      have Hu:=zh (show RdN wr (some ⟨g,0,none⟩) (m+2) fu/\fv fu (m+2)=U%V from ⟨HI.out.1.rd0 _ (by omega),by
       have h:=HI.out.2.2
       rw[pw_zero,Nat.div_one,fv_congr (g:=fu) (λi _=>by rw[Nat.zero_add])] at h
       have hl:U%V<pw (m+2):=Nat.lt_trans (Nat.mod_lt _ Hp.out.2.2.1) Hp.out.2.1
       have h2:=fv_add fu (m+2) (n+1-0-(m+2))
       rw[show m+2+(n+1-0-(m+2))=n+1-0 by omega,h] at h2
       rw[h2] at hl ⊢
       have h0:fv (λi=>fu (m+2+i)) (n+1-0-(m+2))=0:=Nat.eq_zero_of_not_pos λhp=>by
        have:pw (m+2)*1<=pw (m+2)*fv (λi=>fu (m+2+i)) (n+1-0-(m+2)):=Nat.mul_le_mul_left _ hp
        omega
       rw[h0,Nat.mul_zero];exact (Nat.add_zero _).symm⟩)
      have i1:(m:Int)+2<=(n:Int)+1:=by omega
      have i2:(m:Int)+2<(n:Int)+1:=by omega
      have Hr:=zh Hp.out.1.2
      clear hKn HI HIq HIv
      have HqD:=zh (show RdN wr.drew (some ⟨gq,0,none⟩) (K+1) fq from Hq.out.1)
      have HuD:=zh (show RdN wr.drew (some ⟨g,0,none⟩) (m+2) fu from Hu.out.1)
      have HlU:=zh (show ln (U%V)<=m+2 by rw[← Hu.out.2];exact (ln_le_iff _ _).2 (fv_lt Hu.out.1.1))
      have HlQ:=zh (show ln (a/b)<=K+1 by rw[← Hq.out.2];exact (ln_le_iff _ _).2 (fv_lt Hq.out.1.1))
      have hlu:ln (U%V)<=n+1:=by have:=HlU.out;omega
      have hlu2:ln (U%V)<=600000:=by omega
      have hKK:K+1<=4000000:=by omega
      have hmm:m+2<=4000000:=by omega
      have hmm2:m+2<=n+1:=by omega
      have i3:(0:Int)<=(m:Int)+2:=by omega
      have i4:((m:Int)+2).toNat=m+2:=by omega
      have hbz:Below wr.heap.size wr wr.drew:=(Below.refl _ wr).drew
      go_wp2_with fail
      go_region_held3 (λw'=>Below wr.heap.size wr w') (first|with_reducible exact hbz|with_reducible exact hb7c|with_reducible exact hb7c.drew|go_keep)
       (first
       |(go_at_call 191;have hcur := ‹Below wr.heap.size wr _›;(with_reducible refine (trim_eq (some ⟨gq,0,none⟩) (K+1) (K+1) (a/b) fq _ (Hq.out.1.below hcur) (Nat.le_refl _) hKK Hq.out.2).mono ?_);rintro e w' ⟨rfl,rfl⟩;clear hcur)
       |(go_at_call 191;have hcur := ‹Below wr.heap.size wr _›;(with_reducible refine (trim_eq (some ⟨g,0,none⟩) (m+2) (n+1) (U%V) fu _ (Hu.out.1.below hcur) hmm2 hmm Hu.out.2).mono ?_);rintro e w' ⟨rfl,rfl⟩;clear hcur)
       |(go_at_call 298;have hcur := ‹Below wr.heap.size wr _›;(with_reducible refine (down_any (some ⟨g,0,none⟩) (ln (U%V)) (n+1) (U%V) s _ ((Hu.out.1.below hcur).nm Hu.out.2) hlu hlu2 (by omega)).mono ?_);rintro e w7 ⟨A7,k7,c7,rfl,hk7,hN7,-,hb7⟩;have hb7c:=hcur.trans (hb7.mono hcur.size);clear hcur))
      all_goals go_wp2_with fail
      all_goals exact HR.out _ _ _ ⟨_,_,_,rfl,HlQ.out,(Hq.out.1.below hb7c).nm Hq.out.2⟩ ⟨_,_,_,rfl,hk7,by rw[Hr.out,Nat.mul_div_cancel _ (Nat.pow_pos (by omega))] at hN7;exact hN7⟩ (HW.out.trans (hb7c.mono HW.out.size))
    ·as_aux_lemma =>
      have hKn:=HKn.out
      have i1:(0:Int)<=(k:Int):=by omega
      have i2:(k:Int)+((m:Int)+2)+1<=(n:Int)+1:=by omega
      have i3:k+(m+2)+1<=n+1:=by omega
      have i4:(k:Int)<=(n:Int)+1:=by omega
      have i5:(k:Int)<(K:Int)+1:=by omega
      have hwin:=win_val (f:=fu) (U:=U) (V:=V) (k:=k) (n:=m+2) (M:=n-k) (HI.out.2.1 k (Nat.lt_succ_self k)) (by omega) Hp.out.2.1 Hp.out.2.2.1 (by rw[show n-k=n+1-(k+1) by omega];exact HI.out.2.2)
      obtain⟨X,hX⟩:∃ X,U/pw (k+1)%V*4294967296+lim U k=X:=⟨_,rfl⟩
      rw[hX] at hwin
      have hds:=digit_step Hp.out.2.2.1 hX.symm
      rw[Hp.out.1.1] at hds
      have Hwin:=zh hwin
      have Hds:=zh hds
      clear hKn hwin hX hds
      go_wp2_with fail
      have elen:k+(m+2)+1-k=m+3:=by omega
      rw[elen]
      clear elen
      have hfit:k+m+3<=n+1:=by omega
      have hN4:n+1<=4000000:=by omega
      have hm6:m<=600000:=by omega
      with_reducible refine (digit_any g (n+1) k (n+1-k) m c1 V X (some ⟨b1,o1,none⟩) fu wr HI.out.1 HIv.out (λad e=>by cases e;exact Nat.ne_of_lt hbg) hN4 hm6 hfit Hp.out.2.2.2.1 Hwin.out.1 Hds.out.2.2.2).mono ?_
      rintro e w6 ⟨rfl,f6,hB6,hv6,ho6,hK6⟩
      have HQ6:=zh (HIq.out.1.kx hK6 (Nat.ne_of_gt hgg))
      have f0:=HQ6.out.frozen
      have c0:=HQ6.out.cell (i:=k) (by omega)
      have Hn:=zh (show (BlkU (w6.setCell ⟨gq,k,none⟩ (.int .u32 ((X/V:Nat):Int))) g (n+1) f6/\(∀ i,i<k->f6 i=lim U i)/\fv (λi=>f6 (k+i)) (n+1-k)=U/pw k%V)/\(BlkU (w6.setCell ⟨gq,k,none⟩ (.int .u32 ((X/V:Nat):Int))) gq (K+1) (upd1 fq k (X/V))/\∀ i,k<=i->i<K+1->upd1 fq k (X/V) i=lim (a/b) i)/\Nm (w6.setCell ⟨gq,k,none⟩ (.int .u32 ((X/V:Nat):Int))) (some ⟨b1,o1,none⟩) (m+2) V/\Below w.heap.size w (w6.setCell ⟨gq,k,none⟩ (.int .u32 ((X/V:Nat):Int))) from by
       refine⟨⟨hB6.kx (S:=λj=>j=gq) (kx_set (S:=λj=>j=gq) (Kx.refl _ _) rfl _ _) (Nat.ne_of_lt hgg),λi hi=>(ho6 i (.inl hi)).trans (HI.out.2.1 i (by omega)),?_⟩,⟨HQ6.out.set k _ Hds.out.2.1,λi g1 g2=>?_⟩,?_,?_⟩
       ·have h:=win_next (f:=fu) (f':=f6) (k:=k) (n:=m+2) (M:=n-k) (X:=X%V) (by omega) hv6 (λi hi=>ho6 i (.inr (by omega))) Hwin.out.2
        rw[show n+1-k=n-k+1 by omega,h,Hds.out.2.2.1]
       ·by_cases e:i=k
        ·subst e;rw[upd1_self,← Hds.out.1]
        ·rw[upd1_ne e];exact HIq.out.2 i (by omega) g2
       ·exact (HIv.out.kx hK6 (λ_ ad e=>by cases e;exact Nat.ne_of_lt hbg)).kx (S:=λj=>j=gq) (kx_set (S:=λj=>j=gq) (Kx.refl _ _) rfl _ _) (λ_ ad e=>by cases e;exact Nat.ne_of_lt (Nat.lt_trans hbg hgg))
       ·exact (Kx.low HW.out hK6 (λj hj=>by subst hj;exact Hgw.out) HW.out.size).setCell Hgqw.out _)
      obtain⟨qd,hqd⟩:∃ qd,X/V=qd:=⟨_,rfl⟩
      rw[hqd] at Hn ⊢
      clear hB6 hv6 ho6 hK6 hqd
      go_wp2_with fail
      exact⟨⟨k,f6,_,by go_num,by omega,zh Hn.out.1,zh Hn.out.2.1,zh Hn.out.2.2.1,zh Hn.out.2.2.2⟩,by simp[intOf]⟩
end
end
section
section
open Go.RowKit
theorem below_one{w w':World}(o:Obj)(h:Below (w.alloc o).heap.size (w.alloc o) w'):Below w.heap.size w w':=(below_new w o).trans (h.mono (by simp))
theorem natCheck_ok(A:Option Addr)(n c a:Nat)(w:World)(h:Nm w A n a)(hn:n<=262144) :
 Calls Tryz.prog 299 #[.slice A n c] w λe w'=>e=.returned (.int .i64 0)/\w=w':=by
 refine calls_cps ?_
 intro R hR
 have Hf:=zh (hR.out (.returned (.int .i64 0)) w ⟨rfl,rfl⟩)
 clear hR
 rcases n with _|n
 ·go_enter Tryz.func299,Tryz.ntmps299
  go_wp2
  exact Hf.out
 ·obtain⟨b,o,rfl,hb,q0⟩:=h.2.at_ (k:=n) (by omega)
  have ht:=h.top (by omega)
  rw[Nat.add_sub_cancel] at ht
  obtain⟨x,hx⟩:∃ x,lim a n=x:=⟨_,rfl⟩
  rw[hx] at q0 ht
  have t1:((x:Int)==0)=false:=by simp;omega
  have i0:(0:Int)<=(n:Int):=by omega
  have i1:(n:Int)+1<=262144:=by omega
  have t2:decide ((262144:Int)<(n:Int)+1)=false:=decide_eq_false (by omega)
  have t3:decide ((0:Int)<(n:Int)+1)=true:=decide_eq_true (by omega)
  clear hx ht hn
  go_enter Tryz.func299,Tryz.ntmps299
  go_upto_region 3 with fail
  go_wp2_with fail
  exact Hf.out
def Fit(w:World)(V:Value):Prop:=∃ A n c a,V=.slice A n c/\Nm w A n a/\n<=262144
theorem Num.fit{w:World}{V:Value}{a:Nat}(h:Num w V a)(hl:ln a<=262144):Fit w V:=by
 obtain⟨A,n,c,e,_,h2⟩:=h
 exact⟨A,n,c,a,e,h2,by rw[h2.1];exact hl⟩
theorem valid_any(A:Option Addr)(k c:Nat)(vs:List Value)(w:World)(h:Sl w 1 A k vs)(hk:k<=1000)(hf:∀ (j:Nat) V,vs[j]?=some V->Fit w V) :
 Calls Tryz.prog 189 #[.slice A k c] w λe w'=>e=.returned (.int .i64 0)/\w=w':=by
 refine calls_cps ?_
 intro R hR
 have HR:=zh (hR.out (.returned (.int .i64 0)) w ⟨rfl,rfl⟩)
 have H:=zh (And.intro h hf)
 clear hR h hf
 go_enter Tryz.func189,Tryz.ntmps189
 go_wp2_with fail
 go_loop [4,5,8] (λ_ _ s8=>∃ i:Nat,s8=.int .i64 (i:Nat)/\i<=k) (λ_ _ s8=>k-(intOf s8).toNat)
 case atStart=>exact⟨0,rfl,Nat.zero_le _⟩
 case round =>
  obtain⟨i,rfl,hi⟩:=hrel
  by_cases hlt:i<k
  ·have i1:(i:Int)<(k:Int):=by omega
   have hv:i<vs.length:=by have:=H.out.1.1;omega
   obtain⟨b,o,rfl,hb,hc⟩:=H.out.1.2 (by omega)
   have q0:=hc i _ (List.getElem?_eq_getElem hv)
   obtain⟨A2,n,c2,a,hV,hN,hn⟩:=H.out.2 i _ (List.getElem?_eq_getElem hv)
   rw[hV] at q0
   have HN:=zh hN
   clear hV hN hc
   go_wp2_with ((with_reducible refine (natCheck_ok A2 n c2 a _ HN.out hn).mono ?_);rintro e w' ⟨rfl,rfl⟩)
   exact⟨⟨i+1,by go_num,by omega⟩,by simp[intOf];omega⟩
  ·obtain rfl:k=i:=by omega
   go_wp2_with fail
   exact HR.out
theorem valid_one(V:Value)(w:World)(t:TypeId)(h:Fit w V) :
 Calls Tryz.prog 189 #[.slice (some ⟨w.heap.size,0,none⟩) 1 1] (w.alloc (.cells #[V] t)) λe w'=>e=.returned (.int .i64 0)/\w.alloc (.cells #[V] t)=w':=
 valid_any _ 1 1 [V] _ (Sl.new w #[V] t 1 1 rfl) (by omega) λj U hU=>by
  rcases j with _|j
  ·simp at hU
   subst hU
   obtain⟨A,n,c,a,e,h2,h3⟩:=h
   exact⟨A,n,c,a,e,h2.alloc _,h3⟩
  ·simp at hU
theorem valid_two(V V2:Value)(w:World)(t:TypeId)(h:Fit w V)(h':Fit w V2) :
 Calls Tryz.prog 189 #[.slice (some ⟨w.heap.size,0,none⟩) 2 2] (w.alloc (.cells #[V,V2] t)) λe w'=>e=.returned (.int .i64 0)/\w.alloc (.cells #[V,V2] t)=w':=
 valid_any _ 2 2 [V,V2] _ (Sl.new w #[V,V2] t 1 2 rfl) (by omega) λj U hU=>by
  rcases j with _|_|j
  ·simp at hU
   subst hU
   obtain⟨A,n,c,a,e,h2,h3⟩:=h
   exact⟨A,n,c,a,e,h2.alloc _,h3⟩
  ·simp at hU
   subst hU
   obtain⟨A,n,c,a,e,h2,h3⟩:=h'
   exact⟨A,n,c,a,e,h2.alloc _,h3⟩
  ·simp at hU
def GetsOk(w:World)(v:Nat)(e:Ending)(w':World):Prop:=∃ V,e=.returned (.tuple #[V,.int .i64 0])/\Num w' V v/\Below w.heap.size w w'
theorem short_ok(V:Value)(a:Nat)(w:World)(h:Num w V a)(hl:ln a<=262144) :
 Calls Tryz.prog 192 #[V] w λe w'=>e=.returned (.tuple #[V,.int .i64 0])/\w=w':=by
 obtain⟨A,n,c,rfl,hnc,hN⟩:=h
 have hn:n<=262144:=by rw[hN.1];exact hl
 refine calls_cps ?_
 intro R hR
 have Hf:=zh (hR.out _ w ⟨rfl,rfl⟩)
 clear hR hN hl
 go_enter Tryz.func192,Tryz.ntmps192
 go_wp2
 exact Hf.out
theorem bits_any(V:Value)(a:Nat)(w:World)(h:Num w V a)(hl:ln a<=262144) :
 Calls Tryz.prog 354 #[V] w λe w'=>e=.returned (.tuple #[.int .i64 (bitsN a:Nat),.int .i64 0])/\Below w.heap.size w w':=by
 obtain⟨A,n,c,rfl,hnc,hN⟩:=h
 have hn:n<=262144:=by rw[hN.1];exact hl
 refine calls_cps ?_
 intro R hR
 have Hf:=zh (hR.out _ (w.alloc (.cells #[Value.slice A n c] 197)) ⟨rfl,below_new w _⟩)
 have HN:=zh hN
 have HF:=zh (show Fit w (.slice A n c) from ⟨A,n,c,a,rfl,hN,hn⟩)
 clear hR hN hl
 go_enter Tryz.func354,Tryz.ntmps354
 go_wp2_with (first
  |((with_reducible refine (valid_one _ w _ HF.out).mono ?_);rintro e w' ⟨rfl,rfl⟩)
  |((with_reducible refine (length_any A n c a _ (HN.out.alloc _) (by omega)).mono ?_);rintro e w' ⟨rfl,rfl⟩))
 exact Hf.out
theorem cmp_num(V V2:Value)(a b:Nat)(w:World)(h:Num w V a)(h2:Num w V2 b)(hl:ln a<=262144)(hl2:ln b<=262144) :
 Calls Tryz.prog 214 #[V,V2] w λe w'=>e=.returned (.tuple #[.int .i64 (cmpN a b),.int .i64 0])/\Below w.heap.size w w':=by
 have HF:=zh (h.fit hl)
 have HF2:=zh (h2.fit hl2)
 obtain⟨A,n,c,rfl,hnc,hN⟩:=h
 obtain⟨B,m,d,rfl,hmd,hM⟩:=h2
 have hn:n<=262144:=by rw[hN.1];exact hl
 have hm:m<=262144:=by rw[hM.1];exact hl2
 refine calls_cps ?_
 intro R hR
 obtain⟨x,hx⟩:∃ x,cmpN a b=x:=⟨_,rfl⟩
 rw[hx] at hR
 have Hf:=zh (show ∀ q,R (.returned (.tuple #[.int .i64 x,.int .i64 0])) ((w.alloc (.cells #[Value.slice A n c,Value.slice B m d] 197)).drewN q) from λq=>hR.out _ _ ⟨rfl,below_drewN (below_new w _) q⟩)
 have Hx:=zh hx
 have HN:=zh hN
 have HM:=zh hM
 clear hR hN hM hl hl2 hx
 go_enter Tryz.func214,Tryz.ntmps214
 go_wp2_with (first
  |((with_reducible refine (valid_two _ _ w _ HF.out HF2.out).mono ?_);rintro e w' ⟨rfl,rfl⟩)
  |((with_reducible refine (ncompare_any A B n c m d a b _ (HN.out.alloc _) (HM.out.alloc _) (by omega) (by omega)).mono ?_);rw[Hx.out];rintro e w' ⟨rfl,q,rfl⟩))
 exact Hf.out _
theorem mul_num(V V2:Value)(a b:Nat)(w:World)(h:Num w V a)(h2:Num w V2 b)(hl:ln a+ln b<=262144) :
 Calls Tryz.prog 82 #[V,V2] w (GetsOk w (a*b)):=by
 have HF:=zh (h.fit (by omega))
 have HF2:=zh (h2.fit (by omega))
 have Hab:=zh (show ln (a*b)<=262144 from Nat.le_trans (ln_mul_le a b) hl)
 obtain⟨A,n,c,rfl,hnc,hN⟩:=h
 obtain⟨B,m,d,rfl,hmd,hM⟩:=h2
 have hn:n+m<=262144:=by rw[hN.1,hM.1];exact hl
 refine calls_cps ?_
 intro R hR
 have Hf:=zh (show ∀ V W,Num W V (a*b)->Below (w.alloc (.cells #[Value.slice A n c,Value.slice B m d] 197)).heap.size (w.alloc (.cells #[Value.slice A n c,Value.slice B m d] 197)) W->R (.returned (.tuple #[V,.int .i64 0])) W from λV W g1 g2=>hR.out _ _ ⟨V,rfl,g1,below_one _ g2⟩)
 have HN:=zh hN
 have HM:=zh hM
 have t1:decide ((n:Int)+(m:Int) > 262145)=false:=decide_eq_false (by omega)
 clear hR hN hM hl
 go_enter Tryz.func82,Tryz.ntmps82
 go_wp2_with (first
  |((with_reducible refine (valid_two _ _ w _ HF.out HF2.out).mono ?_);rintro e w' ⟨rfl,rfl⟩)
  |((with_reducible refine (times_any A B n c m d a b _ (HN.out.alloc _) (HM.out.alloc _) hnc hmd (by omega) (by omega)).mono ?_);intro e w1 hw1;obtain⟨V,rfl,hV,hb1⟩:=hw1.gets)
  |((with_reducible refine (short_ok V (a*b) _ hV Hab.out).mono ?_);rintro e w' ⟨rfl,rfl⟩))
 exact Hf.out _ _ hV hb1
theorem shift_up(V:Value)(a s:Nat)(w:World)(h:Num w V a)(hs:s<=1000000)(hl:ln a<=262144)(hl2:ln (a*2 ^ s)<=262144) :
 Calls Tryz.prog 188 #[V,.int .i64 (s:Nat)] w (GetsOk w (a*2 ^ s)):=by
 have HF:=zh (h.fit hl)
 have Hl2:=zh hl2
 obtain⟨A,n,c,rfl,hnc,hN⟩:=h
 have hn:n<=262144:=by rw[hN.1];exact hl
 refine calls_cps ?_
 intro R hR
 have Hf:=zh (show ∀ V W,Num W V (a*2 ^ s)->Below (w.alloc (.cells #[Value.slice A n c] 197)).heap.size (w.alloc (.cells #[Value.slice A n c] 197)) W->R (.returned (.tuple #[V,.int .i64 0])) W from λV W g1 g2=>hR.out _ _ ⟨V,rfl,g1,below_one _ g2⟩)
 have HN:=zh hN
 clear hR hl hl2
 have t2:decide ((s:Int)<=-8388608)=false:=decide_eq_false (by omega)
 have t3:decide ((s:Int)<0)=false:=decide_eq_false (by omega)
 have t4:decide ((8388608:Int)<(s:Int))=false:=decide_eq_false (by omega)
 rcases Nat.eq_zero_or_pos n with h0|h0
 ·have ha:a=0:=ln_eq_zero.1 (by rw[← hN.1,h0])
  have Hg:=zh (Hf.out (.slice none 0 0) _ (by rw[ha,Nat.zero_mul];exact Num.nil _) (Below.refl _ _))
  have t1:((n:Int)==0)=true:=by simp[h0]
  clear hN ha h0
  go_enter Tryz.func188,Tryz.ntmps188
  go_wp2_with ((with_reducible refine (valid_one _ w _ HF.out).mono ?_);rintro e w' ⟨rfl,rfl⟩)
  exact Hg.out
 ·have t1:((n:Int)==0)=false:=by simp;omega
  clear hN
  go_enter Tryz.func188,Tryz.ntmps188
  go_wp2_with (first
   |((with_reducible refine (valid_one _ w _ HF.out).mono ?_);rintro e w' ⟨rfl,rfl⟩)
   |((with_reducible refine (up_any A n c a s _ (HN.out.alloc _) (by omega) (by omega)).mono ?_);intro e w1 hw1;obtain⟨V,rfl,hV,hb1⟩:=hw1.gets)
   |((with_reducible refine (short_ok V (a*2 ^ s) _ hV Hl2.out).mono ?_);rintro e w' ⟨rfl,rfl⟩))
  exact Hf.out _ _ hV hb1
theorem divmod_num(V V2:Value)(a b:Nat)(w:World)(h:Num w V a)(h2:Num w V2 b)(hl:ln a<=262144)(hl2:ln b<=262144)(hb:0<b) :
 Calls Tryz.prog 83 #[V,V2] w λe w'=>∃ V1 V2,e=.returned (.tuple #[V1,V2,.int .i64 0])/\Num w' V1 (a/b)/\Num w' V2 (a%b)/\Below w.heap.size w w':=by
 have HF:=zh (h.fit hl)
 have HF2:=zh (h2.fit hl2)
 obtain⟨A,n,c,rfl,hnc,hN⟩:=h
 obtain⟨B,m,d,rfl,hmd,hM⟩:=h2
 have hn:n<=262144:=by rw[hN.1];exact hl
 have hm:m<=262144:=by rw[hM.1];exact hl2
 have hm0:0<m:=by rw[hM.1];exact ln_pos (by omega)
 have t1:((m:Int)==0)=false:=by simp;omega
 refine calls_cps ?_
 intro R hR
 have Hf:=zh (show ∀ V1 V2 W,Num W V1 (a/b)->Num W V2 (a%b)->Below (w.alloc (.cells #[Value.slice A n c,Value.slice B m d] 197)).heap.size (w.alloc (.cells #[Value.slice A n c,Value.slice B m d] 197)) W->R (.returned (.tuple #[V1,V2,.int .i64 0])) W from λV1 V2 W g1 g2 g3=>hR.out _ _ ⟨V1,V2,rfl,g1,g2,below_one _ g3⟩)
 have HN:=zh hN
 have HM:=zh hM
 have Hb:=zh hb
 clear hR hN hM hl hl2 hb
 go_enter Tryz.func83,Tryz.ntmps83
 go_wp2_with (first
  |((with_reducible refine (valid_two _ _ w _ HF.out HF2.out).mono ?_);rintro e w' ⟨rfl,rfl⟩)
  |((with_reducible refine (npart_any A B n c m d a b _ (HN.out.alloc _) (HM.out.alloc _) hnc hmd (by omega) (by omega) Hb.out).mono ?_);rintro e w1 ⟨V1,V2,rfl,hV1,hV2,hb1⟩))
 go_ret3
 exact Hf.out _ _ _ hV1 hV2 hb1
theorem of_any(v:Nat)(w:World)(hv:v<18446744073709551616):Calls Tryz.prog 81 #[.int .u64 (v:Nat)] w (GetsNum w v):=by
 refine calls_cps ?_
 intro R hR
 obtain⟨lo,hlo⟩:∃ x,v%4294967296=x:=⟨_,rfl⟩
 obtain⟨hi,hhi⟩:∃ x,v/4294967296=x:=⟨_,rfl⟩
 have e1:(v:Int)%4294967296=(lo:Int):=by omega
 have e2:(v:Int)/4294967296=(hi:Int):=by omega
 have e3:(hi:Int)%4294967296=(hi:Int):=by omega
 have Hr:=zh (show RdN (w.alloc (.cells #[Value.int .u32 (lo:Nat),Value.int .u32 (hi:Nat)] 185)) (some ⟨w.heap.size,0,none⟩) 2 (λi=>if i=0 then lo else hi) from
  ⟨λi _=>by dsimp only;split<;>omega,λ_=>⟨_,_,rfl,by simp,λi hi'=>by
   rw[cell_of_row _ _ _ _ _ (0,0) (heap_alloc_new w _)]
   obtain rfl|rfl:i=0\/i=1:=by omega
   ·rfl
   ·rfl⟩⟩)
 have Hv:=zh (show fv (λi=>if i=0 then lo else hi) 2=v from by
  show 0+lo*pw 0+hi*pw 1=v
  rw[pw_zero,pw_one];omega)
 have Hf:=zh (show ∀ k,k<=2->Nm (w.alloc (.cells #[Value.int .u32 (lo:Nat),Value.int .u32 (hi:Nat)] 185)) (some ⟨w.heap.size,0,none⟩) k v->R (.returned (.slice (some ⟨w.heap.size,0,none⟩) k 2)) (w.alloc (.cells #[Value.int .u32 (lo:Nat),Value.int .u32 (hi:Nat)] 185)) from λk g1 g2=>hR.out _ _ ⟨_,rfl,⟨_,k,2,rfl,g1,g2⟩,below_new w _⟩)
 clear hR hlo hhi
 go_enter Tryz.func81,Tryz.ntmps81
 go_wp2_with fail
 refine (natTrim_any _ 2 2 _ _ Hr.out (by omega) (by omega)).mono ?_
 rintro e w' ⟨k,rfl,hk,hnm,rfl⟩
 rw[Hv.out] at hnm
 have Hg:=zh (Hf.out k hk hnm)
 clear hnm
 go_wp2_with fail
 exact Hg.out
end
section
open Go.RowKit
theorem odd_test{r:Nat}(hr:r<=1000000):(bits BinOp.and IntKind.i64 (r:Int) 1==1)=decide (r%2=1):=by
 have h1:(BitVec.ofInt 64 (r:Int)).toNat=r:=by
  rw[BitVec.ofInt_natCast,BitVec.toNat_ofNat];exact Nat.mod_eq_of_lt (by omega)
 have h2:(BitVec.ofInt 64 (1:Int)).toNat=1:=by decide
 have h3:bits BinOp.and IntKind.i64 (r:Int) 1=((r%2:Nat):Int):=by
  show IntKind.i64.wrap ((BitVec.ofInt 64 (r:Int) &&& BitVec.ofInt 64 (1:Int)).toNat:Int)=_
  rw[BitVec.toNat_and,h1,h2,Nat.and_one_is_mod]
  exact IntWalk.i64_in _ (by omega)
 rw[h3]
 rcases Nat.mod_two_eq_zero_or_one r with h|h<;>rw[h]<;>rfl
theorem times_num(V V2:Value)(a b:Nat)(w:World)(h:Num w V a)(h2:Num w V2 b)(hl:ln a<=300000)(hl2:ln b<=300000) :
 Calls Tryz.prog 193 #[V,V2] w (GetsNum w (a*b)):=by
 obtain⟨A,n,c,rfl,hnc,hN⟩:=h
 obtain⟨B,m,d,rfl,hmd,hM⟩:=h2
 exact (times_any A B n c m d a b w hN hM hnc hmd (by rw[hN.1];exact hl) (by rw[hM.1];exact hl2)).mono λ_ _ h=>h.gets
theorem ln_pow_le(a:Nat):∀ n,0<n->ln (a ^ n)<=ln a*n
 |0,h=>absurd h (Nat.lt_irrefl _)
 |1,_=>by rw[Nat.pow_one,Nat.mul_one];exact Nat.le_refl _
 |n+2,_=>by
  rw[Nat.pow_succ,Nat.mul_succ]
  exact Nat.le_trans (ln_mul_le _ _) (Nat.add_le_add_right (ln_pow_le a (n+1) (by omega)) _)
theorem ln_pow_le'{a:Nat}(_ha:0<a)(n:Nat):ln (a ^ n)<=ln a*n+1:=by
 rcases Nat.eq_zero_or_pos n with h|h
 ·subst h
  rw[Nat.pow_zero]
  have:ln 1<=1:=(ln_le_iff 1 1).2 (by rw[pw_one];omega)
  omega
 ·have:=ln_pow_le a n h;omega
theorem le_mul_pow{o a r:Nat}(_ha:0<a)(hr:0<r):o*a<=o*a ^ r:=Nat.mul_le_mul_left o (le_pow_self hr)
theorem sq_le_pow{o a r:Nat}(ha:0<a)(ho:0<o)(hr:2<=r):a*a<=o*a ^ r:=by
 have h1:a ^ 2<=a ^ r:=Nat.pow_le_pow_right ha hr
 rw[Nat.pow_two] at h1
 have h2:1*a ^ r<=o*a ^ r:=Nat.mul_le_mul_right _ ho
 omega
theorem pow_half{o a r:Nat}:(if r%2=1 then o*a else o)*(a*a) ^ (r/2)=o*a ^ r:=by
 have e:(a*a) ^ (r/2)=a ^ (2*(r/2)):=by rw[← Nat.pow_two,← Nat.pow_mul]
 rw[e]
 split
 ·rename_i h
  have h2:r=2*(r/2)+1:=by omega
  conv=>rhs;rw[h2,Nat.pow_succ]
  rw[Nat.mul_assoc,Nat.mul_comm a]
 ·rename_i h
  have h2:r=2*(r/2):=by omega
  conv=>rhs;rw[h2]
theorem raise_any(V:Value)(a n:Nat)(w:World)(h:Num w V a)(ha:0<a)(hl:ln a*n<=262143)(hn:n<=1000000) :
 Calls Tryz.prog 198 #[V,.int .i64 (n:Nat)] w (GetsNum w (a ^ n)):=by
 refine calls_cps ?_
 intro R hR
 have HR:=zh (show ∀ V W,Num W V (a ^ n)->Below w.heap.size w W->R (.returned V) W from λV W g1 g2=>hR.out _ _ ⟨V,rfl,g1,g2⟩)
 have Hl:=zh (show ln (a ^ n)<=262144 from Nat.le_trans (ln_pow_le' ha n) (by omega))
 have H:=zh h
 have Ha:=zh ha
 have Hone:=zh (show Num (w.alloc (.cells #[Value.int .u32 1] 185)) (.slice (some ⟨w.heap.size,0,none⟩) 1 1) 1 from
  ⟨_,1,1,rfl,Nat.le_refl _,by
   have h:=(rd_one w 1 (by omega) 185).nm (v:=1) (by simp[fv,pw_zero])
   have h1:ln 1=1:=ln_eq (k:=0) (by rw[pw_zero];omega) (by rw[pw_one];omega)
   rwa [h1] at h⟩)
 have Hln:Hid (ln a<=262144\/n=0):=zh (by
  rcases Nat.eq_zero_or_pos n with h0|h0
  ·exact .inr h0
  ·refine .inl (Nat.le_trans ?_ (show ln a*n<=262144 by omega))
   have:=Nat.mul_le_mul_left (ln a) h0
   omega)
 clear hR h ha hl
 go_enter Tryz.func198,Tryz.ntmps198
 go_wp2_with fail
 obtain⟨w1,hw1⟩:∃ w1,w.alloc (.cells #[Value.int .u32 1] 185)=w1:=⟨_,rfl⟩
 have Hb1:=zh (show Below w.heap.size w w1 from by rw[← hw1];exact below_new w _)
 have HV1:=zh (show Num w1 V a from H.out.below (by rw[← hw1];exact below_new w _))
 rw[hw1] at Hone ⊢
 clear hw1 H
 go_loopw [0,1,5] (λs0 s1 s5 wr=>∃ (V0 V5:Value) (a' r o:Nat),V0=s0/\V5=s5/\s1=.int .i64 (r:Nat)/\r<=1000000/\Hid (Num wr V0 a'/\Num wr V5 o)/\Hid (o*a' ^ r=a ^ n/\0<a'/\0<o/\(r=0\/ln a'<=262144)/\ln o<=262144)/\Hid (Below w.heap.size w wr)) (λ_ s1 _ _=>(intOf s1).toNat)
 case atStart =>
  refine⟨_,_,a,n,1,rfl,rfl,rfl,hn,zh ⟨HV1.out,Hone.out⟩,zh ⟨Nat.one_mul _,Ha.out,by omega,?_,?_⟩,Hb1⟩
  ·rcases Hln.out with h|h
   ·exact .inr h
   ·exact .inl h
  ·exact Nat.le_trans ((ln_le_iff 1 1).2 (by rw[pw_one];omega)) (by omega)
 case round =>
  obtain⟨V0,V5,a',r,o,rfl,rfl,rfl,hr,HN,HI,HW⟩:=hrel
  rcases Nat.eq_zero_or_pos r with h0|h0
  ·subst h0
   have Hf:=zh (HR.out _ wr (by have:=HN.out.2;have h:=HI.out.1;rw[Nat.pow_zero,Nat.mul_one] at h;rwa [h] at this) HW.out)
   go_wp2_with fail
   exact Hf.out
  ·have r0:(0:Int)<(r:Int):=by omega
   have Hla:=zh (show ln a'<=262144 from by
    rcases HI.out.2.2.2.1 with h|h
    ·omega
    ·exact h)
   have Ho1:=zh (show r%2=1->ln (o*a')<=262144/\0<o*a' from λ_=>⟨Nat.le_trans (ln_mono (le_mul_pow HI.out.2.1 h0)) (by rw[HI.out.1];exact Hl.out),Nat.mul_pos HI.out.2.2.1 HI.out.2.1⟩)
   have Hsq:=zh (show 2<=r->ln (a'*a')<=262144 from λh=>Nat.le_trans (ln_mono (sq_le_pow HI.out.2.1 HI.out.2.2.1 h)) (by rw[HI.out.1];exact Hl.out))
   have Hh:=zh (pow_half (o:=o) (a:=a') (r:=r))
   rw[HI.out.1] at Hh
   have tb:=odd_test hr
   rcases Nat.mod_two_eq_zero_or_one r with hp|hp
   ·rw[hp] at tb
    have Hp:=zh hp
    have h2:2<=r:=by omega
    have t2:decide ((1:Int)<(r:Int))=true:=decide_eq_true (by omega)
    have tb':(bits BinOp.and IntKind.i64 (r:Int) 1==1)=false:=tb
    clear tb hp
    go_wp2_with ((with_reducible refine (times_num V0 V0 a' a' _ HN.out.1 HN.out.1 (Nat.le_trans Hla.out (by omega)) (Nat.le_trans Hla.out (by omega))).mono ?_);rintro e w2 ⟨V2,rfl,hV2,hb2⟩)
    refine⟨⟨_,_,a'*a',r/2,o,rfl,rfl,by go_num,by omega,zh ⟨hV2,HN.out.2.below hb2⟩,zh ⟨?_,Nat.mul_pos HI.out.2.1 HI.out.2.1,HI.out.2.2.1,.inr (Hsq.out h2),HI.out.2.2.2.2⟩,zh (HW.out.trans (hb2.mono HW.out.size))⟩,by simp[intOf];omega⟩
    have h:=Hh.out
    rwa [Hp.out,if_neg (by omega)] at h
   ·rw[hp] at tb
    have Hp:=zh hp
    have tb':(bits BinOp.and IntKind.i64 (r:Int) 1==1)=true:=tb
    clear tb hp
    rcases Nat.lt_or_ge 1 r with h2|h2
    ·have t2:decide ((1:Int)<(r:Int))=true:=decide_eq_true (by omega)
     go_wp2_with (first
      |((with_reducible refine (times_num V5 V0 o a' _ HN.out.2 HN.out.1 (Nat.le_trans HI.out.2.2.2.2 (by omega)) (Nat.le_trans Hla.out (by omega))).mono ?_);rintro e w2 ⟨V2,rfl,hV2,hb2⟩)
      |((with_reducible refine (times_num V0 V0 a' a' _ (HN.out.1.below hb2) (HN.out.1.below hb2) (Nat.le_trans Hla.out (by omega)) (Nat.le_trans Hla.out (by omega))).mono ?_);rintro e w3 ⟨V3,rfl,hV3,hb3⟩))
     refine⟨⟨_,_,a'*a',r/2,o*a',rfl,rfl,by go_num,by omega,zh ⟨hV3,hV2.below hb3⟩,zh ⟨?_,Nat.mul_pos HI.out.2.1 HI.out.2.1,(Ho1.out Hp.out).2,.inr (Hsq.out h2),(Ho1.out Hp.out).1⟩,zh ((HW.out.trans (hb2.mono HW.out.size)).trans (hb3.mono (Nat.le_trans HW.out.size hb2.size)))⟩,by simp[intOf];omega⟩
     have h:=Hh.out
     rwa [Hp.out,if_pos rfl] at h
    ·obtain rfl:r=1:=by omega
     go_wp2_with ((with_reducible refine (times_num V5 V0 o a' _ HN.out.2 HN.out.1 (Nat.le_trans HI.out.2.2.2.2 (by omega)) (Nat.le_trans Hla.out (by omega))).mono ?_);rintro e w2 ⟨V2,rfl,hV2,hb2⟩)
     refine⟨⟨_,_,a',0,o*a',rfl,rfl,by go_num,by omega,zh ⟨HN.out.1.below hb2,hV2⟩,zh ⟨?_,HI.out.2.1,(Ho1.out Hp.out).2,.inl rfl,(Ho1.out Hp.out).1⟩,zh (HW.out.trans (hb2.mono HW.out.size))⟩,by simp[intOf]⟩
     have h:=HI.out.1
     rw[Nat.pow_one] at h
     rw[Nat.pow_zero,Nat.mul_one,h]
theorem bits_le_ln(a:Nat):bitsN a<=32*ln a:=(bitsN_le_iff _ _).2 (by rw[← pw_two];exact lt_pw_ln a)
theorem ln_one:ln 1=1:=ln_eq (k:=0) (by rw[pw_zero];omega) (by rw[pw_one];omega)
theorem num_one(w:World)(t:TypeId):Num (w.alloc (.cells #[Value.int .u32 1] t)) (.slice (some ⟨w.heap.size,0,none⟩) 1 1) 1:=
 ⟨_,1,1,rfl,Nat.le_refl _,by
  have h:=(rd_one w 1 (by omega) t).nm (v:=1) (by simp[fv,pw_zero])
  rwa [ln_one] at h⟩
theorem compare_num(V V2:Value)(a b:Nat)(w:World)(h:Num w V a)(h2:Num w V2 b)(hl:ln a<=1000000)(hl2:ln b<=1000000) :
 Calls Tryz.prog 200 #[V,V2] w λe w'=>e=.returned (.int .i64 (cmpN a b))/\Qt w w':=by
 obtain⟨A,n,c,rfl,hnc,hN⟩:=h
 obtain⟨B,m,d,rfl,hmd,hM⟩:=h2
 exact ncompare_any A B n c m d a b w hN hM (by rw[hN.1];exact hl) (by rw[hM.1];exact hl2)
theorem own_num'(V:Value)(a:Nat)(w:World)(h:Num w V a)(hl:ln a<=1000000):Calls Tryz.prog 195 #[V] w (GetsNum w a):=by
 obtain⟨A,n,c,rfl,hnc,hN⟩:=h
 exact own_num A n c a w hN (by rw[hN.1];exact hl)
theorem length_num(V:Value)(a:Nat)(w:World)(h:Num w V a)(hl:ln a<=1000000):Calls Tryz.prog 196 #[V] w λe w'=>e=.returned (.int .i64 (bitsN a:Nat))/\w=w':=by
 obtain⟨A,n,c,rfl,hnc,hN⟩:=h
 exact length_any A n c a w hN (by rw[hN.1];exact hl)
theorem power_any(V:Value)(a n:Nat)(w:World)(h:Num w V a)(ha:0<a)(hl:ln a*n<=262143)(hla:ln a<=262143)(hn:n<=1000000) :
 Calls Tryz.prog 190 #[V,.int .i64 (n:Nat)] w (GetsOk w (a ^ n)):=by
 refine calls_cps ?_
 intro R hR
 have HR:=zh (show ∀ V W,Num W V (a ^ n)->Below w.heap.size w W->R (.returned (.tuple #[V,.int .i64 0])) W from λV W g1 g2=>hR.out _ _ ⟨V,rfl,g1,g2⟩)
 have Hl:=zh (show ln (a ^ n)<=262144 from Nat.le_trans (ln_pow_le' ha n) (by omega))
 have Hln:=zh hl
 have Hone:=zh (num_one w 185)
 have HV:=zh (h.below (below_new w (.cells #[Value.int .u32 1] 185)))
 have Hb:=zh (below_new w (.cells #[Value.int .u32 1] 185))
 have hn0:(0:Int)<(ln a:Nat):=by have:=ln_pos (v:=a) (by omega);omega
 obtain⟨A,L,c,rfl,hLc,hN⟩:=h
 have hL0:((L:Int)==0)=false:=by
  have:0<L:=by rw[hN.1];exact ln_pos (by omega)
  simp;omega
 have Ha:=zh ha
 clear hR hl hN hn0 ha hLc
 rcases Nat.eq_zero_or_pos n with h0|h0
 ·subst h0
  have Hf:=zh (HR.out _ _ (by rw[Nat.pow_zero];exact Hone.out) Hb.out)
  go_enter Tryz.func190,Tryz.ntmps190
  go_wp2_with fail
  exact Hf.out
 ·have t0:((n:Int)==0)=false:=by simp;omega
  obtain⟨w1,hw1⟩:∃ w1,w.alloc (.cells #[Value.int .u32 1] 185)=w1:=⟨_,rfl⟩
  obtain⟨g,hg⟩:∃ g,w.heap.size=g:=⟨_,rfl⟩
  by_cases h1:a=1
  ·have H1:=zh h1
   have hx:cmpN a 1=0:=by rw[h1];rfl
   have Hx:=zh hx
   clear h1 hx hw1 hg
   go_enter Tryz.func190,Tryz.ntmps190
   go_wp2_with ((with_reducible refine (compare_num _ _ a 1 _ HV.out Hone.out (Nat.le_trans hla (by omega)) (by rw[ln_one];omega)).mono ?_);rw[Hx.out];rintro e w' ⟨rfl,q,rfl⟩)
   refine (own_num' _ a _ (HV.out.below (below_drewN (Below.refl _ _) q)) (Nat.le_trans hla (by omega))).mono ?_
   rintro e w2 ⟨V2,rfl,hV2,hb2⟩
   have Hf:=zh (HR.out V2 w2 (by rw[H1.out] at hV2 ⊢;rwa [Nat.one_pow]) (Hb.out.trans (Below.trans (below_drewN (Below.refl _ _) q) (hb2.mono (by simp)))))
   clear hV2 hb2
   go_wp2_with fail
   exact Hf.out
  ·have hx:cmpN a 1=1:=by have:=Ha.out;unfold cmpN;rw[if_neg (by omega),if_neg h1]
   have Hx:=zh hx
   obtain⟨B,hB⟩:∃ B,bitsN a=B:=⟨_,rfl⟩
   have hB1:1<=B:=by rw[← hB];exact bitsN_pos Ha.out
   obtain⟨z,hz⟩:∃ z,(B-1)*n=z:=⟨_,rfl⟩
   have hzl:z<8388608:=by
    have h2:(B-1)*n<=32*ln a*n:=Nat.mul_le_mul_right n (by rw[← hB];have:=bits_le_ln a;omega)
    have h3:=Hln.out
    rw[Nat.mul_assoc] at h2;omega
   have hzi:((B:Int)-1)*(n:Int)=(z:Int):=by rw[← hz,← Int.natCast_one,← Int.ofNat_sub hB1];simp
   have hB2:(1:Int)<=(B:Int):=by omega
   have hB3:(B:Int)<=9000000:=by have:=bits_le_ln a;omega
   have HB:=zh hB
   have t6:decide ((8388608:Int)<=(n:Int))=false:=decide_eq_false (by omega)
   have t7:decide ((8388608:Int)<=(z:Int))=false:=decide_eq_false (by omega)
   have t8:decide (8388608<=n)=false:=decide_eq_false (by omega)
   have t9:decide (8388608<=z)=false:=decide_eq_false (by omega)
   clear h1 hx hw1 hg hB hz hB1
   go_enter Tryz.func190,Tryz.ntmps190
   go_upto_region 6 with ((with_reducible refine (compare_num _ _ a 1 _ HV.out Hone.out (Nat.le_trans hla (by omega)) (by rw[ln_one];omega)).mono ?_);rw[Hx.out];rintro e w' ⟨rfl,q,rfl⟩)
   go_wp2_with (first
    |((with_reducible refine (compare_num _ _ a 1 _ HV.out Hone.out (Nat.le_trans hla (by omega)) (by rw[ln_one];omega)).mono ?_);rw[Hx.out];rintro e w' ⟨rfl,q,rfl⟩)
    |((with_reducible refine (length_num _ a _ (HV.out.below (below_drewN (Below.refl _ _) q)) (Nat.le_trans hla (by omega))).mono ?_);rw[HB.out];rintro e w' ⟨rfl,rfl⟩)
    |((with_reducible refine (raise_any _ a n _ (HV.out.below (below_drewN (Below.refl _ _) q)) Ha.out Hln.out hn).mono ?_);rintro e w2 ⟨V2,rfl,hV2,hb2⟩)
    |((with_reducible refine (short_ok V2 (a ^ n) _ hV2 Hl.out).mono ?_);rintro e w' ⟨rfl,rfl⟩))
   exact HR.out V2 w2 hV2 (Hb.out.trans (Below.trans (below_drewN (Below.refl _ _) q) (hb2.mono (by simp))))
theorem pow_num(V:Value)(a n:Nat)(w:World)(h:Num w V a)(ha:0<a)(hl:ln a*n<=262143)(hla:ln a<=262143)(hn:n<=1000000) :
 Calls Tryz.prog 80 #[V,.int .i64 (n:Nat)] w (GetsOk w (a ^ n)):=by
 have HF:=zh (h.fit (by omega))
 refine calls_cps ?_
 intro R hR
 have Hf:=zh (show ∀ V1 W,Num W V1 (a ^ n)->Below (w.alloc (.cells #[V] 197)).heap.size (w.alloc (.cells #[V] 197)) W->R (.returned (.tuple #[V1,.int .i64 0])) W from λV1 W g1 g2=>hR.out _ _ ⟨V1,rfl,g1,below_one _ g2⟩)
 have HV:=zh (h.below (below_new w (.cells #[V] 197)))
 have Ha:=zh ha
 have Hl:=zh hl
 obtain⟨A,L,c,rfl,-,-⟩:=h
 clear hR ha hl
 go_enter Tryz.func80,Tryz.ntmps80
 go_wp2_with (first
  |((with_reducible refine (valid_one _ w _ HF.out).mono ?_);rintro e w' ⟨rfl,rfl⟩)
  |((with_reducible refine (power_any _ a n _ HV.out Ha.out Hl.out hla hn).mono ?_);rintro e w2 ⟨V2,rfl,hV2,hb2⟩))
 exact Hf.out _ _ hV2 hb2
end
section
open Go.RowKit
theorem or_two{x y t:Nat}(h:x+y*4294967296=t)(hx:x<4294967296)(hy:y<4294967296):bits .or .u64 (x:Int) ((y:Int)*4294967296)=(t:Int):=by
 have e1:bits .or .u64 (x:Int) ((y*4294967296:Nat):Int)=((x ||| y*4294967296:Nat):Int):=u64_or_nat x (y*4294967296) (by omega) (by omega)
 have e2:x ||| y*4294967296=y*4294967296+x:=or_low (r:=32) (by omega) (by omega)
 have e3:((y:Int)*4294967296)=((y*4294967296:Nat):Int):=by simp
 rw[e3,e1,e2];omega
theorem or_zero{x:Nat}(hx:x<4294967296):bits .or .u64 0 (x:Int)=(x:Int):=by
 have e1:bits .or .u64 ((0:Nat):Int) (x:Int)=((0 ||| x:Nat):Int):=u64_or_nat 0 x (by omega) (by omega)
 rw[Nat.zero_or] at e1
 exact e1
theorem uint64_big(V:Value)(a:Nat)(w:World)(h:Num w V a)(hl:ln a<=262144)(h2:2<ln a) :
 Calls Tryz.prog 85 #[V] w λe w'=>e=.returned (.tuple #[.int .u64 0,.int .i64 5])/\Below w.heap.size w w':=by
 have HF:=zh (h.fit hl)
 obtain⟨A,n,c,rfl,hnc,hN⟩:=h
 have hn:2<n:=by rw[hN.1];exact h2
 have t1:decide ((2:Int)<(n:Int))=true:=decide_eq_true (by omega)
 refine calls_cps ?_
 intro R hR
 have Hf:=zh (hR.out _ (w.alloc (.cells #[Value.slice A n c] 197)) ⟨rfl,below_new w _⟩)
 clear hR hN hl h2
 go_enter Tryz.func85,Tryz.ntmps85
 go_wp2_with ((with_reducible refine (valid_one _ w _ HF.out).mono ?_);rintro e w' ⟨rfl,rfl⟩)
 exact Hf.out
theorem uint64_small(V:Value)(a:Nat)(w:World)(h:Num w V a)(h2:ln a<=2) :
 Calls Tryz.prog 85 #[V] w λe w'=>e=.returned (.tuple #[.int .u64 (a:Nat),.int .i64 0])/\Below w.heap.size w w':=by
 have HF:=zh (h.fit (by omega))
 obtain⟨A,n,c,rfl,hnc,hN⟩:=h
 have hn:n<=2:=by rw[hN.1];exact h2
 have t1:decide ((2:Int)<(n:Int))=false:=decide_eq_false (by omega)
 refine calls_cps ?_
 intro R hR
 have Hf:=zh (hR.out _ (w.alloc (.cells #[Value.slice A n c] 197)) ⟨rfl,below_new w _⟩)
 have HN:=zh (hN.alloc (.cells #[Value.slice A n c] 197))
 clear hR hN h2
 go_enter Tryz.func85,Tryz.ntmps85
 go_wp2_with ((with_reducible refine (valid_one _ w _ HF.out).mono ?_);rintro e w' ⟨rfl,rfl⟩)
 go_loopw [5,6,7,19] (λs5 _ _ s19 wr=>∃ (i v:Nat),s5=.int .u64 (v:Nat)/\s19=.int .i64 (i:Nat)/\i<=n/\Hid (v=fv (lim a) i)/\wr=w.alloc (.cells #[Value.slice A n c] 197)) (λ_ _ _ s19 _=>n-(intOf s19).toNat)
 case atStart=>exact⟨0,0,rfl,rfl,Nat.zero_le _,zh rfl,rfl⟩
 case round =>
  obtain⟨i,v,rfl,rfl,hi,HI,rfl⟩:=hrel
  by_cases hlt:i<n
  ·have i1:(i:Int)<(n:Int):=by omega
   obtain⟨bl,oa,rfl,hbl,q0⟩:=HN.out.2.at_ hlt
   have hx:=lim_lt a i
   obtain⟨x,hxx⟩:∃ x,lim a i=x:=⟨_,rfl⟩
   rw[hxx] at q0 hx
   obtain rfl|rfl:i=0\/i=1:=by omega
   ·obtain rfl:v=0:=HI.out
    have ho:=or_zero hx
    have Hv:=zh (show x=fv (lim a) 1 from by show x=0+lim a 0*pw 0;rw[hxx,pw_zero];omega)
    clear hxx
    rw[Nat.add_zero] at q0
    go_wp2_with fail
    exact⟨⟨1,x,rfl,rfl,by omega,Hv,trivial⟩,by simp[intOf];omega⟩
   ·have hv:v=lim a 0:=by rw[HI.out];show 0+lim a 0*pw 0=_;rw[pw_zero];omega
    have hvl:v<4294967296:=by rw[hv];exact lim_lt a 0
    obtain⟨t,ht⟩:∃ t,v+x*4294967296=t:=⟨_,rfl⟩
    have ho:=or_two ht hvl hx
    have Hv:=zh (show t=fv (lim a) 2 from by show t=0+lim a 0*pw 0+lim a 1*pw 1;rw[hxx,← hv,pw_zero,pw_one];omega)
    clear hxx hv ht
    go_wp2_with fail
    exact⟨⟨2,t,rfl,rfl,by omega,Hv,trivial⟩,by simp[intOf];omega⟩
  ·obtain rfl:n=i:=by omega
   have hv:=HI.out
   rw[HN.out.val] at hv
   subst hv
   go_wp2_with fail
   exact Hf.out
theorem root_start{a n:Nat}(hn:0<n):root n a<=2 ^ ((bitsN a+n-1)/n):=by
 refine Nat.le_of_lt (root_lt hn ?_)
 refine Nat.lt_of_lt_of_le (lt_two_bits a) ?_
 rw[← Nat.pow_mul]
 refine Nat.pow_le_pow_right (by omega) ?_
 have:=Nat.div_add_mod (bitsN a+n-1) n
 have h2:=Nat.mod_lt (bitsN a+n-1) hn
 rw[Nat.mul_comm] at this
 omega
theorem root_small{a n:Nat}(hn:bitsN a<=n)(ha:0<a)(hn0:0<n):root n a=1:=by
 refine root_eq hn0 (by rw[Nat.one_pow];exact ha) ?_
 exact Nat.lt_of_lt_of_le (lt_two_bits a) (Nat.pow_le_pow_right (by omega) hn)
theorem ln_two_pow(t:Nat):ln (2 ^ t)<=t/32+1:=by
 refine (ln_le_iff _ _).2 ?_
 rw[pw_two]
 exact Nat.pow_lt_pow_right (by omega) (by omega)
theorem step_len{a n x:Nat}(hn:0<n)(hn2:n<=1000)(hl:ln a<=2000)(hx:x<=2 ^ ((bitsN a+n-1)/n)):ln x<=64001/\ln x*(n-1)<=66000:=by
 have h1:=Nat.le_trans (ln_mono hx) (ln_two_pow _)
 have hb:=bits_le_ln a
 obtain⟨B,hB⟩:∃ B,bitsN a=B:=⟨_,rfl⟩
 rw[hB] at h1 hb hx
 obtain⟨t,ht⟩:∃ t,(B+n-1)/n=t:=⟨_,rfl⟩
 rw[ht] at h1
 have h2:t*n<=B+n-1:=by rw[← ht];exact Nat.div_mul_le_self _ _
 have h3:t<=t*n:=Nat.le_mul_of_pos_right _ hn
 refine⟨by omega,?_⟩
 have h4:ln x*(n-1)<=(t/32+1)*(n-1):=Nat.mul_le_mul_right _ h1
 have h5:(t/32+1)*(n-1)<=(t/32+1)*n:=Nat.mul_le_mul_left _ (by omega)
 have h6:t/32*n<=t*n:=Nat.mul_le_mul_right _ (Nat.div_le_self _ _)
 have h7:(t/32+1)*n=t/32*n+n:=by rw[Nat.add_mul,Nat.one_mul]
 omega
theorem up_num(V:Value)(a s:Nat)(w:World)(h:Num w V a)(hl:ln a<=300000)(hs:s<=10000000) :
 Calls Tryz.prog 197 #[V,.int .i64 (s:Nat)] w (GetsNum w (a*2 ^ s)):=by
 obtain⟨A,n,c,rfl,hnc,hN⟩:=h
 exact (up_any A n c a s w hN (by rw[hN.1];exact hl) hs).mono λ_ _ h=>h.gets
theorem plus_num(V V2:Value)(a b:Nat)(w:World)(h:Num w V a)(h2:Num w V2 b)(hl:ln a<=600000)(hl2:ln b<=600000) :
 Calls Tryz.prog 199 #[V,V2] w (GetsNum w (a+b)):=by
 obtain⟨A,n,c,rfl,hnc,hN⟩:=h
 obtain⟨B,m,d,rfl,hmd,hM⟩:=h2
 exact (plus_any A B n c m d a b w hN hM (by rw[hN.1];exact hl) (by rw[hM.1];exact hl2)).mono λ_ _ h=>h.gets
theorem part_num(V V2:Value)(a b:Nat)(w:World)(h:Num w V a)(h2:Num w V2 b)(hl:ln a<=300000)(hl2:ln b<=300000)(hb:0<b) :
 Calls Tryz.prog 194 #[V,V2] w (PartP w (a/b) (a%b)):=by
 obtain⟨A,n,c,rfl,hnc,hN⟩:=h
 obtain⟨B,m,d,rfl,hmd,hM⟩:=h2
 exact npart_any A B n c m d a b w hN hM hnc hmd (by rw[hN.1];exact hl) (by rw[hM.1];exact hl2) hb
theorem num_oneAt(w:World)(t:TypeId){b:Nat}(hb:b=w.heap.size):Num (w.alloc (.cells #[Value.int .u32 1] t)) (.slice (some ⟨b,0,none⟩) 1 1) 1:=by
 subst hb;exact num_one w t
theorem cmpN_le{a b:Nat}(h:a<b):cmpN a b<0:=by rw[cmpN_lt h];omega
theorem newton_next{n a x:Nat}(hx:0<x)(ha:0<a)(hge:root (n+1) a<=x):(root (n+1) a<=(x*n+a/x ^ n)/(n+1))/\0<root (n+1) a/\(x<=(x*n+a/x ^ n)/(n+1)->root (n+1) a=x):=by
 refine⟨newton_ge hx,?_,λh=>?_⟩
 ·exact le_root (by omega) (by rw[Nat.one_pow];exact ha)
 ·rcases Nat.eq_or_lt_of_le hge with h1|h1
  ·exact h1
  ·have:=newton_lt h1;omega
theorem root_num(V:Value)(a n:Nat)(w:World)(h:Num w V a)(hl:ln a<=2000)(hn0:0<n)(hn:n<=1000) :
 Calls Tryz.prog 84 #[V,.int .i64 (n:Nat)] w (GetsOk w (root n a)):=by
 have HF:=zh (h.fit (by omega))
 refine calls_cps ?_
 intro R hR
 have HR:=zh (show ∀ V W,Num W V (root n a)->Below w.heap.size w W->R (.returned (.tuple #[V,.int .i64 0])) W from λV W g1 g2=>hR.out _ _ ⟨V,rfl,g1,g2⟩)
 have HV:=zh (h.below (below_new w (.cells #[V] 197)))
 have Hb:=zh (below_new w (.cells #[V] 197))
 have Hl:=zh hl
 obtain⟨A,L,c,rfl,-,hN⟩:=h
 have hLz:L=0 ↔ a=0:=by rw[hN.1];exact ln_eq_zero
 have u1:decide ((n:Int)<1)=false:=decide_eq_false (by omega)
 have u2:decide (n<1)=false:=decide_eq_false (by omega)
 clear hR hl hN
 by_cases h1:n=1\/a=0
 ·have Hr:=zh (show root n a=a from by
   rcases h1 with h1|h1
   ·rw[h1,root_one]
   ·rw[h1,root_zero hn0])
  have hla:ln a<=1000000:=by have:=Hl.out;omega
  by_cases h2:n=1
  ·have u3:((n:Int)==1)=true:=by simp[h2]
   clear h1 h2 hLz
   go_enter Tryz.func84,Tryz.ntmps84
   go_wp2_with (first
    |((with_reducible refine (valid_one _ w _ HF.out).mono ?_);rintro e w' ⟨rfl,rfl⟩)
    |((with_reducible refine (own_num' _ a _ HV.out hla).mono ?_);rintro e w2 ⟨V2,rfl,hV2,hb2⟩))
   exact HR.out _ _ (by rw[Hr.out];exact hV2) (Hb.out.trans (hb2.mono (by simp)))
  ·have u3:((n:Int)==1)=false:=by simp;omega
   have u4:((L:Int)==0)=true:=by
    have:L=0:=hLz.2 (by omega)
    simp[this]
   clear h1 h2 hLz
   go_enter Tryz.func84,Tryz.ntmps84
   go_wp2_with (first
    |((with_reducible refine (valid_one _ w _ HF.out).mono ?_);rintro e w' ⟨rfl,rfl⟩)
    |((with_reducible refine (own_num' _ a _ HV.out hla).mono ?_);rintro e w2 ⟨V2,rfl,hV2,hb2⟩))
   exact HR.out _ _ (by rw[Hr.out];exact hV2) (Hb.out.trans (hb2.mono (by simp)))
 ·have hn1:n≠1:=λe=>h1 (.inl e)
  have ha0:a≠0:=λe=>h1 (.inr e)
  have u3:((n:Int)==1)=false:=by simp;omega
  have u4:((L:Int)==0)=false:=by
   have:L≠0:=λe=>ha0 (hLz.1 e)
   simp;omega
  have Ha:=zh (show 0<a by omega)
  obtain⟨B,hB⟩:∃ B,bitsN a=B:=⟨_,rfl⟩
  have hBl:B<=64000:=by have:=bits_le_ln a;have:=Hl.out;omega
  have HB:=zh hB
  have hn2:2<=n:=by omega
  have hla:ln a<=1000000:=by have:=Hl.out;omega
  clear h1 hn1 ha0 hLz hB
  obtain⟨w1,hw1⟩:∃ w1,w.alloc (.cells #[Value.slice A L c] 197)=w1:=⟨_,rfl⟩
  by_cases hBn:B<=n
  ·have u5:decide ((B:Int)<=(n:Int))=true:=decide_eq_true (by omega)
   have u6:decide (B<=n)=true:=decide_eq_true hBn
   have Hr:=zh (show root n a=1 from root_small (by rw[HB.out];exact hBn) Ha.out hn0)
   clear hBn hw1
   go_enter Tryz.func84,Tryz.ntmps84
   go_wp2_with (first
    |((with_reducible refine (valid_one _ w _ HF.out).mono ?_);rintro e w' ⟨rfl,rfl⟩)
    |((with_reducible refine (length_num _ a _ HV.out hla).mono ?_);rw[HB.out];rintro e w' ⟨rfl,rfl⟩))
   exact HR.out _ _ (by rw[Hr.out];exact (show Num _ (.slice (some ⟨w.heap.size+1,0,none⟩) 1 1) 1 from num_oneAt _ _ (by simp))) (Hb.out.trans ((below_new _ _).mono (by simp)))
  ·have u5:decide ((B:Int)<=(n:Int))=false:=decide_eq_false (by omega)
   have u6:decide (B<=n)=false:=decide_eq_false hBn
   obtain⟨k,hk⟩:∃ k,n-1=k:=⟨_,rfl⟩
   have hnk:n=k+1:=by omega
   obtain⟨t,ht⟩:∃ t,(B+n-1)/n=t:=⟨_,rfl⟩
   have hti:((B:Int)+(n:Int)-1)/(n:Int)=(t:Int):=by
    rw[← ht,Int.natCast_ediv,Int.ofNat_sub (by omega),Int.natCast_add];rfl
   have htl:t<=65000:=by
    have:(B+n-1)/n<=B+n-1:=Nat.div_le_self _ _
    omega
   have hBi:(B:Int)<=64000:=by omega
   have hki:(n:Int)-1=(k:Int):=by omega
   have hkl:k<=1000:=by omega
   have Hst:=zh (root_start (a:=a) hn0)
   have Hlen:=zh (λx=>step_len (a:=a) (n:=n) (x:=x) hn0 hn Hl.out)
   have Hnx:=zh (λx=>newton_next (n:=k) (a:=a) (x:=x))
   rw[HB.out,ht] at Hst Hlen
   rw[← hnk] at Hnx
   rw[hk] at Hlen
   have HV1:=HV
   have Hb1:=Hb
   rw[hw1] at HV1 Hb1
   have HV1:=zh HV1.out
   have Hn1:=zh hnk
   have hn64:n<18446744073709551616:=by omega
   have hk64:k<18446744073709551616:=by omega
   have Ho:=zh (show Num (w1.alloc (.cells #[Value.int .u32 1] 185)) (.slice (some ⟨w1.heap.size,0,none⟩) 1 1) 1 from num_one _ _)
   have HVo:=zh (HV1.out.below (below_new w1 (.cells #[Value.int .u32 1] 185)))
   have Hbo:=zh (Hb1.out.trans ((below_new w1 (.cells #[Value.int .u32 1] 185)).mono Hb1.out.size))
   have hln1:ln 1<=300000:=by rw[ln_one];omega
   have Hw1:=zh hw1
   clear hk hnk hBn ht hBl hw1
   go_enter Tryz.func84,Tryz.ntmps84
   go_upto_region 10 with (first
    |((with_reducible refine (valid_one _ w _ HF.out).mono ?_);rintro e w' ⟨rfl,rfl⟩)
    |((with_reducible refine (length_num _ a _ HV.out hla).mono ?_);rw[HB.out];rintro e w' ⟨rfl,rfl⟩))
   rw[Hw1.out]
   clear Hw1 HV Hb
   go_wp2_with (first
    |((with_reducible refine (length_num _ a _ HVo.out hla).mono ?_);rw[HB.out];rintro e w' ⟨rfl,rfl⟩)
    |((with_reducible refine (up_num _ 1 t _ Ho.out hln1 (by omega)).mono ?_);rintro e w2 ⟨V7,rfl,hV7,hb2⟩;have HV2:=zh (HVo.out.below hb2);have Hb2:=zh (Hbo.out.trans (hb2.mono Hbo.out.size));have H7:=zh hV7;clear hV7 hb2)
    |((with_reducible refine (of_any k _ hk64).mono ?_);rintro e w3 ⟨V8,rfl,hV8,hb3⟩;have HV3:=zh (HV2.out.below hb3);have Hb3:=zh (Hb2.out.trans (hb3.mono Hb2.out.size));have H73:=zh (H7.out.below hb3);have H8:=zh hV8;clear hV8 hb3)
    |((with_reducible refine (of_any n _ hn64).mono ?_);rintro e w4 ⟨V9,rfl,hV9,hb4⟩;have HV4:=zh (HV3.out.below hb4);have Hb4:=zh (Hb3.out.trans (hb4.mono Hb3.out.size));have H74:=zh (H73.out.below hb4);have H84:=zh (H8.out.below hb4);have H9:=zh hV9;clear hV9 hb4))
   have hkn:ln k<=100:=Nat.le_trans ((ln_le_iff 1 k).2 (by rw[pw_one];omega)) (by omega)
   have hnn:ln n<=100:=Nat.le_trans ((ln_le_iff 1 n).2 (by rw[pw_one];omega)) (by omega)
   obtain⟨x0,hx0⟩:∃ x,2 ^ t=x:=⟨_,rfl⟩
   rw[Nat.one_mul] at H74
   rw[hx0] at H74 Hst Hlen
   have Hx0:=zh hx0
   clear Ho HVo Hbo HV2 Hb2 H7 HV3 Hb3 H73 H8 HV1 Hb1 hx0 hti
   go_loopg [7,10,11,12,13] x0 (λgk s7 _ _ _ _ wr=>∃ V7:Value,V7=s7/\Hid (Num wr V7 gk/\Num wr (.slice A L c) a/\Num wr V8 k/\Num wr V9 n)/\Hid (root n a<=gk/\gk<=x0)/\Hid (Below w.heap.size w wr))
   case atStart=>exact⟨_,rfl,zh ⟨H74.out,HV4.out,H84.out,H9.out⟩,zh ⟨Hst.out,Nat.le_refl _⟩,Hb4⟩
   case round =>
    clear H74 HV4 H84 H9 Hb4
    obtain⟨V7,rfl,HN,HI,HW⟩:=hrel
    obtain⟨x,hx⟩:∃ x,gk=x:=⟨_,rfl⟩
    rw[hx] at HN HI
    have Hgx:=zh hx
    have hxp:0<x:=by
     have h1:=(Hnx.out x)
     have h2:0<root n a:=le_root hn0 (by rw[Nat.one_pow];exact Ha.out)
     have:=HI.out.1
     omega
    have hlx:=(Hlen.out x HI.out.2)
    have Hnew:=zh (Hnx.out x hxp Ha.out HI.out.1)
    have Hlt:=zh (show root n a<x->(x*k+a/x ^ k)/n<x from λh=>by
     rw[Hn1.out] at h ⊢;exact newton_lt h)
    obtain⟨y,hy⟩:∃ y,(x*k+a/x ^ k)/n=y:=⟨_,rfl⟩
    have Hy:=zh hy
    have hxk:0<x ^ k:=Nat.pow_pos hxp
    have hl1:ln (x ^ k)<=300000:=Nat.le_trans (ln_pow_le' hxp k) (by omega)
    have hl2:ln (a/x ^ k)<=300000:=Nat.le_trans (ln_div_le _ _) (by have:=Hl.out;omega)
    have hl3:ln (x*k)<=200000:=Nat.le_trans (ln_mul_le _ _) (by omega)
    have hl4:ln (x*k+a/x ^ k)<=300000:=Nat.le_trans (ln_add_le _ _) (by have:=ln_div_le a (x ^ k);have:=Hl.out;omega)
    have hl5:ln x<=300000:=by omega
    have hl6:ln a<=300000:=by have:=Hl.out;omega
    have hl7:ln x*k<=262143:=by omega
    have hly:ln y<=1000000:=by rw[← hy];exact Nat.le_trans (ln_div_le _ _) (by omega)
    have hlx6:ln x<=1000000:=by omega
    have hk3:ln k<=300000:=by omega
    have hn3:ln n<=300000:=by omega
    have hl36:ln (x*k)<=600000:=by omega
    have hl26:ln (a/x ^ k)<=600000:=by omega
    clear hx hlx hy
    have Hk1000:=zh (show k<=1000000 by omega)
    go_wp2_with (first
     |((with_reducible refine (raise_any V7 x k _ HN.out.1 hxp hl7 Hk1000.out).mono ?_);rintro e w5 ⟨V5,rfl,hV5,hb5⟩;have HN5:=zh (show Num w5 V7 x/\Num w5 (.slice A L c) a/\Num w5 V8 k/\Num w5 V9 n/\Num w5 V5 (x ^ k) from ⟨HN.out.1.below hb5,HN.out.2.1.below hb5,HN.out.2.2.1.below hb5,HN.out.2.2.2.below hb5,hV5⟩);have HW5:=zh (HW.out.trans (hb5.mono HW.out.size));clear hV5 hb5)
     |((with_reducible refine (part_num _ V5 a (x ^ k) _ HN5.out.2.1 HN5.out.2.2.2.2 hl6 hl1 hxk).mono ?_);rintro e w6 ⟨V6,V6',rfl,hV6,-,hb6⟩;have HN6:=zh (show Num w6 V7 x/\Num w6 (.slice A L c) a/\Num w6 V8 k/\Num w6 V9 n/\Num w6 V6 (a/x ^ k) from ⟨HN5.out.1.below hb6,HN5.out.2.1.below hb6,HN5.out.2.2.1.below hb6,HN5.out.2.2.2.1.below hb6,hV6⟩);have HW6:=zh (HW5.out.trans (hb6.mono HW5.out.size));clear hV6 hb6)
     |((with_reducible refine (times_num V7 V8 x k _ HN6.out.1 HN6.out.2.2.1 hl5 hk3).mono ?_);rintro e wA ⟨VA,rfl,hVA,hbA⟩;have HNA:=zh (show Num wA V7 x/\Num wA (.slice A L c) a/\Num wA V8 k/\Num wA V9 n/\Num wA V6 (a/x ^ k)/\Num wA VA (x*k) from ⟨HN6.out.1.below hbA,HN6.out.2.1.below hbA,HN6.out.2.2.1.below hbA,HN6.out.2.2.2.1.below hbA,HN6.out.2.2.2.2.below hbA,hVA⟩);have HWA:=zh (HW6.out.trans (hbA.mono HW6.out.size));clear hVA hbA)
     |((with_reducible refine (plus_num VA V6 (x*k) (a/x ^ k) _ HNA.out.2.2.2.2.2 HNA.out.2.2.2.2.1 hl36 hl26).mono ?_);rintro e wB ⟨VB,rfl,hVB,hbB⟩;have HNB:=zh (show Num wB V7 x/\Num wB (.slice A L c) a/\Num wB V8 k/\Num wB V9 n/\Num wB VB (x*k+a/x ^ k) from ⟨HNA.out.1.below hbB,HNA.out.2.1.below hbB,HNA.out.2.2.1.below hbB,HNA.out.2.2.2.1.below hbB,hVB⟩);have HWB:=zh (HWA.out.trans (hbB.mono HWA.out.size));clear hVB hbB)
     |((with_reducible refine (part_num VB V9 (x*k+a/x ^ k) n _ HNB.out.2.2.2.2 HNB.out.2.2.2.1 hl4 hn3 hn0).mono ?_);rw[Hy.out];rintro e wC ⟨VC,VC',rfl,hVC,-,hbC⟩;have HNC:=zh (show Num wC V7 x/\Num wC (.slice A L c) a/\Num wC V8 k/\Num wC V9 n/\Num wC VC y from ⟨HNB.out.1.below hbC,HNB.out.2.1.below hbC,HNB.out.2.2.1.below hbC,HNB.out.2.2.2.1.below hbC,hVC⟩);have HWC:=zh (HWB.out.trans (hbC.mono HWB.out.size));clear hVC hbC))
    rcases Nat.lt_or_ge y x with hyx|hyx
    ·obtain⟨z,hz⟩:∃ z,cmpN y x=z:=⟨_,rfl⟩
     have hz0:z<0:=by rw[← hz];exact cmpN_le hyx
     have Hz:=zh hz
     have Hyx:=zh hyx
     clear hz hyx
     refine (compare_num VC V7 y x _ HNC.out.2.2.2.2 HNC.out.1 hly hlx6).mono ?_
     rw[Hz.out]
     rintro e wD ⟨rfl,hqD⟩
     have hbD:=hqD.below
     have HND:=zh (show Num wD VC y/\Num wD (.slice A L c) a/\Num wD V8 k/\Num wD V9 n from ⟨HNC.out.2.2.2.2.below hbD,HNC.out.2.1.below hbD,HNC.out.2.2.1.below hbD,HNC.out.2.2.2.1.below hbD⟩)
     have HWD:=zh (HWC.out.trans (hbD.mono HWC.out.size))
     clear hqD hbD
     go_wp2_with fail
     go_roundg y
     case measure=>have:=Hgx.out;have:=Hyx.out;omega
     case rel =>
      refine⟨_,rfl,HND,zh ⟨?_,?_⟩,HWD⟩
      ·have h:=Hnew.out.1
       rwa [Hy.out] at h
      ·have:=HI.out.2;have:=Hyx.out;omega
    ·obtain⟨z,hz⟩:∃ z,cmpN y x=z:=⟨_,rfl⟩
     have hz0:0<=z:=by rw[← hz];exact cmpN_ge hyx
     have Hz:=zh hz
     have Hrx:=zh (Hnew.out.2.2 (by rw[Hy.out];exact hyx))
     clear hz hyx
     refine (compare_num VC V7 y x _ HNC.out.2.2.2.2 HNC.out.1 hly hlx6).mono ?_
     rw[Hz.out]
     rintro e wD ⟨rfl,hqD⟩
     have hbD:=hqD.below
     have Hf:=zh (HR.out V7 wD (by rw[Hrx.out];exact HNC.out.1.below hbD) (HWC.out.trans (hbD.mono HWC.out.size)))
     clear hqD hbD
     go_wp2_with fail
     exact Hf.out
end
end
end Go.Proofs.YtjibohkeapdalaaGreatDoor
