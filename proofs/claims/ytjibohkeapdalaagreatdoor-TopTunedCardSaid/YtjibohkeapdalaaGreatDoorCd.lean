/-
  Contracts of tone's gcd, valid, reduce, Mul, Div, Power; each states its condition.
-/
import Derived.Test.YtjibohkeapdalaaGreatDoorCc
import Derived.Test.YtjibohkeapdalaaGreatDoorCa
import Derived.Deep.RegionHeld3
namespace Go.Proofs.YtjibohkeapdalaaGreatDoor
set_option maxHeartbeats 4000000
section
open Go.RowKit
theorem Qt.trans{a b c:World}(h:Qt a b)(k:Qt b c):Qt a c:=by
 obtain⟨q,rfl⟩:=k
 exact h.step q
theorem wrap_u64(y:Int):IntKind.u64.wrap y=y%18446744073709551616:=rfl
theorem size_anyI(x:Int)(w:World)(h1 : -9223372036854775808<=x)(h2:x<=9223372036854775807) :
 Calls Tryz.prog 187 #[.int .i64 x] w λe w'=>e=.returned (.int .u64 (x.natAbs:Nat))/\w=w':=by
 refine calls_cps ?_
 intro R hR
 rcases Int.lt_or_le x 0 with hx|hx
 ·have t1:decide (x<0)=true:=decide_eq_true hx
  have Hf:=zh (hR.out (.returned (.int .u64 (x.natAbs:Nat))) w ⟨rfl,rfl⟩)
  have e:((x.natAbs:Nat):Int) = -x:=by omega
  rw[e] at Hf
  clear hR e
  go_enter Tryz.func187,Tryz.ntmps187
  go_wp2_with fail
  have e2:IntKind.u64.wrap (-IntKind.u64.wrap x) = -x:=by
   rw[wrap_u64,wrap_u64];omega
  rw[← e2] at Hf
  exact Hf.out
 ·have t1:decide (x<0)=false:=decide_eq_false (by omega)
  have Hf:=zh (hR.out (.returned (.int .u64 (x.natAbs:Nat))) w ⟨rfl,rfl⟩)
  have e:((x.natAbs:Nat):Int)=x:=by omega
  rw[e] at Hf
  clear hR e
  go_enter Tryz.func187,Tryz.ntmps187
  go_wp2_with fail
  exact Hf.out
theorem size_atI(x:Int)(n:Nat)(w:World)(hn:x.natAbs=n)(h1 : -9223372036854775808<=x)(h2:x<=9223372036854775807) :
 Calls Tryz.prog 187 #[.int .i64 x] w λe w'=>e=.returned (.int .u64 (n:Nat))/\w'=w:=(size_anyI x w h1 h2).mono λ_ _ h=>⟨by rw[h.1,hn],h.2.symm⟩
theorem size_at(x:Int)(n:Nat)(w:World)(hn:x.natAbs=n)(h1 : -1000000000000000<=x)(h2:x<=1000000000000000) :
 Calls Tryz.prog 187 #[.int .i64 x] w λe w'=>e=.returned (.int .u64 (n:Nat))/\w'=w:=size_atI x n w hn (by omega) (by omega)
def set4(W:World)(z:Nat)(a b c d:Value):World:=(((W.setCell ⟨z,0,none⟩ a).setCell ⟨z,1,none⟩ b).setCell ⟨z,2,none⟩ c).setCell ⟨z,3,none⟩ d
theorem set4_heap{W:World}{z:Nat}{t:TypeId}{u0 u1 u2 u3:Value}(h:W.heap[z]?=some (.cells #[u0,u1,u2,u3] t (0,0)))(a b c d:Value):(set4 W z a b c d).heap[z]?=some (.cells #[a,b,c,d] t (0,0)):=by
 unfold set4
 simp only[World.setCell,Array.getElem?_modify,h]
 simp
theorem set4_below{W0 W:World}{B z:Nat}(h:Below B W0 W)(hz:B<=z)(a b c d:Value):Below B W0 (set4 W z a b c d):=(((h.setCell hz a).setCell hz b).setCell hz c).setCell hz d
def u64E(n:Nat):List Value:=[.int .u64 (n:Nat)]
def gcdL(l:List Nat):Nat:=l.foldl Nat.gcd 0
theorem gcdL_take{l:List Nat}{i x:Nat}(h:l[i]?=some x):gcdL (l.take (i+1))=Nat.gcd (gcdL (l.take i)) x:=by
 unfold gcdL
 rw[List.take_add_one,h,List.foldl_append];rfl
theorem flat_u64(l:List Nat):l.flatMap u64E=l.map (λn=>Value.int .u64 (n:Nat)):=by
 induction l with
 |nil=>rfl
 |cons a l ih=>simp[u64E,ih]
theorem SlE.atU{w:World}{A:Option Addr}{n k:Nat}{l:List Nat}(h:SlE u64E 1 w A n l)(hk:k<n) :
 ∃ b o x,A=some ⟨b,o,none⟩/\b<w.heap.size/\l[k]?=some x/\w.cell? ⟨b,o+k,none⟩=some (.int .u64 (x:Nat)):=by
 obtain⟨hn,hl,hc⟩:=h
 obtain⟨b,o,e,hb,hcc⟩:=hc (by omega)
 have hx:k<l.length:=by omega
 refine⟨b,o,l[k],e,hb,List.getElem?_eq_getElem hx,?_⟩
 refine hcc k _ ?_
 rw[flat_u64,List.getElem?_map,List.getElem?_eq_getElem hx];rfl
theorem gcd_any(A:Option Addr)(n c:Nat)(l:List Nat)(w:World)(h:SlE u64E 1 w A n l)(hn:n<=100)(hl:∀ x∈l,x<18446744073709551616) :
 Calls Tryz.prog 186 #[.slice A n c] w λe w'=>e=.returned (.int .u64 (gcdL l:Nat))/\Qt w w':=by
 refine calls_cps ?_
 intro R hR
 have HR:=zh (show ∀ W g,g=gcdL l->Qt w W->R (.returned (.int .u64 (g:Nat))) W from λW g h1 h2=>hR.out _ _ ⟨by rw[h1],h2⟩)
 have H:=zh (And.intro h hl)
 clear hR h hl
 go_enter Tryz.func186,Tryz.ntmps186
 go_wp2_with fail
 go_loopw [3,5,8] (λs3 _ s8 wr=>∃ (i a:Nat),s3=.int .u64 (a:Nat)/\s8=.int .i64 (i:Nat)/\i<=n/\a<18446744073709551616/\Hid (a=gcdL (l.take i))/\Qt w wr) (λ_ _ s8 _=>n-(intOf s8).toNat)
 case atStart=>exact⟨0,0,rfl,rfl,Nat.zero_le _,by omega,zh rfl,Qt.refl _⟩
 case round =>
  obtain⟨i,a,rfl,rfl,hi,ha,HI,⟨q,rfl⟩⟩:=hrel
  by_cases hlt:i<n
  ·have i1:(i:Int)<(n:Int):=by omega
   obtain⟨b,o,x,rfl,hb,hx,q0⟩:=H.out.1.atU hlt
   have q1:(w.drewN q).cell? ⟨b,o+i,none⟩=some (.int .u64 (x:Nat)):=q0
   have hxl:=H.out.2 x (List.mem_of_getElem? hx)
   have Hx:=zh (gcdL_take hx)
   clear hx q0
   go_wp2_with fail
   go_loopw [3,5] (λs3 s5 wr=>∃ (a' x':Nat),s3=.int .u64 (a':Nat)/\s5=.int .u64 (x':Nat)/\a'<18446744073709551616/\x'<18446744073709551616/\Hid (Nat.gcd a' x'=Nat.gcd a x)/\Qt w wr) (λ_ s5 _=>(intOf s5).toNat)
   case atStart=>exact⟨a,x,rfl,rfl,ha,hxl,zh rfl,⟨_,rfl⟩⟩
   case round =>
    obtain⟨a',x',rfl,rfl,ha',hx',HI',⟨q',rfl⟩⟩:=hrel
    rcases Nat.eq_zero_or_pos x' with h0|h0
    ·subst h0
     have Hg:=zh (show a'=gcdL (l.take (i+1)) from by rw[Hx.out,← HI.out,← HI'.out,Nat.gcd_zero_right])
     go_wp2_with fail
     exact⟨⟨i+1,a',rfl,by go_num,by omega,ha',Hg,⟨_,rfl⟩⟩,by simp[intOf];omega⟩
    ·have j1:(0:Int)<(x':Int):=by omega
     have j2:((x':Nat):Int)≠0:=by omega
     have hm:=Nat.mod_lt a' h0
     have Hg:=zh (show Nat.gcd x' (a'%x')=Nat.gcd a x from by rw[← HI'.out,Nat.gcd_comm a',Nat.gcd_rec x' a',Nat.gcd_comm])
     go_wp2_with fail
     go_quiet (fail)
     go_wp2_with fail
     exact⟨⟨x',a'%x',rfl,by simp,hx',by omega,Hg,⟨_,World.drewN_drewN _ _ _⟩⟩,by simp[intOf];omega⟩
  ·obtain rfl:n=i:=by omega
   have Hg:=zh (show a=gcdL l from by rw[HI.out,H.out.1.1,List.take_length])
   have Hf:=zh (HR.out (w.drewN q) a Hg.out ⟨_,rfl⟩)
   go_wp2_with fail
   exact Hf.out
theorem gcdL_four(a b c d:Int):gcdL [a.natAbs,b.natAbs,c.natAbs,d.natAbs]=g4 a b c d:=by
 unfold gcdL g4
 simp
theorem gcdL_two(a b:Nat):gcdL [a,b]=Nat.gcd a b:=by
 unfold gcdL
 simp
def Tn.val(t:Tn):Value:=.agg #[.int .i64 t.two,.int .i64 t.three,.int .i64 t.five,.int .i64 t.den]
structure Tn.BdI(t:Tn):Prop where
 a0 : -9223372036854775808<=t.two
 a1:t.two<=9223372036854775807
 b0 : -9223372036854775808<=t.three
 b1:t.three<=9223372036854775807
 c0 : -9223372036854775808<=t.five
 c1:t.five<=9223372036854775807
 d0 : -9223372036854775808<=t.den
 d1:t.den<=9223372036854775807
structure Tn.Bd(t:Tn):Prop where
 a0 : -1000000000000<=t.two
 a1:t.two<=1000000000000
 b0 : -1000000000000<=t.three
 b1:t.three<=1000000000000
 c0 : -1000000000000<=t.five
 c1:t.five<=1000000000000
 d0 : -1000000000000<=t.den
 d1:t.den<=1000000000000
theorem below_al1{w W:World}(h:Below w.heap.size w W)(o:Obj):Below w.heap.size w (W.alloc o):=h.alloc h.size o
theorem sl_four(w:World)(t:TypeId)(a b c d:Nat){g:Nat}(hg:g=w.heap.size):SlE u64E 1 (w.alloc (.cells #[Value.int .u64 (a:Nat),Value.int .u64 (b:Nat),Value.int .u64 (c:Nat),Value.int .u64 (d:Nat)] t)) (some ⟨g,0,none⟩) 4 [a,b,c,d]:=
 ⟨rfl,Sl.newAt w #[Value.int .u64 (a:Nat),Value.int .u64 (b:Nat),Value.int .u64 (c:Nat),Value.int .u64 (d:Nat)] t 1 4 rfl hg⟩
theorem valid_toneI(t:Tn)(w:World)(ht:t.BdI):Calls Tryz.prog 78 #[t.val] w λe w'=>e=.returned (.bool t.okB)/\Below w.heap.size w w':=by
 refine calls_cps ?_
 intro R hR
 obtain⟨a,b,c,d⟩:=t
 obtain⟨a0,a1,b0,b1,c0,c1,d0,d1⟩:=ht
 dsimp only at a0 a1 b0 b1 c0 c1 d0 d1
 unfold Tn.val
 dsimp only
 have HR:=zh hR
 clear hR
 have hx:=heap_alloc_new w (.cells #[Value.int .i64 a,.int .i64 b,.int .i64 c,.int .i64 d] 115)
 have Hb:=zh (below_new w (.cells #[Value.int .i64 a,.int .i64 b,.int .i64 c,.int .i64 d] 115))
 obtain⟨W,hW⟩:∃ W,w.alloc (.cells #[Value.int .i64 a,.int .i64 b,.int .i64 c,.int .i64 d] 115)=W:=⟨_,rfl⟩
 rw[hW] at hx Hb
 have Hgl:=zh (show w.heap.size<W.heap.size by rw[← hW];simp)
 obtain⟨g,hg⟩:∃ g,w.heap.size=g:=⟨_,rfl⟩
 rw[hg] at hx Hgl
 have Hx:=zh hx
 have Hg:=zh hg
 have HW:=zh hW
 clear hx hg hW
 go_enter Tryz.func78,Tryz.ntmps78
 go_upto_region 1 with fail
 rw[HW.out,Hg.out]
 obtain⟨q0,q1,q2,q3,q4⟩:=cells4 Hx.out
 obtain⟨na,hna⟩:∃ n,a.natAbs=n:=⟨_,rfl⟩
 obtain⟨nb,hnb⟩:∃ n,b.natAbs=n:=⟨_,rfl⟩
 obtain⟨nc,hnc⟩:∃ n,c.natAbs=n:=⟨_,rfl⟩
 obtain⟨nd,hnd⟩:∃ n,d.natAbs=n:=⟨_,rfl⟩
 have Hna:=zh hna
 have Hnb:=zh hnb
 have Hnc:=zh hnc
 have Hnd:=zh hnd
 obtain⟨G,hG⟩:∃ G,g4 a b c d=G:=⟨_,rfl⟩
 have Hgc:=zh (gcdL_four a b c d)
 rw[hna,hnb,hnc,hnd,hG] at Hgc
 have Hok:=zh (show Tn.okB ⟨a,b,c,d⟩=(decide (G=1)&&decide (1<=d)&&decide (d<=24)&&decide (na<=960/\nb<=960/\nc<=960)) from by
  unfold Tn.okB
  dsimp only
  rw[hG,hna,hnb,hnc])
 clear hG
 have hnl:na<9223372036854775809/\nb<9223372036854775809/\nc<9223372036854775809/\nd<9223372036854775809:=by omega
 have Hnl:=zh (show ∀ x∈[na,nb,nc,nd],x<18446744073709551616 from λx hx=>by simp at hx;omega)
 clear hna hnb hnc hnd hnl
 have Hbx:=zh (show ∀ W',Below W.heap.size W W'->Below W.heap.size W W'/\W'.cell? ⟨g,0,none⟩=some (.int .i64 a)/\W'.cell? ⟨g,1,none⟩=some (.int .i64 b)/\W'.cell? ⟨g,2,none⟩=some (.int .i64 c)/\W'.cell? ⟨g,3,none⟩=some (.int .i64 d) from λW' hb=>by
  obtain⟨r0,r1,r2,r3,_⟩:=cells4 ((hb.block g Hgl.out).trans Hx.out)
  exact⟨hb,r0,r1,r2,r3⟩)
 have hbz:Below W.heap.size W W.drew:=(Below.refl _ W).drew
 have s0:(-9223372036854775808<=a/\a<=9223372036854775807)/\(-9223372036854775808<=b/\b<=9223372036854775807)/\(-9223372036854775808<=c/\c<=9223372036854775807)/\(-9223372036854775808<=d/\d<=9223372036854775807):=by omega
 have Hs:=zh s0
 clear s0 q4
 have Hsl:=zh (show SlE u64E 1 (W.alloc (.cells #[Value.int .u64 (na:Nat),Value.int .u64 (nb:Nat),Value.int .u64 (nc:Nat),Value.int .u64 (nd:Nat)] 38)).drew (some ⟨W.heap.size,0,none⟩) 4 [na,nb,nc,nd] from sl_four W _ na nb nc nd rfl)
 have hb4:Below W.heap.size W (W.alloc (.cells #[Value.int .u64 (na:Nat),Value.int .u64 (nb:Nat),Value.int .u64 (nc:Nat),Value.int .u64 (nd:Nat)] 38)).drew:=(below_new W _).drew
 go_cut [3] (λs3 wx=>∃ p,s3=.bool p/\Hid (decide (G=1)=p)/\Below W.heap.size W wx)
 case first =>
  go_region_held3 (λw'=>Below W.heap.size W w'/\w'.cell? ⟨g,0,none⟩=some (.int .i64 a)/\w'.cell? ⟨g,1,none⟩=some (.int .i64 b)/\w'.cell? ⟨g,2,none⟩=some (.int .i64 c)/\w'.cell? ⟨g,3,none⟩=some (.int .i64 d))
   (first
    |(refine Hbx.out _ ?_;repeat (first|with_reducible exact hbz|with_reducible exact Below.refl _ _|with_reducible refine Below.drew ?_|with_reducible exact hka|with_reducible refine below_al1 ?_ _|assumption|exact Nat.le_refl _))
    |go_keep)
   (first
   |(go_at_call 187;first
    |((with_reducible refine (size_anyI a _ Hs.out.1.1 Hs.out.1.2).mono ?_);rw[Hna.out];rintro e w' ⟨rfl,rfl⟩)
    |((with_reducible refine (size_anyI b _ Hs.out.2.1.1 Hs.out.2.1.2).mono ?_);rw[Hnb.out];rintro e w' ⟨rfl,rfl⟩)
    |((with_reducible refine (size_anyI c _ Hs.out.2.2.1.1 Hs.out.2.2.1.2).mono ?_);rw[Hnc.out];rintro e w' ⟨rfl,rfl⟩)
    |((with_reducible refine (size_anyI d _ Hs.out.2.2.2.1 Hs.out.2.2.2.2).mono ?_);rw[Hnd.out];rintro e w' ⟨rfl,rfl⟩))
   |(go_at_call 186;(with_reducible refine (gcd_any _ 4 4 [na,nb,nc,nd] _ Hsl.out (by omega) Hnl.out).mono ?_);rw[Hgc.out];rintro e w' ⟨rfl,hq⟩;have hka:=hb4.trans (hq.below.mono hb4.size)))
  go_wp2_with fail
  go_meet
  exact⟨_,rfl,zh (by by_cases h:G=1<;>simp[h]<;>omega),hka⟩
 case rest =>
  obtain⟨p,rfl,Hp,hbx⟩:=hcut
  have hb2:=Hb.out.trans (hbx.mono Hb.out.size)
  obtain⟨-,q0,q1,q2,q3⟩:=Hbx.out _ hbx
  have Hfin:=zh (λ(v:Bool) W' (hv:Tn.okB ⟨a,b,c,d⟩=v) (hb:Below wc.heap.size wc W')=>HR.out.out (.returned (.bool v)) W' ⟨by rw[hv],hb2.trans (hb.mono hb2.size)⟩)
  rw[Hok.out] at Hfin
  clear hbx hb2 Hbx Hb hbz hb4
  cases p with
  |false =>
   have Hf:=zh (λW' hb=>Hfin.out false W' (by rw[Hp.out];rfl) hb)
   go_wp2_with fail
   go_quiet (fail)
   go_wp2_with fail
   exact Hf.out _ (below_drewN (Below.refl _ _) _)
  |true =>
   by_cases e2:1<=d
   ·by_cases e3:d<=24
    ·have Hf:=zh (λW' (v:Bool) (hv:decide (na<=960/\nb<=960/\nc<=960)=v) hb=>Hfin.out v W' (by rw[← hv,Hp.out];simp[e2,e3]) hb)
     have HQ:=zh (λq=>(below_drewN (Below.refl wc.heap.size wc) q))
     go_wp2_with fail
     go_quiet ((go_at_call 187;first
      |with_reducible exact Calls.quiet_of_same (size_atI a na _ Hna.out Hs.out.1.1 Hs.out.1.2)
      |with_reducible exact Calls.quiet_of_same (size_atI b nb _ Hnb.out Hs.out.2.1.1 Hs.out.2.1.2)
      |with_reducible exact Calls.quiet_of_same (size_atI c nc _ Hnc.out Hs.out.2.2.1.1 Hs.out.2.2.1.2)))
     go_wp2_with fail
     all_goals exact Hf.out _ _ (decide_eq_decide.2 (by omega)) (HQ.out _)
    ·have Hf:=zh (λW' hb=>Hfin.out false W' (by simp[e3]) hb)
     have e4:24<d:=by omega
     have e5:decide (d<=(24:Int))=false:=decide_eq_false e3
     clear e3
     go_wp2_with fail
     go_quiet (fail)
     go_wp2_with fail
     exact Hf.out _ (below_drewN (Below.refl _ _) _)
   ·have Hf:=zh (λW' hb=>Hfin.out false W' (by simp[e2]) hb)
    have e4:d<1:=by omega
    have e5:decide ((1:Int)<=d)=false:=decide_eq_false e2
    clear e2
    go_wp2_with fail
    go_quiet (fail)
    go_wp2_with fail
    exact Hf.out _ (below_drewN (Below.refl _ _) _)
theorem valid_tone(t:Tn)(w:World)(ht:t.Bd):Calls Tryz.prog 78 #[t.val] w λe w'=>e=.returned (.bool t.okB)/\Below w.heap.size w w':=
 valid_toneI t w ⟨by have:=ht.a0;omega,by have:=ht.a1;omega,by have:=ht.b0;omega,by have:=ht.b1;omega,by have:=ht.c0;omega,by have:=ht.c1;omega,by have:=ht.d0;omega,by have:=ht.d1;omega⟩
end
section
open Go.RowKit
theorem qd_le(a:Int)(g:Nat):(qd a g).natAbs<=a.natAbs:=by
 unfold qd
 have:=Nat.div_le_self a.natAbs g
 split
 ·rw[Int.natAbs_neg,Int.natAbs_natCast];exact this
 ·rw[Int.natAbs_natCast];exact this
theorem partC_any(x:Int)(bg g:Nat)(W:World)(hc:W.cell? ⟨bg,0,none⟩=some (.int .u64 (g:Nat)))(hg:0<g)(hgl:g<9223372036854775808)(h1 : -1000000000000000<=x)(h2:x<=1000000000000000) :
 Calls Tryz.prog 355 #[.int .i64 x,.pointer (some ⟨bg,0,none⟩)] W λe W'=>e=.returned (.int .i64 (qd x g))/\Qt W W':=by
 refine calls_cps ?_
 intro R hR
 obtain⟨n,hn⟩:∃ n,x.natAbs=n:=⟨_,rfl⟩
 obtain⟨q,hq⟩:∃ q,n/g=q:=⟨_,rfl⟩
 have hql:q<=1000000000000000:=by rw[← hq];exact Nat.le_trans (Nat.div_le_self _ _) (by omega)
 have hqi:(n:Int)/(g:Int)=(q:Int):=by rw[← hq];simp
 have g0:((g:Nat):Int)≠0:=by omega
 have g1:(0:Int)<(g:Int):=by omega
 have Hf:=zh (show ∀ W' v,v=qd x g->Qt W W'->R (.returned (.int .i64 v)) W' from λW' v hv hq=>hR.out _ _ ⟨by rw[hv],hq⟩)
 have Hqd:=zh (show qd x g=if x<0 then -(q:Int) else (q:Int) from by unfold qd;rw[hn,hq])
 have Hn:=zh hn
 have hq64:IntKind.i64.wrap (q:Int)=(q:Int):=IntWalk.i64_in _ (by omega)
 clear hR hn hq
 rcases Int.lt_or_le x 0 with hx|hx
 ·have t1:decide (x<0)=true:=decide_eq_true hx
  have Hv:=zh (show -(q:Int)=qd x g from by rw[Hqd.out,if_pos hx])
  go_enter Tryz.func355,Tryz.ntmps355
  go_wp2_with fail
  go_quiet ((go_at_call 187;with_reducible exact Calls.quiet_of_same (size_at x n _ Hn.out h1 h2)))
  go_wp2_with fail
  exact Hf.out _ _ Hv.out ⟨_,rfl⟩
 ·have t1:decide (x<0)=false:=decide_eq_false (by omega)
  have Hv:=zh (show (q:Int)=qd x g from by rw[Hqd.out,if_neg (by omega)])
  go_enter Tryz.func355,Tryz.ntmps355
  go_wp2_with fail
  go_quiet ((go_at_call 187;with_reducible exact Calls.quiet_of_same (size_at x n _ Hn.out h1 h2)))
  go_wp2_with fail
  exact Hf.out _ _ Hv.out ⟨_,rfl⟩
def redRet:Option Tn->Value
 |some t=>.tuple #[t.val,.int .i64 0]
 |none=>.tuple #[.agg #[.int .i64 0,.int .i64 0,.int .i64 0,.int .i64 0],.int .i64 5]
theorem redT_yes{a b c d:Int}(h:(redV a b c d).okB=true):redT a b c d=some (redV a b c d):=if_pos h
theorem redT_no{a b c d:Int}(h:(redV a b c d).okB=false):redT a b c d=none:=if_neg (by rw[h];simp)
theorem valid_agg(a b c d:Int)(p:Bool)(w:World)(h:Tn.Bd ⟨a,b,c,d⟩)(hp:Tn.okB ⟨a,b,c,d⟩=p) :
 Calls Tryz.prog 78 #[.agg #[.int .i64 a,.int .i64 b,.int .i64 c,.int .i64 d]] w λe w'=>e=.returned (.bool p)/\Below w.heap.size w w':=by
 subst hp
 exact valid_tone ⟨a,b,c,d⟩ w h
theorem reduce_any(a b c d:Int)(w:World)(ha:a.natAbs<=1000000000)(hb:b.natAbs<=1000000000)(hc:c.natAbs<=1000000000)(hd:1<=d)(hd2:d<=1000000000) :
 Calls Tryz.prog 297 #[.int .i64 a,.int .i64 b,.int .i64 c,.int .i64 d] w λe w'=>e=.returned (redRet (redT a b c d))/\Below w.heap.size w w':=by
 refine calls_cps ?_
 intro R hR
 obtain⟨na,hna⟩:∃ n,a.natAbs=n:=⟨_,rfl⟩
 obtain⟨nb,hnb⟩:∃ n,b.natAbs=n:=⟨_,rfl⟩
 obtain⟨nc,hnc⟩:∃ n,c.natAbs=n:=⟨_,rfl⟩
 obtain⟨nd,hnd⟩:∃ n,d.natAbs=n:=⟨_,rfl⟩
 obtain⟨G,hG⟩:∃ G,g4 a b c d=G:=⟨_,rfl⟩
 have hGp:0<G:=by rw[← hG];exact g4_pos (by omega)
 have hGl:G<=nd:=by
  rw[← hG,← hnd]
  exact Nat.le_of_dvd (by omega) (g4_dvd a b c d).2.2.2
 have Hgc:=zh (gcdL_four a b c d)
 rw[hna,hnb,hnc,hnd,hG] at Hgc
 obtain⟨xa,hxa⟩:∃ x,qd a G=x:=⟨_,rfl⟩
 obtain⟨xb,hxb⟩:∃ x,qd b G=x:=⟨_,rfl⟩
 obtain⟨xc,hxc⟩:∃ x,qd c G=x:=⟨_,rfl⟩
 obtain⟨xd,hxd⟩:∃ x,qd d G=x:=⟨_,rfl⟩
 have hV:redV a b c d=⟨xa,xb,xc,xd⟩:=by unfold redV;rw[hG,hxa,hxb,hxc,hxd]
 have Hyes:=zh (show ∀ W,Tn.okB ⟨xa,xb,xc,xd⟩=true->Below w.heap.size w W->R (.returned (.tuple #[.agg #[.int .i64 xa,.int .i64 xb,.int .i64 xc,.int .i64 xd],.int .i64 0])) W from λW h hb=>hR.out _ _ ⟨by rw[redT_yes (by rw[hV];exact h),hV];rfl,hb⟩)
 have Hno:=zh (show ∀ W,Tn.okB ⟨xa,xb,xc,xd⟩=false->Below w.heap.size w W->R (.returned (.tuple #[.agg #[.int .i64 0,.int .i64 0,.int .i64 0,.int .i64 0],.int .i64 5])) W from λW h hb=>hR.out _ _ ⟨by rw[redT_no (by rw[hV];exact h)];rfl,hb⟩)
 have Hxa:=zh hxa
 have Hxb:=zh hxb
 have Hxc:=zh hxc
 have Hxd:=zh hxd
 have hbd:Tn.Bd ⟨xa,xb,xc,xd⟩:=by
  have:=qd_le a G
  have:=qd_le b G
  have:=qd_le c G
  have:=qd_le d G
  exact⟨by dsimp only;omega,by dsimp only;omega,by dsimp only;omega,by dsimp only;omega,by dsimp only;omega,by dsimp only;omega,by dsimp only;omega,by dsimp only;omega⟩
 have Hs:=zh (show (-1000000000000000<=a/\a<=1000000000000000)/\(-1000000000000000<=b/\b<=1000000000000000)/\(-1000000000000000<=c/\c<=1000000000000000)/\(-1000000000000000<=d/\d<=1000000000000000) by omega)
 have Hnl:=zh (show ∀ x∈[na,nb,nc,nd],x<18446744073709551616 from λx hx=>by simp at hx;omega)
 have Hna:=zh hna
 have Hnb:=zh hnb
 have Hnc:=zh hnc
 have Hnd:=zh hnd
 have hG64:G<9223372036854775808:=by omega
 clear hR hna hnb hnc hnd hG hV hxa hxb hxc hxd ha hb hc hd hd2 hGl
 go_enter Tryz.func297,Tryz.ntmps297
 go_upto_region 1 with fail
 have hb0:=below_new w (.cells #[Value.int .i64 0,.int .i64 0,.int .i64 0,.int .i64 0] 115)
 have hz0:=heap_alloc_new w (.cells #[Value.int .i64 0,.int .i64 0,.int .i64 0,.int .i64 0] 115)
 obtain⟨W0,hW0⟩:∃ W,w.alloc (.cells #[Value.int .i64 0,.int .i64 0,.int .i64 0,.int .i64 0] 115)=W:=⟨_,rfl⟩
 obtain⟨z,hz⟩:∃ z,w.heap.size=z:=⟨_,rfl⟩
 have Hzl:=zh (show z<W0.heap.size by rw[← hW0,← hz];simp)
 rw[hW0] at hb0 hz0 ⊢
 rw[hz] at hz0 ⊢
 have Hb0:=zh hb0
 have Hz0:=zh hz0
 have Hz:=zh hz
 clear hb0 hz0 hW0 hz
 have Hsl:=zh (show SlE u64E 1 (W0.alloc (.cells #[Value.int .u64 (na:Nat),Value.int .u64 (nb:Nat),Value.int .u64 (nc:Nat),Value.int .u64 (nd:Nat)] 38)) (some ⟨W0.heap.size,0,none⟩) 4 [na,nb,nc,nd] from sl_four W0 _ na nb nc nd rfl)
 have Hb1:=zh (below_new W0 (.cells #[Value.int .u64 (na:Nat),Value.int .u64 (nb:Nat),Value.int .u64 (nc:Nat),Value.int .u64 (nd:Nat)] 38))
 go_upto_region 2 with (first
  |(go_at_call 187;first
   |((with_reducible refine (size_at a na _ Hna.out Hs.out.1.1 Hs.out.1.2).mono ?_);rintro e w' ⟨rfl,hw⟩;rw[hw];clear hw)
   |((with_reducible refine (size_at b nb _ Hnb.out Hs.out.2.1.1 Hs.out.2.1.2).mono ?_);rintro e w' ⟨rfl,hw⟩;rw[hw];clear hw)
   |((with_reducible refine (size_at c nc _ Hnc.out Hs.out.2.2.1.1 Hs.out.2.2.1.2).mono ?_);rintro e w' ⟨rfl,hw⟩;rw[hw];clear hw)
   |((with_reducible refine (size_at d nd _ Hnd.out Hs.out.2.2.2.1 Hs.out.2.2.2.2).mono ?_);rintro e w' ⟨rfl,hw⟩;rw[hw];clear hw))
  |(go_at_call 186;(with_reducible refine (gcd_any _ 4 4 [na,nb,nc,nd] _ Hsl.out (by omega) Hnl.out).mono ?_);rw[Hgc.out];rintro e w1 ⟨rfl,hq⟩;have Hb1':=zh (Hb1.out.trans (hq.below.mono Hb1.out.size));clear hq))
 have HcG:=zh (show ∀ q,((w1.alloc (.cells #[Value.int .u64 (G:Nat)] 38)).drewN q).cell? ⟨w1.heap.size,0,none⟩=some (.int .u64 (G:Nat)) from λq=>(cell_of_row _ _ 0 _ _ (0,0) (heap_alloc_new w1 _)).trans rfl)
 have Hb2:=zh ((Hb0.out.trans (Hb1'.out.mono Hb0.out.size)).trans ((below_new w1 (.cells #[Value.int .u64 (G:Nat)] 38)).mono (Nat.le_trans Hb0.out.size Hb1'.out.size)))
 have Hz2:=zh (show ∀ q,((w1.alloc (.cells #[Value.int .u64 (G:Nat)] 38)).drewN q).heap[z]?=some (.cells #[Value.int .i64 0,.int .i64 0,.int .i64 0,.int .i64 0] 115 (0,0)) from λq=>((below_new w1 (.cells #[Value.int .u64 (G:Nat)] 38)).block z (Nat.lt_of_lt_of_le Hzl.out Hb1'.out.size)).trans ((Hb1'.out.block z Hzl.out).trans Hz0.out))
 have Hzs:=zh (show z<(w1.alloc (.cells #[Value.int .u64 (G:Nat)] 38)).heap.size from Nat.lt_of_lt_of_le (Nat.lt_of_lt_of_le Hzl.out Hb1'.out.size) (by simp))
 obtain⟨W2,hW2⟩:∃ W,w1.alloc (.cells #[Value.int .u64 (G:Nat)] 38)=W:=⟨_,rfl⟩
 obtain⟨bg,hbg⟩:∃ g,w1.heap.size=g:=⟨_,rfl⟩
 rw[hW2] at HcG Hb2 Hz2 Hzs ⊢
 rw[hbg] at HcG ⊢
 clear hW2 hbg Hsl Hb1 Hb1' Hz0 Hzl Hb0
 have HcQ:=zh (show ∀ W,Qt W2 W->W.cell? ⟨bg,0,none⟩=some (.int .u64 (G:Nat)) from λW ⟨q,hq⟩=>by rw[hq];exact HcG.out q)
 go_upto_region 4 with (go_at_call 355;first
  |((with_reducible refine (partC_any a bg G _ (HcQ.out _ (Qt.refl _)) hGp hG64 Hs.out.1.1 Hs.out.1.2).mono ?_);rw[Hxa.out];rintro e w3 ⟨rfl,hqa⟩)
  |((with_reducible refine (partC_any b bg G _ (HcQ.out _ hqa) hGp hG64 Hs.out.2.1.1 Hs.out.2.1.2).mono ?_);rw[Hxb.out];rintro e w4 ⟨rfl,hqb⟩;have hqb:=hqa.trans hqb)
  |((with_reducible refine (partC_any c bg G _ (HcQ.out _ hqb) hGp hG64 Hs.out.2.2.1.1 Hs.out.2.2.1.2).mono ?_);rw[Hxc.out];rintro e w5 ⟨rfl,hqc⟩;have hqc:=hqb.trans hqc)
  |((with_reducible refine (partC_any d bg G _ (HcQ.out _ hqc) hGp hG64 Hs.out.2.2.2.1 Hs.out.2.2.2.2).mono ?_);rw[Hxd.out];rintro e w6 ⟨rfl,hqd⟩;have hqd:=hqc.trans hqd))
 have Hqb:=zh hqd.below
 have Hz6:=zh ((hqd.below.block z Hzs.out).trans (Hz2.out 0))
 have Hb6:=zh (Hb2.out.trans (hqd.below.mono Hb2.out.size))
 have hx7:=heap_alloc_new w6 (.cells #[Value.int .i64 xa,Value.int .i64 xb,Value.int .i64 xc,Value.int .i64 xd] 115)
 have Hb67:=zh (below_new w6 (.cells #[Value.int .i64 xa,Value.int .i64 xb,Value.int .i64 xc,Value.int .i64 xd] 115))
 have Hl6:=zh (show z<w6.heap.size/\w6.heap.size<(w6.alloc (.cells #[Value.int .i64 xa,Value.int .i64 xb,Value.int .i64 xc,Value.int .i64 xd] 115)).heap.size from ⟨Nat.lt_of_lt_of_le Hzs.out Hqb.out.size,by simp⟩)
 obtain⟨w7,hw7⟩:∃ W,w6.alloc (.cells #[Value.int .i64 xa,Value.int .i64 xb,Value.int .i64 xc,Value.int .i64 xd] 115)=W:=⟨_,rfl⟩
 obtain⟨bx,hbx⟩:∃ b,w6.heap.size=b:=⟨_,rfl⟩
 rw[hw7] at hx7 Hb67 Hl6 ⊢
 rw[hbx] at hx7 Hb67 Hl6 ⊢
 have Hz7:=zh ((Hb67.out.block z Hl6.out.1).trans Hz6.out)
 have Hb7:=zh (Hb6.out.trans (Hb67.out.mono (by rw[← hbx];exact Hb6.out.size)))
 have Hx7:=zh hx7
 obtain⟨r0,r1,r2,r3,-⟩:=cells4 hx7
 clear hw7 hbx hx7 Hb67 Hz6 Hb6 Hqb hqa hqb hqc hqd HcQ HcG Hb2 Hz2 Hzs
 obtain⟨p,hp⟩:∃ p,Tn.okB ⟨xa,xb,xc,xd⟩=p:=⟨_,rfl⟩
 have Hp:=zh hp
 clear hp
 go_wp2_with fail
 refine (valid_agg xa xb xc xd p w7 hbd Hp.out).mono ?_
 rintro e w8 ⟨rfl,hb8⟩
 have Hb8:=zh (Hb7.out.trans (hb8.mono Hb7.out.size))
 have Hz8:=(hb8.block z (Nat.lt_trans Hl6.out.1 Hl6.out.2)).trans Hz7.out
 have Hx8:=(hb8.block bx Hl6.out.2).trans Hx7.out
 obtain⟨z0,z1,z2,z3,z4⟩:=cells4 Hz8
 obtain⟨s0,s1,s2,s3,-⟩:=cells4 Hx8
 have Hzz:=zh Hz8
 clear hb8 Hz8 Hx8 r0 r1 r2 r3
 cases p with
 |false =>
  go_wp2_with fail
  have hs4:=set4_heap Hzz.out (.int .i64 0) (.int .i64 0) (.int .i64 0) (.int .i64 0)
  have hb9:=zh (set4_below Hb8.out (Nat.le_of_eq Hz.out) (.int .i64 0) (.int .i64 0) (.int .i64 0) (.int .i64 0))
  unfold set4 at hs4 hb9
  obtain⟨y0,y1,y2,y3,-⟩:=cells4 hs4
  refine bodyPost_ret (v:=.tuple #[.agg #[.int .i64 0,.int .i64 0,.int .i64 0,.int .i64 0],.int .i64 5]) ?_ rfl (Hno.out _ Hp.out hb9.out)
  simp[results,Tryz.results297,go_sem,y0,y1,y2,y3]
 |true =>
  go_wp2_with fail
  have hs4:=set4_heap Hzz.out (.int .i64 xa) (.int .i64 xb) (.int .i64 xc) (.int .i64 xd)
  have hb9:=zh (set4_below Hb8.out (Nat.le_of_eq Hz.out) (.int .i64 xa) (.int .i64 xb) (.int .i64 xc) (.int .i64 xd))
  unfold set4 at hs4 hb9
  obtain⟨y0,y1,y2,y3,-⟩:=cells4 hs4
  refine bodyPost_ret (v:=.tuple #[.agg #[.int .i64 xa,.int .i64 xb,.int .i64 xc,.int .i64 xd],.int .i64 0]) ?_ rfl (Hyes.out _ Hp.out hb9.out)
  simp[results,Tryz.results297,go_sem,y0,y1,y2,y3]
end
section
open Go.RowKit
theorem mul_bdN{a b:Int}{m n k:Nat}(ha:a.natAbs<=m)(hb:b.natAbs<=n)(hk:m*n<=k):(a*b).natAbs<=k:=by
 rw[Int.natAbs_mul]
 exact Nat.le_trans (Nat.mul_le_mul ha hb) hk
theorem abs_ib{x:Int}{k:Nat}(h:x.natAbs<=k) : -(k:Int)<=x/\x<=(k:Int):=by omega
theorem abs_of{x:Int}{k:Nat}(h1:1<=x)(h2:x<=(k:Int)):x.natAbs<=k:=by omega
theorem mul_pos1{a b:Int}(ha:1<=a)(hb:1<=b):1<=a*b:=by
 have:=Int.mul_pos (show 0<a by omega) (show 0<b by omega)
 omega
def joinT(a b:Tn)(s:Int):Option Tn:=redT (a.two*b.den+b.two*(s*a.den)) (a.three*b.den+b.three*(s*a.den)) (a.five*b.den+b.five*(s*a.den)) (a.den*b.den)
theorem Tn.Ok.bd{t:Tn}(h:t.Ok):t.Bd:=by
 have:=h.two
 have:=h.three
 have:=h.five
 have:=h.lo
 have:=h.hi
 exact⟨by omega,by omega,by omega,by omega,by omega,by omega,by omega,by omega⟩
theorem valid_ok{t:Tn}(w:World)(h:t.Ok):Calls Tryz.prog 78 #[t.val] w λe w'=>e=.returned (.bool true)/\Below w.heap.size w w':=
 (valid_tone t w h.bd).mono λ_ _ h2=>⟨by rw[h2.1,(okB_iff t).2 h],h2.2⟩
theorem valid_ag{a b c d:Int}(w:World)(h:Tn.Ok ⟨a,b,c,d⟩):Calls Tryz.prog 78 #[.agg #[.int .i64 a,.int .i64 b,.int .i64 c,.int .i64 d]] w λe w'=>e=.returned (.bool true)/\Below w.heap.size w w':=
 valid_ok (t:=⟨a,b,c,d⟩) w h
theorem three_new(w:World)(a b c:Obj){W:World}(hW:((w.alloc a).alloc b).alloc c=W):(W.heap[w.heap.size]?=some a/\W.heap[w.heap.size+1]?=some b/\W.heap[w.heap.size+2]?=some c)/\w.heap.size+2<W.heap.size/\Below w.heap.size w W:=by
 subst hW
 have h1:=below_new (w.alloc a) b
 have h2:=below_new ((w.alloc a).alloc b) c
 have s1:(w.alloc a).heap.size=w.heap.size+1:=by simp
 have s2:((w.alloc a).alloc b).heap.size=w.heap.size+2:=by simp
 refine⟨⟨?_,?_,?_⟩,by simp,?_⟩
 ·exact (h2.block _ (by omega)).trans ((h1.block _ (by omega)).trans (heap_alloc_new w a))
 ·exact (h2.block _ (by omega)).trans (by rw[← s1];exact heap_alloc_new (w.alloc a) b)
 ·rw[← s2];exact heap_alloc_new _ c
 ·exact ((below_new w a).trans (h1.mono (by omega))).trans (h2.mono (by omega))
theorem joined_any(a b:Tn)(s:Int)(w:World)(ha:a.Ok)(hb:b.Ok)(hs:s.natAbs<=1) :
 Calls Tryz.prog 353 #[a.val,b.val,.int .i64 s] w λe w'=>e=.returned (redRet (joinT a b s))/\Below w.heap.size w w':=by
 refine calls_cps ?_
 intro R hR
 obtain⟨a1,a2,a3,ad⟩:=a
 obtain⟨b1,b2,b3,bd⟩:=b
 unfold Tn.val
 unfold joinT at hR
 dsimp only at hR ⊢
 have A1:=ha.two
 have A2:=ha.three
 have A3:=ha.five
 have A4:=ha.lo
 have A5:=ha.hi
 have B1:=hb.two
 have B2:=hb.three
 have B3:=hb.five
 have B4:=hb.lo
 have B5:=hb.hi
 dsimp only at A1 A2 A3 A4 A5 B1 B2 B3 B4 B5
 have Ad:ad.natAbs<=24:=abs_of A4 A5
 have Bd:bd.natAbs<=24:=abs_of B4 B5
 have hy0:=mul_bdN hs Ad (k:=24) (by decide)
 obtain⟨y,hy⟩:∃ y,s*ad=y:=⟨_,rfl⟩
 rw[hy] at hR hy0
 have k1:=abs_ib (mul_bdN A1 Bd (k:=23040) (by decide))
 have k2:=abs_ib (mul_bdN B1 hy0 (k:=23040) (by decide))
 have k3:=abs_ib (mul_bdN A2 Bd (k:=23040) (by decide))
 have k4:=abs_ib (mul_bdN B2 hy0 (k:=23040) (by decide))
 have k5:=abs_ib (mul_bdN A3 Bd (k:=23040) (by decide))
 have k6:=abs_ib (mul_bdN B3 hy0 (k:=23040) (by decide))
 have k7:=abs_ib (mul_bdN Ad Bd (k:=576) (by decide))
 have k8:=mul_pos1 A4 B4
 have hs1:=abs_ib hs
 have hy1:=abs_ib hy0
 have HR:=zh hR
 have Hoa:=zh ha
 have Hob:=zh hb
 clear hR ha hb hs A1 A2 A3 B1 B2 B3 Ad Bd hy0
 obtain⟨p1,e1⟩:∃ p,a1*bd=p:=⟨_,rfl⟩
 obtain⟨p2,e2⟩:∃ p,b1*y=p:=⟨_,rfl⟩
 obtain⟨p3,e3⟩:∃ p,a2*bd=p:=⟨_,rfl⟩
 obtain⟨p4,e4⟩:∃ p,b2*y=p:=⟨_,rfl⟩
 obtain⟨p5,e5⟩:∃ p,a3*bd=p:=⟨_,rfl⟩
 obtain⟨p6,e6⟩:∃ p,b3*y=p:=⟨_,rfl⟩
 obtain⟨p7,e7⟩:∃ p,ad*bd=p:=⟨_,rfl⟩
 rw[e1,e2,e3,e4,e5,e6,e7] at HR
 rw[e1] at k1
 rw[e2] at k2
 rw[e3] at k3
 rw[e4] at k4
 rw[e5] at k5
 rw[e6] at k6
 rw[e7] at k7 k8
 simp only[Int.cast_ofNat_Int] at k1 k2 k3 k4 k5 k6 k7 hs1 hy1
 obtain⟨q11,q12⟩:=k1
 obtain⟨q21,q22⟩:=k2
 obtain⟨q31,q32⟩:=k3
 obtain⟨q41,q42⟩:=k4
 obtain⟨q51,q52⟩:=k5
 obtain⟨q61,q62⟩:=k6
 obtain⟨-,q72⟩:=k7
 obtain⟨hs2,hs3⟩:=hs1
 obtain⟨hy2,hy3⟩:=hy1
 go_enter Tryz.func353,Tryz.ntmps353
 go_upto_region 1 with fail
 obtain⟨W0,hW0⟩:∃ W,((w.alloc (.cells #[Value.int .i64 a1,.int .i64 a2,.int .i64 a3,.int .i64 ad] 115)).alloc (.cells #[Value.int .i64 b1,.int .i64 b2,.int .i64 b3,.int .i64 bd] 115)).alloc (.cells #[Value.int .i64 0,.int .i64 0,.int .i64 0,.int .i64 0] 115)=W:=⟨_,rfl⟩
 have hn:=three_new _ _ _ _ hW0
 rw[hW0]
 obtain⟨g,hg⟩:∃ g,w.heap.size=g:=⟨_,rfl⟩
 rw[hg] at hn ⊢
 have Hn:=zh hn
 have Hg:=zh hg
 clear hW0 hn hg
 have HcA:=zh (λW' (hb:Below W0.heap.size W0 W')=>cells4 ((hb.block g (Nat.lt_of_le_of_lt (by omega) Hn.out.2.1)).trans Hn.out.1.1))
 have HcB:=zh (λW' (hb:Below W0.heap.size W0 W')=>cells4 ((hb.block (g+1) (Nat.lt_of_le_of_lt (by omega) Hn.out.2.1)).trans Hn.out.1.2.1))
 obtain⟨a0,a1',a2',a3',-⟩:=HcA.out W0 (Below.refl _ _)
 go_upto_region 3 with (first
  |(go_at_call 78;(with_reducible refine (valid_ag _ Hoa.out).mono ?_);rintro e w1 ⟨rfl,hb1⟩;obtain⟨b0,b1',b2',b3',-⟩:=HcB.out w1 hb1;clear a0 a1' a2' a3')
  |(go_at_call 78;(with_reducible refine (valid_ag _ Hob.out).mono ?_);rintro e w2 ⟨rfl,hb2⟩;have hb2:=hb1.trans (hb2.mono hb1.size);obtain⟨b0,b1',b2',b3',-⟩:=HcB.out w2 hb2;obtain⟨a0,a1',a2',a3',-⟩:=HcA.out w2 hb2))
 go_quiet (fail)
 go_wp2_with fail
 clear e1 e2 e3 e4 e5 e6 e7 hy
 refine (reduce_any (p1+p2) (p3+p4) (p5+p6) p7 _ (by omega) (by omega) (by omega) k8 (by omega)).mono ?_
 rintro e w3 ⟨rfl,hb3⟩
 have hb23:=hb2.trans ((below_drewN (Below.refl _ _) nq).trans (hb3.mono (by simp)) |>.mono hb2.size)
 have Hb8:=zh (show Below w.heap.size w w3 by rw[Hg.out];exact Hn.out.2.2.trans (hb23.mono (Nat.le_of_lt (Nat.lt_of_le_of_lt (Nat.le_add_right g 2) Hn.out.2.1))))
 have Hgz:=zh (show w.heap.size<=g+1+1 by rw[Hg.out];omega)
 have Hzz:=zh ((hb23.block (g+1+1) Hn.out.2.1).trans Hn.out.1.2.2)
 obtain⟨z0,z1,z2,z3,z4⟩:=cells4 Hzz.out
 clear a0 a1' a2' a3' b0 b1' b2' b3' hb1 hb2 hb3 hb23
 obtain⟨T,hT⟩:∃ T,redT (p1+p2) (p3+p4) (p5+p6) p7=T:=⟨_,rfl⟩
 rw[hT] at HR ⊢
 clear hT
 cases T with
 |none =>
  unfold redRet
  go_wp2_with fail
  have hs4:=set4_heap Hzz.out (.int .i64 0) (.int .i64 0) (.int .i64 0) (.int .i64 0)
  have hb9:=zh (set4_below Hb8.out Hgz.out (.int .i64 0) (.int .i64 0) (.int .i64 0) (.int .i64 0))
  unfold set4 at hs4 hb9
  obtain⟨y0,y1,y2,y3,-⟩:=cells4 hs4
  refine bodyPost_ret (v:=.tuple #[.agg #[.int .i64 0,.int .i64 0,.int .i64 0,.int .i64 0],.int .i64 5]) ?_ rfl (HR.out.out _ _ ⟨rfl,hb9.out⟩)
  simp[results,Tryz.results353,go_sem,y0,y1,y2,y3]
 |some t =>
  obtain⟨t1,t2,t3,t4⟩:=t
  unfold redRet Tn.val
  dsimp only
  go_wp2_with fail
  have hs4:=set4_heap Hzz.out (.int .i64 t1) (.int .i64 t2) (.int .i64 t3) (.int .i64 t4)
  have hb9:=zh (set4_below Hb8.out Hgz.out (.int .i64 t1) (.int .i64 t2) (.int .i64 t3) (.int .i64 t4))
  unfold set4 at hs4 hb9
  obtain⟨y0,y1,y2,y3,-⟩:=cells4 hs4
  refine bodyPost_ret (v:=.tuple #[.agg #[.int .i64 t1,.int .i64 t2,.int .i64 t3,.int .i64 t4],.int .i64 0]) ?_ rfl (HR.out.out _ _ ⟨rfl,hb9.out⟩)
  simp[results,Tryz.results353,go_sem,y0,y1,y2,y3]
theorem two_new(w:World)(a b:Obj){W:World}(hW:(w.alloc a).alloc b=W):(W.heap[w.heap.size]?=some a/\W.heap[w.heap.size+1]?=some b)/\w.heap.size+1<W.heap.size/\Below w.heap.size w W:=by
 subst hW
 have h1:=below_new (w.alloc a) b
 have s1:(w.alloc a).heap.size=w.heap.size+1:=by simp
 refine⟨⟨?_,?_⟩,by simp,?_⟩
 ·exact (h1.block _ (by omega)).trans (heap_alloc_new w a)
 ·rw[← s1];exact heap_alloc_new (w.alloc a) b
 ·exact (below_new w a).trans (h1.mono (by omega))
theorem tone_mul_any(a b:Tn)(w:World)(ha:a.Ok)(hb:b.Ok) :
 Calls Tryz.prog 294 #[a.val,b.val] w λe w'=>e=.returned (redRet (joinT a b 1))/\Below w.heap.size w w':=by
 refine calls_cps ?_
 intro R hR
 have hj:=λW=>joined_any a b 1 W ha hb (by decide)
 obtain⟨T,hT⟩:∃ T,joinT a b 1=T:=⟨_,rfl⟩
 rw[hT] at hR hj
 obtain⟨a1,a2,a3,ad⟩:=a
 obtain⟨b1,b2,b3,bd⟩:=b
 unfold Tn.val at hj ⊢
 dsimp only at hj ⊢
 have HR:=zh hR
 have Hj:=zh hj
 clear hR hj hT ha hb
 go_enter Tryz.func294,Tryz.ntmps294
 go_upto_region 1 with fail
 obtain⟨W0,hW0⟩:∃ W,((w.alloc (.cells #[Value.int .i64 a1,.int .i64 a2,.int .i64 a3,.int .i64 ad] 115)).alloc (.cells #[Value.int .i64 b1,.int .i64 b2,.int .i64 b3,.int .i64 bd] 115)).alloc (.cells #[Value.int .i64 0,.int .i64 0,.int .i64 0,.int .i64 0] 115)=W:=⟨_,rfl⟩
 have hn:=three_new _ _ _ _ hW0
 rw[hW0]
 obtain⟨g,hg⟩:∃ g,w.heap.size=g:=⟨_,rfl⟩
 rw[hg] at hn ⊢
 have Hn:=zh hn
 have Hg:=zh hg
 clear hW0 hn hg
 obtain⟨a0,a1',a2',a3',-⟩:=cells4 Hn.out.1.1
 obtain⟨b0,b1',b2',b3',-⟩:=cells4 Hn.out.1.2.1
 go_wp2_with fail
 refine (Hj.out W0).mono ?_
 rintro e w3 ⟨rfl,hb3⟩
 have Hb8:=zh (show Below w.heap.size w w3 by rw[Hg.out];exact Hn.out.2.2.trans (hb3.mono (Nat.le_of_lt (Nat.lt_of_le_of_lt (Nat.le_add_right g 2) Hn.out.2.1))))
 have Hgz:=zh (show w.heap.size<=g+1+1 by rw[Hg.out];omega)
 have Hzz:=zh ((hb3.block (g+1+1) Hn.out.2.1).trans Hn.out.1.2.2)
 obtain⟨z0,z1,z2,z3,z4⟩:=cells4 Hzz.out
 clear a0 a1' a2' a3' b0 b1' b2' b3' hb3
 cases T with
 |none =>
  unfold redRet
  go_wp2_with fail
  have hs4:=set4_heap Hzz.out (.int .i64 0) (.int .i64 0) (.int .i64 0) (.int .i64 0)
  have hb9:=zh (set4_below Hb8.out Hgz.out (.int .i64 0) (.int .i64 0) (.int .i64 0) (.int .i64 0))
  unfold set4 at hs4 hb9
  obtain⟨y0,y1,y2,y3,-⟩:=cells4 hs4
  refine bodyPost_ret (v:=.tuple #[.agg #[.int .i64 0,.int .i64 0,.int .i64 0,.int .i64 0],.int .i64 5]) ?_ rfl (HR.out.out _ _ ⟨rfl,hb9.out⟩)
  simp[results,Tryz.results294,go_sem,y0,y1,y2,y3]
 |some t =>
  obtain⟨t1,t2,t3,t4⟩:=t
  unfold redRet Tn.val
  dsimp only
  go_wp2_with fail
  have hs4:=set4_heap Hzz.out (.int .i64 t1) (.int .i64 t2) (.int .i64 t3) (.int .i64 t4)
  have hb9:=zh (set4_below Hb8.out Hgz.out (.int .i64 t1) (.int .i64 t2) (.int .i64 t3) (.int .i64 t4))
  unfold set4 at hs4 hb9
  obtain⟨y0,y1,y2,y3,-⟩:=cells4 hs4
  refine bodyPost_ret (v:=.tuple #[.agg #[.int .i64 t1,.int .i64 t2,.int .i64 t3,.int .i64 t4],.int .i64 0]) ?_ rfl (HR.out.out _ _ ⟨rfl,hb9.out⟩)
  simp[results,Tryz.results294,go_sem,y0,y1,y2,y3]
theorem tone_div_any(a b:Tn)(w:World)(ha:a.Ok)(hb:b.Ok) :
 Calls Tryz.prog 352 #[a.val,b.val] w λe w'=>e=.returned (redRet (joinT a b (-1)))/\Below w.heap.size w w':=by
 refine calls_cps ?_
 intro R hR
 have hj:=λW=>joined_any a b (-1) W ha hb (by decide)
 obtain⟨T,hT⟩:∃ T,joinT a b (-1)=T:=⟨_,rfl⟩
 rw[hT] at hR hj
 obtain⟨a1,a2,a3,ad⟩:=a
 obtain⟨b1,b2,b3,bd⟩:=b
 unfold Tn.val at hj ⊢
 dsimp only at hj ⊢
 have HR:=zh hR
 have Hj:=zh hj
 clear hR hj hT ha hb
 go_enter Tryz.func352,Tryz.ntmps352
 go_upto_region 1 with fail
 obtain⟨W0,hW0⟩:∃ W,((w.alloc (.cells #[Value.int .i64 a1,.int .i64 a2,.int .i64 a3,.int .i64 ad] 115)).alloc (.cells #[Value.int .i64 b1,.int .i64 b2,.int .i64 b3,.int .i64 bd] 115)).alloc (.cells #[Value.int .i64 0,.int .i64 0,.int .i64 0,.int .i64 0] 115)=W:=⟨_,rfl⟩
 have hn:=three_new _ _ _ _ hW0
 rw[hW0]
 obtain⟨g,hg⟩:∃ g,w.heap.size=g:=⟨_,rfl⟩
 rw[hg] at hn ⊢
 have Hn:=zh hn
 have Hg:=zh hg
 clear hW0 hn hg
 obtain⟨a0,a1',a2',a3',-⟩:=cells4 Hn.out.1.1
 obtain⟨b0,b1',b2',b3',-⟩:=cells4 Hn.out.1.2.1
 go_wp2_with fail
 refine (Hj.out W0).mono ?_
 rintro e w3 ⟨rfl,hb3⟩
 have Hb8:=zh (show Below w.heap.size w w3 by rw[Hg.out];exact Hn.out.2.2.trans (hb3.mono (Nat.le_of_lt (Nat.lt_of_le_of_lt (Nat.le_add_right g 2) Hn.out.2.1))))
 have Hgz:=zh (show w.heap.size<=g+1+1 by rw[Hg.out];omega)
 have Hzz:=zh ((hb3.block (g+1+1) Hn.out.2.1).trans Hn.out.1.2.2)
 obtain⟨z0,z1,z2,z3,z4⟩:=cells4 Hzz.out
 clear a0 a1' a2' a3' b0 b1' b2' b3' hb3
 cases T with
 |none =>
  unfold redRet
  go_wp2_with fail
  have hs4:=set4_heap Hzz.out (.int .i64 0) (.int .i64 0) (.int .i64 0) (.int .i64 0)
  have hb9:=zh (set4_below Hb8.out Hgz.out (.int .i64 0) (.int .i64 0) (.int .i64 0) (.int .i64 0))
  unfold set4 at hs4 hb9
  obtain⟨y0,y1,y2,y3,-⟩:=cells4 hs4
  refine bodyPost_ret (v:=.tuple #[.agg #[.int .i64 0,.int .i64 0,.int .i64 0,.int .i64 0],.int .i64 5]) ?_ rfl (HR.out.out _ _ ⟨rfl,hb9.out⟩)
  simp[results,Tryz.results352,go_sem,y0,y1,y2,y3]
 |some t =>
  obtain⟨t1,t2,t3,t4⟩:=t
  unfold redRet Tn.val
  dsimp only
  go_wp2_with fail
  have hs4:=set4_heap Hzz.out (.int .i64 t1) (.int .i64 t2) (.int .i64 t3) (.int .i64 t4)
  have hb9:=zh (set4_below Hb8.out Hgz.out (.int .i64 t1) (.int .i64 t2) (.int .i64 t3) (.int .i64 t4))
  unfold set4 at hs4 hb9
  obtain⟨y0,y1,y2,y3,-⟩:=cells4 hs4
  refine bodyPost_ret (v:=.tuple #[.agg #[.int .i64 t1,.int .i64 t2,.int .i64 t3,.int .i64 t4],.int .i64 0]) ?_ rfl (HR.out.out _ _ ⟨rfl,hb9.out⟩)
  simp[results,Tryz.results352,go_sem,y0,y1,y2,y3]
end
section
open Go.RowKit
theorem toneComma_any(w:World):Calls Tryz.prog 350 #[.int .i64 0] w λe w'=>e=.returned (.tuple #[.agg #[.int .i64 (-19),.int .i64 12,.int .i64 0,.int .i64 1],.int .i64 0])/\Below w.heap.size w w':=by
 refine calls_cps ?_
 intro R hR
 have HR:=zh hR
 clear hR
 go_enter Tryz.func350,Tryz.ntmps350
 go_upto_region 1 with fail
 have hz:=heap_alloc_new w (.cells #[Value.int .i64 0,.int .i64 0,.int .i64 0,.int .i64 0] 115)
 have Hb8:=zh (below_new w (.cells #[Value.int .i64 0,.int .i64 0,.int .i64 0,.int .i64 0] 115))
 obtain⟨W0,hW0⟩:∃ W,w.alloc (.cells #[Value.int .i64 0,.int .i64 0,.int .i64 0,.int .i64 0] 115)=W:=⟨_,rfl⟩
 obtain⟨z,hze⟩:∃ z,w.heap.size=z:=⟨_,rfl⟩
 rw[hW0] at hz Hb8 ⊢
 rw[hze] at hz ⊢
 have Hzz:=zh hz
 have Hz:=zh hze
 obtain⟨z0,z1,z2,z3,z4⟩:=cells4 hz
 clear hW0 hz hze
 go_wp2_with fail
 have hs4:=set4_heap Hzz.out (.int .i64 (-19)) (.int .i64 12) (.int .i64 0) (.int .i64 1)
 have hb9:=zh (set4_below Hb8.out (Nat.le_of_eq Hz.out) (.int .i64 (-19)) (.int .i64 12) (.int .i64 0) (.int .i64 1))
 unfold set4 at hs4 hb9
 obtain⟨y0,y1,y2,y3,-⟩:=cells4 hs4
 refine bodyPost_ret (v:=.tuple #[.agg #[.int .i64 (-19),.int .i64 12,.int .i64 0,.int .i64 1],.int .i64 0]) ?_ rfl (HR.out _ _ ⟨rfl,hb9.out⟩)
 simp[results,Tryz.results350,go_sem,y0,y1,y2,y3]
theorem sl_two(w:World)(t:TypeId)(a b:Nat){g:Nat}(hg:g=w.heap.size):SlE u64E 1 (w.alloc (.cells #[Value.int .u64 (a:Nat),Value.int .u64 (b:Nat)] t)) (some ⟨g,0,none⟩) 2 [a,b]:=
 ⟨rfl,Sl.newAt w #[Value.int .u64 (a:Nat),Value.int .u64 (b:Nat)] t 1 2 rfl hg⟩
theorem power_any'(s u:Int)(w:World)(h1 : -12<=s)(h2:s<=12)(h3:1<=u)(h4:u<=24) :
 Calls Tryz.prog 351 #[.agg #[.int .i64 (-19),.int .i64 12,.int .i64 0,.int .i64 1],.int .i64 s,.int .i64 u] w λe w'=>e=.returned (.tuple #[(comT s u).val,.int .i64 0])/\Below w.heap.size w w':=by
 refine calls_cps ?_
 intro R hR
 obtain⟨ns,hns⟩:∃ n,s.natAbs=n:=⟨_,rfl⟩
 obtain⟨nu,hnu⟩:∃ n,u.natAbs=n:=⟨_,rfl⟩
 obtain⟨g,hg⟩:∃ g,Nat.gcd ns nu=g:=⟨_,rfl⟩
 have hg0:0<g:=by rw[← hg];exact Nat.gcd_pos_of_pos_right _ (by omega)
 obtain⟨qs,hqs⟩:∃ q,ns/g=q:=⟨_,rfl⟩
 obtain⟨qu,hqu⟩:∃ q,nu/g=q:=⟨_,rfl⟩
 have hs1:g*qs=ns:=by rw[← hqs];exact Nat.mul_div_cancel' (by rw[← hg];exact Nat.gcd_dvd_left _ _)
 have hu1:g*qu=nu:=by rw[← hqu];exact Nat.mul_div_cancel' (by rw[← hg];exact Nat.gcd_dvd_right _ _)
 have hqsl:qs<=12:=by rw[← hqs];exact Nat.le_trans (Nat.div_le_self _ _) (by omega)
 have hqul:qu<=24:=by rw[← hqu];exact Nat.le_trans (Nat.div_le_self _ _) (by omega)
 have hqu1:1<=qu:=Nat.pos_of_ne_zero λh0=>by rw[h0] at hu1;omega
 have i1:(ns:Int)/(g:Int)=(qs:Int):=by rw[← hqs];simp
 have i2:(nu:Int)/(g:Int)=(qu:Int):=by rw[← hqu];simp
 have g1:((g:Nat):Int)≠0:=by omega
 have hgl:g<=24:=by
  have:g<=g*qu:=Nat.le_mul_of_pos_right _ hqu1
  omega
 obtain⟨n,hn⟩:∃ n:Int,n=if s<0 then -(qs:Int) else (qs:Int):=⟨_,rfl⟩
 have Hred:=zh (show redT (-19*n) (12*n) 0 (qu:Int)=some (comT s u) from by
  have hsn:(g:Int)*n=s:=by
   rw[hn]
   split
   ·rw[Int.mul_neg,← Int.natCast_mul,hs1];omega
   ·rw[← Int.natCast_mul,hs1];omega
  rw[comT_scale (s:=s) (u:=u) (n:=n) (g:=g) (k:=qu) hg0 hsn (by rw[← Int.natCast_mul,hu1];omega)]
  exact (comT_ok h1 h2 h3 h4).1)
 have Hns:=zh hns
 have Hnu:=zh hnu
 have Hgc:=zh (show gcdL [ns,nu]=g from (gcdL_two ns nu).trans hg)
 have Hcom:=zh (show Tn.Ok ⟨-19,12,0,1⟩ from ⟨by decide,by decide,by decide,by decide,by decide,by decide⟩)
 obtain⟨T,hT⟩:∃ T,comT s u=T:=⟨_,rfl⟩
 rw[hT] at Hred hR
 have HR:=zh hR
 have Hn:=zh hn
 have b1 : -1000000000000000<=s:=by omega
 have b2:s<=1000000000000000:=by omega
 have b3 : -1000000000000000<=u:=by omega
 have b4:u<=1000000000000000:=by omega
 have Hnl:=zh (show ∀ x∈[ns,nu],x<18446744073709551616 from λx hx=>by simp at hx;omega)
 clear hR hns hnu hg hqs hqu hs1 hu1 hT hn
 go_enter Tryz.func351,Tryz.ntmps351
 go_upto_region 1 with fail
 obtain⟨W0,hW0⟩:∃ W,(w.alloc (.cells #[Value.int .i64 (-19),.int .i64 12,.int .i64 0,.int .i64 1] 115)).alloc (.cells #[Value.int .i64 0,.int .i64 0,.int .i64 0,.int .i64 0] 115)=W:=⟨_,rfl⟩
 have hn:=two_new _ _ _ hW0
 rw[hW0]
 obtain⟨z,hz⟩:∃ g,w.heap.size=g:=⟨_,rfl⟩
 rw[hz] at hn ⊢
 have Hw:=zh hn
 have Hz:=zh hz
 clear hW0 hn hz
 have HcA:=zh (λW' (hb:Below W0.heap.size W0 W')=>cells4 ((hb.block z (Nat.lt_trans (Nat.lt_succ_self z) Hw.out.2.1)).trans Hw.out.1.1))
 have HcZ:=zh (λW' (hb:Below W0.heap.size W0 W')=>(hb.block (z+1) Hw.out.2.1).trans Hw.out.1.2)
 obtain⟨a0,a1',a2',a3',-⟩:=HcA.out W0 (Below.refl _ _)
 go_upto_region 7 with (go_at_call 78;(with_reducible refine (valid_ag _ Hcom.out).mono ?_);rintro e w1 ⟨rfl,hb1⟩;obtain⟨b0,b1',b2',b3',-⟩:=HcA.out w1 hb1;clear a0 a1' a2' a3')
 have Hsl:=zh (show SlE u64E 1 (w1.alloc (.cells #[Value.int .u64 (ns:Nat),Value.int .u64 (nu:Nat)] 38)) (some ⟨w1.heap.size,0,none⟩) 2 [ns,nu] from sl_two w1 _ ns nu rfl)
 have Hbs:=zh (below_new w1 (.cells #[Value.int .u64 (ns:Nat),Value.int .u64 (nu:Nat)] 38))
 go_upto_region 8 with (first
  |(go_at_call 187;first
   |((with_reducible refine (size_at s ns _ Hns.out b1 b2).mono ?_);rintro e w' ⟨rfl,hw⟩;rw[hw];clear hw)
   |((with_reducible refine (size_at u nu _ Hnu.out b3 b4).mono ?_);rintro e w' ⟨rfl,hw⟩;rw[hw];clear hw))
  |(go_at_call 186;(with_reducible refine (gcd_any _ 2 2 [ns,nu] _ Hsl.out (by omega) Hnl.out).mono ?_);rw[Hgc.out];rintro e w2 ⟨rfl,hq⟩;have Hb2:=zh (hb1.trans ((Hbs.out.trans (hq.below.mono Hbs.out.size)).mono hb1.size));clear hq))
 clear b0 b1' b2' b3' hb1
 obtain⟨b0,b1',b2',b3',-⟩:=HcA.out w2 Hb2.out
 rcases Int.lt_or_le s 0 with hs|hs
 ·have hs5:decide (s<0)=true:=decide_eq_true hs
  have Hnn:=zh (show n = -(qs:Int) by rw[Hn.out,if_pos hs])
  go_wp2_with fail
  go_quiet ((go_at_call 187;first
   |with_reducible exact Calls.quiet_of_same (size_at s ns _ Hns.out b1 b2)
   |with_reducible exact Calls.quiet_of_same (size_at u nu _ Hnu.out b3 b4)))
  go_wp2_with fail
  have hred:=Hred.out
  rw[Hnn.out] at hred
  have Hred2:=zh hred
  clear hred i1 i2 b0 b1' b2' b3'
  refine (reduce_any (-19 * -(qs:Int)) (12 * -(qs:Int)) 0 (qu:Int) _ (by omega) (by omega) (by decide) (by omega) (by omega)).mono ?_
  rw[Hred2.out]
  rintro e w3 ⟨rfl,hb3⟩
  have hb23:=Hb2.out.trans ((below_drewN (Below.refl _ _) nq).trans (hb3.mono (by simp)) |>.mono Hb2.out.size)
  have Hb8:=zh (show Below w.heap.size w w3 by rw[Hz.out];exact Hw.out.2.2.trans (hb23.mono (Nat.le_of_lt (Nat.lt_trans (Nat.lt_succ_self z) Hw.out.2.1))))
  have Hgz:=zh (show w.heap.size<=z+1 by rw[Hz.out];omega)
  have Hzz:=zh (HcZ.out _ hb23)
  obtain⟨z0,z1,z2,z3,z4⟩:=cells4 Hzz.out
  clear hb3 hb23
  obtain⟨t1,t2,t3,t4⟩:=T
  unfold redRet Tn.val
  unfold Tn.val at HR
  dsimp only at HR ⊢
  go_wp2_with fail
  have hs4:=set4_heap Hzz.out (.int .i64 t1) (.int .i64 t2) (.int .i64 t3) (.int .i64 t4)
  have hb9:=zh (set4_below Hb8.out Hgz.out (.int .i64 t1) (.int .i64 t2) (.int .i64 t3) (.int .i64 t4))
  unfold set4 at hs4 hb9
  obtain⟨y0,y1,y2,y3,-⟩:=cells4 hs4
  refine bodyPost_ret (v:=.tuple #[.agg #[.int .i64 t1,.int .i64 t2,.int .i64 t3,.int .i64 t4],.int .i64 0]) ?_ rfl (HR.out.out _ _ ⟨rfl,hb9.out⟩)
  simp[results,Tryz.results351,go_sem,y0,y1,y2,y3]
 ·have hs5:decide (s<0)=false:=decide_eq_false (by omega)
  have Hnn:=zh (show n=(qs:Int) by rw[Hn.out,if_neg (by omega)])
  go_wp2_with fail
  go_quiet ((go_at_call 187;first
   |with_reducible exact Calls.quiet_of_same (size_at s ns _ Hns.out b1 b2)
   |with_reducible exact Calls.quiet_of_same (size_at u nu _ Hnu.out b3 b4)))
  go_wp2_with fail
  have hred:=Hred.out
  rw[Hnn.out] at hred
  have Hred2:=zh hred
  clear hred i1 i2 b0 b1' b2' b3'
  refine (reduce_any (-19*(qs:Int)) (12*(qs:Int)) 0 (qu:Int) _ (by omega) (by omega) (by decide) (by omega) (by omega)).mono ?_
  rw[Hred2.out]
  rintro e w3 ⟨rfl,hb3⟩
  have hb23:=Hb2.out.trans ((below_drewN (Below.refl _ _) nq).trans (hb3.mono (by simp)) |>.mono Hb2.out.size)
  have Hb8:=zh (show Below w.heap.size w w3 by rw[Hz.out];exact Hw.out.2.2.trans (hb23.mono (Nat.le_of_lt (Nat.lt_trans (Nat.lt_succ_self z) Hw.out.2.1))))
  have Hgz:=zh (show w.heap.size<=z+1 by rw[Hz.out];omega)
  have Hzz:=zh (HcZ.out _ hb23)
  obtain⟨z0,z1,z2,z3,z4⟩:=cells4 Hzz.out
  clear hb3 hb23
  obtain⟨t1,t2,t3,t4⟩:=T
  unfold redRet Tn.val
  unfold Tn.val at HR
  dsimp only at HR ⊢
  go_wp2_with fail
  have hs4:=set4_heap Hzz.out (.int .i64 t1) (.int .i64 t2) (.int .i64 t3) (.int .i64 t4)
  have hb9:=zh (set4_below Hb8.out Hgz.out (.int .i64 t1) (.int .i64 t2) (.int .i64 t3) (.int .i64 t4))
  unfold set4 at hs4 hb9
  obtain⟨y0,y1,y2,y3,-⟩:=cells4 hs4
  refine bodyPost_ret (v:=.tuple #[.agg #[.int .i64 t1,.int .i64 t2,.int .i64 t3,.int .i64 t4],.int .i64 0]) ?_ rfl (HR.out.out _ _ ⟨rfl,hb9.out⟩)
  simp[results,Tryz.results351,go_sem,y0,y1,y2,y3]
end
end Go.Proofs.YtjibohkeapdalaaGreatDoor
