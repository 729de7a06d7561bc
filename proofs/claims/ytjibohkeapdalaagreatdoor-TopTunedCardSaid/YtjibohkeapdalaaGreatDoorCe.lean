/-
  Contracts of temper.right and temper.Closes: what they answer to any steps and units; the condition is that the slice reads as a list. Contracts of temper's fifth and stepped, tone's Octave, Freq and temper's Tones; each states its condition.
-/
import Derived.Test.YtjibohkeapdalaaGreatDoorBa
import Derived.Test.YtjibohkeapdalaaGreatDoorCd
namespace Go.Proofs.YtjibohkeapdalaaGreatDoor
set_option maxHeartbeats 4000000
set_option maxRecDepth 16000
section
open Go.RowKit
def rightB(l:List Int)(u:Int):Bool:=l.all (λx=>inBT x (-12) 12)&&(inBT (l.length:Int) 1 24&&inBT u 1 24)
theorem right_any(A:Option Addr)(n c:Nat)(l:List Int)(u:Int)(w:World)(hS:SlE intE 1 w A n l)(hn:n<=9223372036854775807) :
 Calls Tryz.prog 183 #[.slice A n c,.int .i64 u] w λe w'=>e=.returned (.bool (rightB l u))/\w=w':=by
 refine calls_cps ?_
 intro R hR
 have hL:=zh hS.1
 have HR:=zh (show ∀ b:Bool,b=(l.all (λx=>inBT x (-12) 12)&&(inBT (n:Int) 1 24&&inBT u 1 24))->R (.returned (.bool b)) w from λb hb=>hR.out _ _ ⟨by rw[hb];unfold rightB;rw[hL.out],rfl⟩)
 clear hR
 go_enter Tryz.func183,Tryz.ntmps183
 go_upto_region 1 with fail
 go_wp2_with fail
 go_loopw [9] (λi wr=>∃ k:Nat,k<=n/\i=.int .i64 k/\wr=w/\Hid ((l.take k).all (λx=>inBT x (-12) 12)=true)) (λi _=>n-(intOf i).toNat)
 case atStart=>exact⟨0,Nat.zero_le _,rfl,rfl,zh (by simp)⟩
 case round =>
  obtain⟨k,hk,rfl,rfl,Hall⟩:=hrel
  by_cases hlt:k<n
  ·obtain⟨b,o,x,rfl,hbl,hs,c0⟩:=hS.at1 hlt
   have Hs:=zh hs
   clear hs
   go_wp2_with (first|(go_at_call 70;refine (withinT_any _ _ _ _).mono ?_;rintro e w' ⟨rfl,rfl⟩))
   ·have hx:inBT x (-12) 12=false:=by simp_all
    refine HR.out _ ?_
    rw[all_false_ofT _ _ _ _ Hs.out hx]
    rfl
   case roundEnd =>
    have hx:inBT x (-12) 12=true:=by simp_all
    exact⟨⟨k+1,by omega,by go_num,by trivial,zh (all_of_takeT _ _ _ _ Hall.out Hs.out hx)⟩,by simp[intOf];omega⟩
  ·obtain rfl:k=n:=by omega
   have h:=Hall.out
   rw[List.take_of_length_le (by rw[hL.out];exact Nat.le_refl _)] at h
   rw[h] at HR
   cases h1:inBT (k:Int) 1 24
   all_goals
    have Hfin:=zh (show ∀ b:Bool,b=(true&&(inBT (k:Int) 1 24&&inBT u 1 24))->R (.returned (.bool b)) _ from HR.out)
    rw[h1] at Hfin
    go_wp2_with (first|(go_at_call 70;refine (withinT_any _ _ _ _).mono ?_;rintro e w' ⟨rfl,rfl⟩;(try rw[h1])))
    exact Hfin.out _ (by simp)
end
section
section
open Go.RowKit
theorem fifth_any(s u:Int)(w:World)(h1 : -12<=s)(h2:s<=12)(h3:1<=u)(h4:u<=24) :
 Calls Tryz.prog 293 #[.int .i64 s,.int .i64 u] w λe w'=>e=.returned (.tuple #[(fifT s u).val,.int .i64 0])/\Below w.heap.size w w':=by
 refine calls_cps ?_
 intro R hR
 have hp:=λW=>power_any' s u W h1 h2 h3 h4
 have hd:=λW=>tone_div_any ⟨-1,1,0,1⟩ (comT s u) W ⟨by decide,by decide,by decide,by decide,by decide,by decide⟩ (comT_ok h1 h2 h3 h4).2
 have hj:joinT ⟨-1,1,0,1⟩ (comT s u) (-1)=some (fifT s u):=(fif_of_com h3).trans (fifT_ok h1 h2 h3 h4).1
 rw[hj] at hd
 obtain⟨⟨c1,c2,c3,c4⟩,hC⟩:∃ C,comT s u=C:=⟨_,rfl⟩
 obtain⟨⟨t1,t2,t3,t4⟩,hT⟩:∃ T,fifT s u=T:=⟨_,rfl⟩
 rw[hC] at hp hd
 rw[hT] at hd hR
 unfold redRet at hd
 unfold Tn.val at hp hd hR
 dsimp only at hp hd hR
 have HR:=zh hR
 have Hp:=zh hp
 have Hd:=zh hd
 clear hR hp hd hj hC hT h1 h2 h3 h4
 go_enter Tryz.func293,Tryz.ntmps293
 go_upto_region 1 with fail
 have hz:=heap_alloc_new w (.cells #[Value.int .i64 0,.int .i64 0,.int .i64 0,.int .i64 0] 115)
 have Hb0:=zh (below_new w (.cells #[Value.int .i64 0,.int .i64 0,.int .i64 0,.int .i64 0] 115))
 have Hzl:=zh (show w.heap.size<(w.alloc (.cells #[Value.int .i64 0,.int .i64 0,.int .i64 0,.int .i64 0] 115)).heap.size by simp)
 obtain⟨W0,hW0⟩:∃ W,w.alloc (.cells #[Value.int .i64 0,.int .i64 0,.int .i64 0,.int .i64 0] 115)=W:=⟨_,rfl⟩
 obtain⟨z,hze⟩:∃ z,w.heap.size=z:=⟨_,rfl⟩
 rw[hW0] at hz Hb0 Hzl ⊢
 rw[hze] at hz Hzl ⊢
 have Hz0:=zh hz
 have Hz:=zh hze
 clear hW0 hz hze
 go_upto_region 2 with ((with_reducible refine (toneComma_any W0).mono ?_);rintro e w1 ⟨rfl,hb1⟩;have Hb1:=zh hb1;clear hb1)
 have hA:=heap_alloc_new w1 (.cells #[Value.int .i64 (-19),.int .i64 12,.int .i64 0,.int .i64 1] 115)
 have Hb2:=zh (Hb1.out.trans ((below_new w1 (.cells #[Value.int .i64 (-19),.int .i64 12,.int .i64 0,.int .i64 1] 115)).mono Hb1.out.size))
 obtain⟨W2,hW2⟩:∃ W,w1.alloc (.cells #[Value.int .i64 (-19),.int .i64 12,.int .i64 0,.int .i64 1] 115)=W:=⟨_,rfl⟩
 obtain⟨b2,hb2⟩:∃ z,w1.heap.size=z:=⟨_,rfl⟩
 rw[hW2] at hA Hb2 ⊢
 rw[hb2] at hA ⊢
 obtain⟨r0,r1,r2,r3,-⟩:=cells4 hA
 clear hW2 hb2 hA Hb1
 go_upto_region 3 with ((with_reducible refine (Hp.out W2).mono ?_);rintro e w3 ⟨rfl,hb3⟩;have Hb3:=zh (Hb2.out.trans (hb3.mono Hb2.out.size));clear hb3)
 have hA:=heap_alloc_new w3 (.cells #[Value.int .i64 c1,.int .i64 c2,.int .i64 c3,.int .i64 c4] 115)
 have Hb4:=zh (Hb3.out.trans ((below_new w3 (.cells #[Value.int .i64 c1,.int .i64 c2,.int .i64 c3,.int .i64 c4] 115)).mono Hb3.out.size))
 obtain⟨W4,hW4⟩:∃ W,w3.alloc (.cells #[Value.int .i64 c1,.int .i64 c2,.int .i64 c3,.int .i64 c4] 115)=W:=⟨_,rfl⟩
 obtain⟨b4,hb4⟩:∃ z,w3.heap.size=z:=⟨_,rfl⟩
 rw[hW4] at hA Hb4 ⊢
 rw[hb4] at hA ⊢
 clear r0 r1 r2 r3
 obtain⟨r0,r1,r2,r3,-⟩:=cells4 hA
 clear hW4 hb4 hA Hb3 Hb2
 go_wp2_with fail
 refine (Hd.out W4).mono ?_
 rintro e w5 ⟨rfl,hb5⟩
 have hb5:=Hb4.out.trans (hb5.mono Hb4.out.size)
 have Hb8:=zh (Hb0.out.trans (hb5.mono Hb0.out.size))
 have Hzz:=zh ((hb5.block z Hzl.out).trans Hz0.out)
 obtain⟨z0,z1,z2,z3,z4⟩:=cells4 Hzz.out
 clear hb5 r0 r1 r2 r3
 go_wp2_with fail
 have hs4:=set4_heap Hzz.out (.int .i64 t1) (.int .i64 t2) (.int .i64 t3) (.int .i64 t4)
 have hb9:=zh (set4_below Hb8.out (Nat.le_of_eq Hz.out) (.int .i64 t1) (.int .i64 t2) (.int .i64 t3) (.int .i64 t4))
 unfold set4 at hs4 hb9
 obtain⟨y0,y1,y2,y3,-⟩:=cells4 hs4
 refine bodyPost_ret (v:=.tuple #[.agg #[.int .i64 t1,.int .i64 t2,.int .i64 t3,.int .i64 t4],.int .i64 0]) ?_ rfl (HR.out.out _ _ ⟨rfl,hb9.out⟩)
 simp[results,Tryz.results293,go_sem,y0,y1,y2,y3]
theorem stepped_any(x:Tn)(s u:Int)(w:World)(hx:x.Ok)(h1 : -12<=s)(h2:s<=12)(h3:1<=u)(h4:u<=24) :
 Calls Tryz.prog 184 #[x.val,.int .i64 s,.int .i64 u] w λe w'=>e=.returned (redRet (joinT x (fifT s u) 1))/\Below w.heap.size w w':=by
 refine calls_cps ?_
 intro R hR
 have hp:=λW=>fifth_any s u W h1 h2 h3 h4
 have hd:=λW=>tone_mul_any x (fifT s u) W hx (fifT_ok h1 h2 h3 h4).2
 obtain⟨T,hT⟩:∃ T,joinT x (fifT s u) 1=T:=⟨_,rfl⟩
 rw[hT] at hd hR
 obtain⟨⟨c1,c2,c3,c4⟩,hC⟩:∃ C,fifT s u=C:=⟨_,rfl⟩
 rw[hC] at hp hd
 obtain⟨x1,x2,x3,x4⟩:=x
 unfold Tn.val at hp hd ⊢
 dsimp only at hp hd ⊢
 have HR:=zh hR
 have Hp:=zh hp
 have Hd:=zh hd
 clear hR hp hd hC hT h1 h2 h3 h4 hx
 go_enter Tryz.func184,Tryz.ntmps184
 go_upto_region 1 with fail
 obtain⟨W0,hW0⟩:∃ W,(w.alloc (.cells #[Value.int .i64 x1,.int .i64 x2,.int .i64 x3,.int .i64 x4] 115)).alloc (.cells #[Value.int .i64 0,.int .i64 0,.int .i64 0,.int .i64 0] 115)=W:=⟨_,rfl⟩
 have hn:=two_new _ _ _ hW0
 rw[hW0]
 obtain⟨z,hz⟩:∃ g,w.heap.size=g:=⟨_,rfl⟩
 rw[hz] at hn ⊢
 have Hw:=zh hn
 have Hz:=zh hz
 clear hW0 hn hz
 go_upto_region 2 with ((with_reducible refine (Hp.out W0).mono ?_);rintro e w1 ⟨rfl,hb1⟩;have Hb1:=zh hb1;clear hb1)
 have hA:=heap_alloc_new w1 (.cells #[Value.int .i64 c1,.int .i64 c2,.int .i64 c3,.int .i64 c4] 115)
 have Hb2:=zh (Hb1.out.trans ((below_new w1 (.cells #[Value.int .i64 c1,.int .i64 c2,.int .i64 c3,.int .i64 c4] 115)).mono Hb1.out.size))
 obtain⟨W2,hW2⟩:∃ W,w1.alloc (.cells #[Value.int .i64 c1,.int .i64 c2,.int .i64 c3,.int .i64 c4] 115)=W:=⟨_,rfl⟩
 obtain⟨b2,hb2⟩:∃ z,w1.heap.size=z:=⟨_,rfl⟩
 rw[hW2] at hA Hb2 ⊢
 rw[hb2] at hA ⊢
 obtain⟨r0,r1,r2,r3,-⟩:=cells4 hA
 obtain⟨a0,a1,a2,a3,-⟩:=cells4 ((Hb2.out.block z (Nat.lt_trans (Nat.lt_succ_self z) Hw.out.2.1)).trans Hw.out.1.1)
 clear hW2 hb2 hA Hb1
 go_wp2_with fail
 refine (Hd.out W2).mono ?_
 rintro e w3 ⟨rfl,hb3⟩
 have hb3:=Hb2.out.trans (hb3.mono Hb2.out.size)
 have Hb8:=zh (show Below w.heap.size w w3 by rw[Hz.out];exact Hw.out.2.2.trans (hb3.mono (Nat.le_of_lt (Nat.lt_trans (Nat.lt_succ_self z) Hw.out.2.1))))
 have Hgz:=zh (show w.heap.size<=z+1 by rw[Hz.out];omega)
 have Hzz:=zh ((hb3.block (z+1) Hw.out.2.1).trans Hw.out.1.2)
 obtain⟨z0,z1,z2,z3,z4⟩:=cells4 Hzz.out
 clear hb3 r0 r1 r2 r3 a0 a1 a2 a3
 cases T with
 |none =>
  unfold redRet
  go_wp2_with fail
  have hs4:=set4_heap Hzz.out (.int .i64 0) (.int .i64 0) (.int .i64 0) (.int .i64 0)
  have hb9:=zh (set4_below Hb8.out Hgz.out (.int .i64 0) (.int .i64 0) (.int .i64 0) (.int .i64 0))
  unfold set4 at hs4 hb9
  obtain⟨y0,y1,y2,y3,-⟩:=cells4 hs4
  refine bodyPost_ret (v:=.tuple #[.agg #[.int .i64 0,.int .i64 0,.int .i64 0,.int .i64 0],.int .i64 5]) ?_ rfl (HR.out.out _ _ ⟨rfl,hb9.out⟩)
  simp[results,Tryz.results184,go_sem,y0,y1,y2,y3]
 |some t =>
  obtain⟨t1,t2,t3,t4⟩:=t
  unfold redRet Tn.val
  dsimp only
  go_wp2_with fail
  have hs4:=set4_heap Hzz.out (.int .i64 t1) (.int .i64 t2) (.int .i64 t3) (.int .i64 t4)
  have hb9:=zh (set4_below Hb8.out Hgz.out (.int .i64 t1) (.int .i64 t2) (.int .i64 t3) (.int .i64 t4))
  unfold set4 at hs4 hb9
  obtain⟨y0,y1,y2,y3,-⟩:=cells4 hs4
  refine bodyPost_ret (v:=.tuple #[.agg #[.int .i64 t1,.int .i64 t2,.int .i64 t3,.int .i64 t4],.int .i64 0]) ?_ rfl (HR.out.out _ _ ⟨rfl,hb9.out⟩)
  simp[results,Tryz.results184,go_sem,y0,y1,y2,y3]
end
section
open Go.RowKit
theorem idxI0(w:World)(b c:Int):(Instr.index 298 (.agg #[.int .i64 b,.int .i64 c]) (.int .i64 0)).run Tryz.prog w=.ok (.int .i64 b) w:=by
 simp[Instr.index,run_underlying Tryz.underlying298,asIntOf,go_sem]
theorem idxI1(w:World)(b c:Int):(Instr.index 298 (.agg #[.int .i64 b,.int .i64 c]) (.int .i64 1)).run Tryz.prog w=.ok (.int .i64 c) w:=by
 simp[Instr.index,run_underlying Tryz.underlying298,asIntOf,go_sem]
theorem idxU0(w:World):(Instr.index 299 (.agg #[.int .u64 3,.int .u64 5]) (.int .i64 0)).run Tryz.prog w=.ok (.int .u64 3) w:=by
 simp[Instr.index,run_underlying Tryz.underlying299,asIntOf,go_sem]
theorem idxU1(w:World):(Instr.index 299 (.agg #[.int .u64 3,.int .u64 5]) (.int .i64 1)).run Tryz.prog w=.ok (.int .u64 5) w:=by
 simp[Instr.index,run_underlying Tryz.underlying299,asIntOf,go_sem]
def rtO(b c:Int):Nat->Nat
 |0=>1
 |1=>3 ^ b.toNat
 |_=>3 ^ b.toNat*5 ^ c.toNat
def rtU(b c:Int):Nat->Nat
 |0=>1
 |1=>3 ^ (-b).toNat
 |_=>3 ^ (-b).toNat*5 ^ (-c).toNat
theorem ln_le_bits{v k:Nat}(h:v<2 ^ (32*k)):ln v<=k:=(ln_le_iff k v).2 (by rw[pw_two];exact h)
theorem pow3_lt(n:Nat):3 ^ n<=2 ^ (2*n):=by rw[Nat.pow_mul];exact Nat.pow_le_pow_left (by decide) n
theorem pow5_lt(n:Nat):5 ^ n<=2 ^ (3*n):=by rw[Nat.pow_mul];exact Nat.pow_le_pow_left (by decide) n
theorem prod_ln{a b c:Nat}(ha:a<=960)(hb:b<=960)(hc:c<=960):ln (2 ^ a*3 ^ b*5 ^ c)<=181:=by
 obtain⟨k,hk⟩:∃ k,k=181:=⟨_,rfl⟩
 rw[← hk]
 refine ln_le_bits ?_
 have h1:=Nat.mul_le_mul (Nat.mul_le_mul (Nat.le_refl (2 ^ a)) (pow3_lt b)) (pow5_lt c)
 rw[← Nat.pow_add,← Nat.pow_add] at h1
 refine Nat.lt_of_le_of_lt h1 (Nat.pow_lt_pow_right (by decide) (by omega))
theorem ov_ln{a b c:Int}(ha:a.natAbs<=960)(hb:b.natAbs<=960)(hc:c.natAbs<=960):ln (ov a b c)<=181/\ln (un a b c)<=181:=
 ⟨prod_ln (by omega) (by omega) (by omega),prod_ln (by omega) (by omega) (by omega)⟩
theorem prod_lnG{a b c:Nat}(ha:a<=28800)(hb:b<=28800)(hc:c<=28800):ln (2 ^ a*3 ^ b*5 ^ c)<=5401:=by
 obtain⟨k,hk⟩:∃ k,k=5401:=⟨_,rfl⟩
 rw[← hk]
 refine ln_le_bits ?_
 have h1:=Nat.mul_le_mul (Nat.mul_le_mul (Nat.le_refl (2 ^ a)) (pow3_lt b)) (pow5_lt c)
 rw[← Nat.pow_add,← Nat.pow_add] at h1
 refine Nat.lt_of_le_of_lt h1 (Nat.pow_lt_pow_right (by decide) (by omega))
theorem ov_lnG{a b c:Int}(ha:a.natAbs<=28800)(hb:b.natAbs<=28800)(hc:c.natAbs<=28800):ln (ov a b c)<=5401/\ln (un a b c)<=5401:=
 ⟨prod_lnG (by omega) (by omega) (by omega),prod_lnG (by omega) (by omega) (by omega)⟩
theorem three_lnG{b:Nat}(hb:b<=28800):ln 3*b<=262143/\ln (3 ^ b)<=5401:=by
 have h1:ln 3<=1:=(ln_le_iff 1 3).2 (by rw[pw_one];omega)
 have h2:=Nat.mul_le_mul_right b h1
 have h3:=prod_lnG (a:=0) (b:=b) (c:=0) (by omega) hb (by omega)
 rw[Nat.one_mul,Nat.mul_one] at h3
 exact⟨by omega,h3⟩
theorem five_lnG{b:Nat}(hb:b<=28800):ln 5*b<=262143/\ln (5 ^ b)<=5401:=by
 have h1:ln 5<=1:=(ln_le_iff 1 5).2 (by rw[pw_one];omega)
 have h2:=Nat.mul_le_mul_right b h1
 have h3:=prod_lnG (a:=0) (b:=0) (c:=b) (by omega) (by omega) hb
 rw[Nat.one_mul] at h3
 exact⟨by omega,h3⟩
theorem shift_int(V:Value)(a s:Nat)(x:Int)(w:World)(h:Num w V a)(hx:x=(s:Int))(hs:s<=1000000)(hl:ln a<=262144)(hl2:ln (a*2 ^ s)<=262144) :
 Calls Tryz.prog 188 #[V,.int .i64 x] w (GetsOk w (a*2 ^ s)):=by
 subst hx
 exact shift_up V a s w h hs hl hl2
theorem of_one(w:World):Calls Tryz.prog 81 #[.int .u64 1] w (GetsNum w 1):=of_any 1 w (by decide)
theorem of_three(w:World):Calls Tryz.prog 81 #[.int .u64 3] w (GetsNum w 3):=of_any 3 w (by decide)
theorem of_five(w:World):Calls Tryz.prog 81 #[.int .u64 5] w (GetsNum w 5):=of_any 5 w (by decide)
theorem ratioG_any(a b c:Int)(w:World)(ha:a.natAbs<=28800)(hb:b.natAbs<=28800)(hc:c.natAbs<=28800) :
 Calls Tryz.prog 79 #[.int .i64 a,.int .i64 b,.int .i64 c] w λe w'=>∃ V1 V2,e=.returned (.tuple #[V1,V2])/\Num w' V1 (ov a b c)/\Num w' V2 (un a b c)/\Below w.heap.size w w':=by
 refine calls_cps ?_
 intro R hR
 obtain⟨ka,hka⟩:∃ k,a.natAbs=k:=⟨_,rfl⟩
 obtain⟨kb,hkb⟩:∃ k,b.natAbs=k:=⟨_,rfl⟩
 obtain⟨kc,hkc⟩:∃ k,c.natAbs=k:=⟨_,rfl⟩
 have HlO:=zh (ov_lnG ha hb hc)
 have HR:=zh (show ∀ V1 V2 W,Num W V1 (ov a b c)->Num W V2 (un a b c)->Below w.heap.size w W->R (.returned (.tuple #[V1,V2])) W from λV1 V2 W g1 g2 g3=>hR.out _ _ ⟨V1,V2,rfl,g1,g2,g3⟩)
 have HA:=zh hka
 have HB:=zh hkb
 have HC:=zh hkc
 have hb1000:kb<=1000000:=by omega
 have hc1000:kc<=1000000:=by omega
 have ha1000:ka<=1000000:=by omega
 have HpB:=zh (And.intro (three_lnG (b:=kb) (by omega)).1 (show ln 3<=262143 from Nat.le_trans ((ln_le_iff 1 3).2 (by rw[pw_one];omega)) (by omega)))
 have HpC:=zh (And.intro (five_lnG (b:=kc) (by omega)).1 (show ln 5<=262143 from Nat.le_trans ((ln_le_iff 1 5).2 (by rw[pw_one];omega)) (by omega)))
 have HlB:=zh (show ln 1+ln (3 ^ kb)<=262144/\ln 1+ln (3 ^ kb)<=262144 from by have:=(three_lnG (b:=kb) (by omega)).2;rw[ln_one];omega)
 have HlC:=zh (show ln (3 ^ b.toNat)+ln (5 ^ kc)<=262144/\ln (3 ^ (-b).toNat)+ln (5 ^ kc)<=262144 from by
  have:=(three_lnG (b:=b.toNat) (by omega)).2
  have:=(three_lnG (b:=(-b).toNat) (by omega)).2
  have:=(five_lnG (b:=kc) (by omega)).2
  omega)
 have HlD:=zh (show ln (3 ^ b.toNat*5 ^ c.toNat)<=262144/\ln (3 ^ (-b).toNat*5 ^ (-c).toNat)<=262144 from by
  have h1:=prod_lnG (a:=0) (b:=b.toNat) (c:=c.toNat) (by omega) (by omega) (by omega)
  have h2:=prod_lnG (a:=0) (b:=(-b).toNat) (c:=(-c).toNat) (by omega) (by omega) (by omega)
  rw[Nat.one_mul] at h1 h2
  omega)
 have hai:=abs_ib ha
 have hbi:=abs_ib hb
 have hci:=abs_ib hc
 simp only[Int.cast_ofNat_Int] at hai hbi hci
 obtain⟨a0,a1⟩:=hai
 obtain⟨b0,b1⟩:=hbi
 obtain⟨c0,c1⟩:=hci
 clear hR hka hkb hkc ha hb hc
 have x0:=λW=>idxI0 W b c
 have x1:=λW=>idxI1 W b c
 have y0:=λW=>idxU0 W
 have y1:=λW=>idxU1 W
 go_enter Tryz.func79,Tryz.ntmps79
 go_upto_region 2 with (first
  |((with_reducible refine (of_one w).mono ?_);rintro e w1 ⟨V1,rfl,hV1,hb1⟩)
  |((with_reducible refine (of_one w1).mono ?_);rintro e w2 ⟨V2,rfl,hV2,hb2⟩))
 have HV:=zh (show Num w2 V1 1/\Num w2 V2 1 from ⟨hV1.below hb2,hV2⟩)
 have HW:=zh (hb1.trans (hb2.mono hb1.size))
 clear hV1 hb1 hV2 hb2
 go_wp2_with fail
 go_loopw [8,9,10,11,12,13,19] (λs8 s9 _ _ _ _ s19 wr=>∃ (V8 V9:Value) (i:Nat) (j:Int),V8=s8/\V9=s9/\s19=.int .i64 j/\((i=0/\j=0)\/(i=1/\j=1)\/(i=2/\j=2))/\Hid (Num wr V8 (rtO b c i)/\Num wr V9 (rtU b c i))/\Hid (Below w.heap.size w wr)) (λ_ _ _ _ _ _ s19 _=>2-(intOf s19).toNat)
 case atStart=>exact⟨_,_,0,0,rfl,rfl,rfl,.inl ⟨rfl,rfl⟩,zh HV.out,HW⟩
 case round =>
  clear HV HW
  obtain⟨V8,V9,i,j,rfl,rfl,rfl,hi,HN,HW⟩:=hrel
  obtain⟨rfl,rfl⟩|⟨rfl,rfl⟩|⟨rfl,rfl⟩:=hi
  ·have hmx:max b (-b)=(kb:Int):=by have:=HB.out;omega
   have HN:=zh (show Num wr V8 (1)/\Num wr V9 (1) from HN.out)
   rcases Int.lt_or_le 0 b with hn|hn
   ·have t1:decide ((0:Int)<b)=true:=decide_eq_true (by omega)
    have Hk:=zh (show b.toNat=kb/\(-b).toNat=0 by have:=HB.out;omega)
    go_wp2_with (first
     |((with_reducible refine (of_three _).mono ?_);rintro e w1 ⟨V1,rfl,hV1,hb1⟩;have HP:=zh (show Num w1 V8 (1)/\Num w1 V9 (1)/\Num w1 V1 3 from ⟨HN.out.1.below hb1,HN.out.2.below hb1,hV1⟩);have HW1:=zh (HW.out.trans (hb1.mono HW.out.size));clear hV1 hb1)
     |((with_reducible refine (pow_num V1 3 kb _ HP.out.2.2 (by decide) HpB.out.1 (HpB.out.2) hb1000).mono ?_);rintro e w2 ⟨Vp,rfl,hVp,hb2⟩;have HP:=zh (show Num w2 V8 (1)/\Num w2 V9 (1)/\Num w2 Vp (3 ^ kb) from ⟨HP.out.1.below hb2,HP.out.2.1.below hb2,hVp⟩);have HW2:=zh (HW1.out.trans (hb2.mono HW1.out.size));clear hVp hb2)
     |((with_reducible refine (mul_num V8 Vp (1) (3 ^ kb) _ HP.out.1 HP.out.2.2 HlB.out.1).mono ?_);rintro e w3 ⟨Vm,rfl,hVm,hb3⟩))
    refine⟨⟨_,_,1,1,rfl,rfl,rfl,.inr (.inl ⟨rfl,rfl⟩),zh ?_,zh (HW2.out.trans (hb3.mono HW2.out.size))⟩,by simp[intOf]⟩
    have hk:=Hk.out
    unfold rtO rtU
    rw[hk.1,hk.2]
    exact⟨by simpa using hVm,by simpa using HP.out.2.1.below hb3⟩
   ·have t1:decide ((0:Int)<b)=false:=decide_eq_false (by omega)
    have Hk:=zh (show b.toNat=0/\(-b).toNat=kb by have:=HB.out;omega)
    go_wp2_with (first
     |((with_reducible refine (of_three _).mono ?_);rintro e w1 ⟨V1,rfl,hV1,hb1⟩;have HP:=zh (show Num w1 V8 (1)/\Num w1 V9 (1)/\Num w1 V1 3 from ⟨HN.out.1.below hb1,HN.out.2.below hb1,hV1⟩);have HW1:=zh (HW.out.trans (hb1.mono HW.out.size));clear hV1 hb1)
     |((with_reducible refine (pow_num V1 3 kb _ HP.out.2.2 (by decide) HpB.out.1 (HpB.out.2) hb1000).mono ?_);rintro e w2 ⟨Vp,rfl,hVp,hb2⟩;have HP:=zh (show Num w2 V8 (1)/\Num w2 V9 (1)/\Num w2 Vp (3 ^ kb) from ⟨HP.out.1.below hb2,HP.out.2.1.below hb2,hVp⟩);have HW2:=zh (HW1.out.trans (hb2.mono HW1.out.size));clear hVp hb2)
     |((with_reducible refine (mul_num V9 Vp (1) (3 ^ kb) _ HP.out.2.1 HP.out.2.2 HlB.out.2).mono ?_);rintro e w3 ⟨Vm,rfl,hVm,hb3⟩))
    refine⟨⟨_,_,1,1,rfl,rfl,rfl,.inr (.inl ⟨rfl,rfl⟩),zh ?_,zh (HW2.out.trans (hb3.mono HW2.out.size))⟩,by simp[intOf]⟩
    have hk:=Hk.out
    unfold rtO rtU
    rw[hk.1,hk.2]
    exact⟨by simpa using HP.out.1.below hb3,by simpa using hVm⟩
  ·have hmx:max c (-c)=(kc:Int):=by have:=HC.out;omega
   have HN:=zh (show Num wr V8 (3 ^ b.toNat)/\Num wr V9 (3 ^ (-b).toNat) from HN.out)
   rcases Int.lt_or_le 0 c with hn|hn
   ·have t1:decide ((0:Int)<c)=true:=decide_eq_true (by omega)
    have Hk:=zh (show c.toNat=kc/\(-c).toNat=0 by have:=HC.out;omega)
    go_wp2_with (first
     |((with_reducible refine (of_five _).mono ?_);rintro e w1 ⟨V1,rfl,hV1,hb1⟩;have HP:=zh (show Num w1 V8 (3 ^ b.toNat)/\Num w1 V9 (3 ^ (-b).toNat)/\Num w1 V1 5 from ⟨HN.out.1.below hb1,HN.out.2.below hb1,hV1⟩);have HW1:=zh (HW.out.trans (hb1.mono HW.out.size));clear hV1 hb1)
     |((with_reducible refine (pow_num V1 5 kc _ HP.out.2.2 (by decide) HpC.out.1 (HpC.out.2) hc1000).mono ?_);rintro e w2 ⟨Vp,rfl,hVp,hb2⟩;have HP:=zh (show Num w2 V8 (3 ^ b.toNat)/\Num w2 V9 (3 ^ (-b).toNat)/\Num w2 Vp (5 ^ kc) from ⟨HP.out.1.below hb2,HP.out.2.1.below hb2,hVp⟩);have HW2:=zh (HW1.out.trans (hb2.mono HW1.out.size));clear hVp hb2)
     |((with_reducible refine (mul_num V8 Vp (3 ^ b.toNat) (5 ^ kc) _ HP.out.1 HP.out.2.2 HlC.out.1).mono ?_);rintro e w3 ⟨Vm,rfl,hVm,hb3⟩))
    refine⟨⟨_,_,2,2,rfl,rfl,rfl,.inr (.inr ⟨rfl,rfl⟩),zh ?_,zh (HW2.out.trans (hb3.mono HW2.out.size))⟩,by simp[intOf]⟩
    have hk:=Hk.out
    unfold rtO rtU
    rw[hk.1,hk.2]
    exact⟨by simpa using hVm,by simpa using HP.out.2.1.below hb3⟩
   ·have t1:decide ((0:Int)<c)=false:=decide_eq_false (by omega)
    have Hk:=zh (show c.toNat=0/\(-c).toNat=kc by have:=HC.out;omega)
    go_wp2_with (first
     |((with_reducible refine (of_five _).mono ?_);rintro e w1 ⟨V1,rfl,hV1,hb1⟩;have HP:=zh (show Num w1 V8 (3 ^ b.toNat)/\Num w1 V9 (3 ^ (-b).toNat)/\Num w1 V1 5 from ⟨HN.out.1.below hb1,HN.out.2.below hb1,hV1⟩);have HW1:=zh (HW.out.trans (hb1.mono HW.out.size));clear hV1 hb1)
     |((with_reducible refine (pow_num V1 5 kc _ HP.out.2.2 (by decide) HpC.out.1 (HpC.out.2) hc1000).mono ?_);rintro e w2 ⟨Vp,rfl,hVp,hb2⟩;have HP:=zh (show Num w2 V8 (3 ^ b.toNat)/\Num w2 V9 (3 ^ (-b).toNat)/\Num w2 Vp (5 ^ kc) from ⟨HP.out.1.below hb2,HP.out.2.1.below hb2,hVp⟩);have HW2:=zh (HW1.out.trans (hb2.mono HW1.out.size));clear hVp hb2)
     |((with_reducible refine (mul_num V9 Vp (3 ^ (-b).toNat) (5 ^ kc) _ HP.out.2.1 HP.out.2.2 HlC.out.2).mono ?_);rintro e w3 ⟨Vm,rfl,hVm,hb3⟩))
    refine⟨⟨_,_,2,2,rfl,rfl,rfl,.inr (.inr ⟨rfl,rfl⟩),zh ?_,zh (HW2.out.trans (hb3.mono HW2.out.size))⟩,by simp[intOf]⟩
    have hk:=Hk.out
    unfold rtO rtU
    rw[hk.1,hk.2]
    exact⟨by simpa using HP.out.1.below hb3,by simpa using hVm⟩
  ·have HN:=zh (show Num wr V8 (3 ^ b.toNat*5 ^ c.toNat)/\Num wr V9 (3 ^ (-b).toNat*5 ^ (-c).toNat) from HN.out)
   rcases Int.lt_or_le 0 a with hn|hn
   ·have t1:decide ((0:Int)<a)=true:=decide_eq_true (by omega)
    have Hk:=zh (show a.toNat=ka/\(-a).toNat=0/\a=(ka:Int) by have:=HA.out;omega)
    have Hm:=zh (show (3 ^ b.toNat*5 ^ c.toNat)*2 ^ ka=ov a b c/\un a b c=3 ^ (-b).toNat*5 ^ (-c).toNat by
     unfold ov un
     rw[Hk.out.1,Hk.out.2.1,Nat.pow_zero,Nat.one_mul]
     exact⟨by ac_rfl,rfl⟩)
    have Hl3:=zh (show ln ((3 ^ b.toNat*5 ^ c.toNat)*2 ^ ka)<=262144 by rw[Hm.out.1];have:=HlO.out;omega)
    go_wp2_with ((with_reducible refine (shift_int V8 (3 ^ b.toNat*5 ^ c.toNat) ka a _ HN.out.1 Hk.out.2.2 ha1000 HlD.out.1 Hl3.out).mono ?_);rw[Hm.out.1];rintro e w3 ⟨V3,rfl,hV3,hb3⟩)
    exact HR.out _ _ _ hV3 (by rw[Hm.out.2];exact HN.out.2.below hb3) (HW.out.trans (hb3.mono HW.out.size))
   ·have t1:decide ((0:Int)<a)=false:=decide_eq_false (by omega)
    have Hk:=zh (show a.toNat=0/\(-a).toNat=ka/\(-a)=(ka:Int) by have:=HA.out;omega)
    have Hm:=zh (show (3 ^ (-b).toNat*5 ^ (-c).toNat)*2 ^ ka=un a b c/\ov a b c=3 ^ b.toNat*5 ^ c.toNat by
     unfold ov un
     rw[Hk.out.1,Hk.out.2.1,Nat.pow_zero,Nat.one_mul]
     exact⟨by ac_rfl,rfl⟩)
    have Hl3:=zh (show ln ((3 ^ (-b).toNat*5 ^ (-c).toNat)*2 ^ ka)<=262144 by rw[Hm.out.1];have:=HlO.out;omega)
    go_wp2_with ((with_reducible refine (shift_int V9 (3 ^ (-b).toNat*5 ^ (-c).toNat) ka (-a) _ HN.out.2 Hk.out.2.2 ha1000 HlD.out.2 Hl3.out).mono ?_);rw[Hm.out.1];rintro e w3 ⟨V3,rfl,hV3,hb3⟩)
    exact HR.out _ _ _ (by rw[Hm.out.2];exact HN.out.1.below hb3) hV3 (HW.out.trans (hb3.mono HW.out.size))
theorem ratio_any(a b c:Int)(w:World)(ha:a.natAbs<=960)(hb:b.natAbs<=960)(hc:c.natAbs<=960) :
 Calls Tryz.prog 79 #[.int .i64 a,.int .i64 b,.int .i64 c] w λe w'=>∃ V1 V2,e=.returned (.tuple #[V1,V2])/\Num w' V1 (ov a b c)/\Num w' V2 (un a b c)/\Below w.heap.size w w':=
 ratioG_any a b c w (by omega) (by omega) (by omega)
end
section
open Go.RowKit
theorem le2_iff_cmp{k:Int}{o u:Nat}{s:Nat}:(k=(s:Int)->(le2 k o u ↔ u*2 ^ s<=o))/\(k = -(s:Int)->(le2 k o u ↔ u<=o*2 ^ s)):=by
 refine⟨λh=>?_,λh=>?_⟩
 ·rw[le2_shift (n:=0) (m:=s) (by omega),Nat.pow_zero,Nat.mul_one]
 ·rw[le2_shift (n:=s) (m:=0) (by omega),Nat.pow_zero,Nat.mul_one]
theorem ln_shift{v s k:Nat}(h:ln v<=k):ln (v*2 ^ s)<=k+(s/32+1):=Nat.le_trans (ln_mul_le _ _) (Nat.add_le_add h (ln_two_pow s))
theorem floorG_any(V1 V2:Value)(o u:Nat)(w:World)(h1:Num w V1 o)(h2:Num w V2 u)(hl1:ln o<=5500)(hl2:ln u<=5500) :
 Calls Tryz.prog 296 #[V1,V2] w λe w'=>e=.returned (.int .i64 (flr o u))/\Below w.heap.size w w':=by
 refine calls_cps ?_
 intro R hR
 obtain⟨B,hB⟩:∃ B,bitsN o=B:=⟨_,rfl⟩
 obtain⟨C,hC⟩:∃ C,bitsN u=C:=⟨_,rfl⟩
 have hBl:B<=176000:=by have:=bits_le_ln o;omega
 have hCl:C<=176000:=by have:=bits_le_ln u;omega
 have Hfl:=zh (show flr o u=if le2 ((B:Int)-C) o u then (B:Int)-C else (B:Int)-C-1 from by unfold flr;rw[hB,hC])
 have HR:=zh (show ∀ W v,v=flr o u->Below w.heap.size w W->R (.returned (.int .i64 v)) W from λW v hv hb=>hR.out _ _ ⟨by rw[hv],hb⟩)
 have HB:=zh hB
 have HC:=zh hC
 have H:=zh (And.intro h1 h2)
 have l1:ln o<=262144:=by omega
 have l2:ln u<=262144:=by omega
 have Hll:=zh (And.intro hl1 hl2)
 clear hR hB hC h1 h2 hl1 hl2
 go_enter Tryz.func296,Tryz.ntmps296
 go_upto_region 3 with (first
  |((with_reducible refine (bits_any V1 o w H.out.1 l1).mono ?_);rw[HB.out];rintro e w1 ⟨rfl,hb1⟩;have H1:=zh (show Num w1 V1 o/\Num w1 V2 u from ⟨H.out.1.below hb1,H.out.2.below hb1⟩);have Hb1:=zh hb1;clear hb1)
  |((with_reducible refine (bits_any V2 u _ H1.out.2 l2).mono ?_);rw[HC.out];rintro e w2 ⟨rfl,hb2⟩;have H2:=zh (show Num w2 V1 o/\Num w2 V2 u from ⟨H1.out.1.below hb2,H1.out.2.below hb2⟩);have Hb2:=zh (Hb1.out.trans (hb2.mono Hb1.out.size));clear hb2))
 obtain⟨k,hk⟩:∃ k:Int,(B:Int)-C=k:=⟨_,rfl⟩
 have Hk:=zh hk
 have k0 : -176000<=k:=by omega
 have k1:k<=176000:=by omega
 rw[hk] at Hfl
 clear H H1 Hb1 l1 l2
 rcases Int.lt_or_le k 0 with hn|hn
 ·obtain⟨s,hs⟩:∃ s:Nat,-k=(s:Int):=⟨(-k).toNat,by omega⟩
  have hs6:s<=1000000:=by omega
  have t1:decide ((0:Int)<=k)=false:=decide_eq_false (by omega)
  have Hs:=zh hs
  have hl3:ln (o*2 ^ s)<=262144:=Nat.le_trans (ln_shift Hll.out.1) (by omega)
  have hl4:ln u<=262144:=by have:=Hll.out;omega
  have hl5:ln o<=262144:=by have:=Hll.out;omega
  have Hc:=zh ((le2_iff_cmp (k:=k) (o:=o) (u:=u) (s:=s)).2 (by omega))
  clear hs
  obtain⟨z,hz⟩:∃ z,cmpN (o*2 ^ s) u=z:=⟨_,rfl⟩
  have Hz:=zh hz
  rcases Nat.lt_or_ge (o*2 ^ s) u with hlt|hge
  ·have hz0:z<0:=by rw[← hz];exact cmpN_le hlt
   have Hv:=zh (show k-1=flr o u from by rw[Hfl.out,if_neg (λh=>by have:=Hc.out.1 h;omega)])
   clear hz hlt
   go_wp2_with (first
    |((with_reducible refine (shift_int V1 o s (-k) _ H2.out.1 Hs.out hs6 hl5 hl3).mono ?_);rintro e w3 ⟨V3,rfl,hV3,hb3⟩;have H3:=zh (show Num w3 V3 (o*2 ^ s)/\Num w3 V2 u from ⟨hV3,H2.out.2.below hb3⟩);have Hb3:=zh (Hb2.out.trans (hb3.mono Hb2.out.size));clear hV3 hb3)
    |((with_reducible refine (cmp_num V3 V2 (o*2 ^ s) u _ H3.out.1 H3.out.2 hl3 hl4).mono ?_);rw[Hz.out];rintro e w4 ⟨rfl,hb4⟩))
   exact HR.out _ _ Hv.out (Hb3.out.trans (hb4.mono Hb3.out.size))
  ·have hz0:0<=z:=by rw[← hz];exact cmpN_ge hge
   have Hv:=zh (show k=flr o u from by rw[Hfl.out,if_pos (Hc.out.2 hge)])
   clear hz hge
   go_wp2_with (first
    |((with_reducible refine (shift_int V1 o s (-k) _ H2.out.1 Hs.out hs6 hl5 hl3).mono ?_);rintro e w3 ⟨V3,rfl,hV3,hb3⟩;have H3:=zh (show Num w3 V3 (o*2 ^ s)/\Num w3 V2 u from ⟨hV3,H2.out.2.below hb3⟩);have Hb3:=zh (Hb2.out.trans (hb3.mono Hb2.out.size));clear hV3 hb3)
    |((with_reducible refine (cmp_num V3 V2 (o*2 ^ s) u _ H3.out.1 H3.out.2 hl3 hl4).mono ?_);rw[Hz.out];rintro e w4 ⟨rfl,hb4⟩))
   exact HR.out _ _ Hv.out (Hb3.out.trans (hb4.mono Hb3.out.size))
 ·obtain⟨s,hs⟩:∃ s:Nat,k=(s:Int):=⟨k.toNat,by omega⟩
  have hs6:s<=1000000:=by omega
  have t1:decide ((0:Int)<=k)=true:=decide_eq_true (by omega)
  have Hs:=zh hs
  have hl3:ln (u*2 ^ s)<=262144:=Nat.le_trans (ln_shift Hll.out.2) (by omega)
  have hl4:ln u<=262144:=by have:=Hll.out;omega
  have hl5:ln o<=262144:=by have:=Hll.out;omega
  have Hc:=zh ((le2_iff_cmp (k:=k) (o:=o) (u:=u) (s:=s)).1 hs)
  clear hs
  obtain⟨z,hz⟩:∃ z,cmpN o (u*2 ^ s)=z:=⟨_,rfl⟩
  have Hz:=zh hz
  rcases Nat.lt_or_ge o (u*2 ^ s) with hlt|hge
  ·have hz0:z<0:=by rw[← hz];exact cmpN_le hlt
   have Hv:=zh (show k-1=flr o u from by rw[Hfl.out,if_neg (λh=>by have:=Hc.out.1 h;omega)])
   clear hz hlt
   go_wp2_with (first
    |((with_reducible refine (shift_int V2 u s k _ H2.out.2 Hs.out hs6 hl4 hl3).mono ?_);rintro e w3 ⟨V3,rfl,hV3,hb3⟩;have H3:=zh (show Num w3 V1 o/\Num w3 V3 (u*2 ^ s) from ⟨H2.out.1.below hb3,hV3⟩);have Hb3:=zh (Hb2.out.trans (hb3.mono Hb2.out.size));clear hV3 hb3)
    |((with_reducible refine (cmp_num V1 V3 o (u*2 ^ s) _ H3.out.1 H3.out.2 hl5 hl3).mono ?_);rw[Hz.out];rintro e w4 ⟨rfl,hb4⟩))
   exact HR.out _ _ Hv.out (Hb3.out.trans (hb4.mono Hb3.out.size))
  ·have hz0:0<=z:=by rw[← hz];exact cmpN_ge hge
   have Hv:=zh (show k=flr o u from by rw[Hfl.out,if_pos (Hc.out.2 hge)])
   clear hz hge
   go_wp2_with (first
    |((with_reducible refine (shift_int V2 u s k _ H2.out.2 Hs.out hs6 hl4 hl3).mono ?_);rintro e w3 ⟨V3,rfl,hV3,hb3⟩;have H3:=zh (show Num w3 V1 o/\Num w3 V3 (u*2 ^ s) from ⟨H2.out.1.below hb3,hV3⟩);have Hb3:=zh (Hb2.out.trans (hb3.mono Hb2.out.size));clear hV3 hb3)
    |((with_reducible refine (cmp_num V1 V3 o (u*2 ^ s) _ H3.out.1 H3.out.2 hl5 hl3).mono ?_);rw[Hz.out];rintro e w4 ⟨rfl,hb4⟩))
   exact HR.out _ _ Hv.out (Hb3.out.trans (hb4.mono Hb3.out.size))
theorem floor_any(V1 V2:Value)(o u:Nat)(w:World)(h1:Num w V1 o)(h2:Num w V2 u)(hl1:ln o<=200)(hl2:ln u<=200) :
 Calls Tryz.prog 296 #[V1,V2] w λe w'=>e=.returned (.int .i64 (flr o u))/\Below w.heap.size w w':=
 floorG_any V1 V2 o u w h1 h2 (by omega) (by omega)
theorem tdiv_floor{a b:Int}(hb:0<b):a/b=if a.tmod b<0 then a.tdiv b-1 else a.tdiv b:=by
 have h1:=Int.mul_tdiv_add_tmod a b
 obtain⟨q,hq⟩:∃ q,a.tdiv b=q:=⟨_,rfl⟩
 obtain⟨r,hr⟩:∃ r,a.tmod b=r:=⟨_,rfl⟩
 have h2:r<b:=by rw[← hr];exact Int.tmod_lt_of_pos a hb
 have h3 : -b<r:=by
  rw[← hr]
  have:=Int.tmod_lt_of_pos (-a) hb
  rw[Int.neg_tmod] at this
  omega
 rw[hq,hr] at h1
 rw[hq,hr]
 split
 ·refine fdiv_eq hb ?_ ?_
  ·rw[Int.sub_mul,Int.one_mul,Int.mul_comm q];omega
  ·rw[Int.sub_add_cancel,Int.mul_comm q];omega
 ·refine fdiv_eq hb ?_ ?_
  ·rw[Int.mul_comm q];omega
  ·rw[Int.add_mul,Int.one_mul,Int.mul_comm q];omega
theorem parted_any(a b:Int)(w:World)(ha : -200000<=a)(ha2:a<=200000)(hb:1<=b)(hb2:b<=1000) :
 Calls Tryz.prog 295 #[.int .i64 a,.int .i64 b] w λe w'=>e=.returned (.int .i64 (a/b))/\w=w':=by
 refine calls_cps ?_
 intro R hR
 have hf:=tdiv_floor (a:=a) (b:=b) (by omega)
 obtain⟨q,hq⟩:∃ q,a.tdiv b=q:=⟨_,rfl⟩
 obtain⟨r,hr⟩:∃ r,a.tmod b=r:=⟨_,rfl⟩
 have hqa:q.natAbs<=a.natAbs:=by rw[← hq];exact Int.natAbs_tdiv_le_natAbs _ _
 have hql : -200000<=q:=by omega
 have hqh:q<=200000:=by omega
 rw[hq,hr] at hf
 have HR:=zh hR
 have b0:b≠0:=by omega
 have Hf:=zh hf
 clear hR hqa hf
 rcases Int.lt_or_le r 0 with hn|hn
 ·have t1:decide (r<0)=true:=decide_eq_true hn
  have Hv:=zh (show q-1=a/b by rw[Hf.out,if_pos hn])
  go_enter Tryz.func295,Tryz.ntmps295
  go_wp2_with fail
  exact HR.out.out _ _ ⟨by rw[← Hv.out];rfl,rfl⟩
 ·have t1:decide (r<0)=false:=decide_eq_false (by omega)
  have Hv:=zh (show q=a/b by rw[Hf.out,if_neg (by omega)])
  go_enter Tryz.func295,Tryz.ntmps295
  go_wp2_with fail
  exact HR.out.out _ _ ⟨by rw[← Hv.out];rfl,rfl⟩
theorem flr_bd(o u:Nat)(h1:ln o<=200)(h2:ln u<=200) : -10000<=flr o u/\flr o u<=10000:=by
 have:=bits_le_ln o
 have:=bits_le_ln u
 unfold flr
 split<;>omega
theorem oct_bd{t:Tn}(h:t.Ok):(-20000<=t.oct/\t.oct<=20000)/\-20000<=t.oct*t.den/\t.oct*t.den<=20000:=by
 have hl:=ov_ln h.two h.three h.five
 have hf:=flr_bd _ _ (Nat.le_trans hl.1 (by omega)) (Nat.le_trans hl.2 (by omega))
 have hd:=h.lo
 have hd2:=h.hi
 have hb:=ediv_bounds (flr (ov t.two t.three t.five) (un t.two t.three t.five)) (show 0<t.den by omega)
 have e:t.oct=flr (ov t.two t.three t.five) (un t.two t.three t.five)/t.den:=rfl
 rw[← e] at hb
 rw[Int.add_mul,Int.one_mul] at hb
 obtain⟨F,hF⟩:∃ F,flr (ov t.two t.three t.five) (un t.two t.three t.five)=F:=⟨_,rfl⟩
 rw[hF] at hb hf e
 have h3:t.oct.natAbs<=F.natAbs+1:=by
  rw[e]
  have h5:=Int.natAbs_ediv_le_natAbs F t.den
  omega
 omega
def octRet(t:Tn):Value:=match t.rest with
 |some x=>.tuple #[.int .i64 t.oct,x.val,.int .i64 0]
 |none=>.tuple #[.int .i64 0,.agg #[.int .i64 0,.int .i64 0,.int .i64 0,.int .i64 0],.int .i64 5]
theorem octave_any(t:Tn)(w:World)(ht:t.Ok):Calls Tryz.prog 185 #[t.val] w λe w'=>e=.returned (octRet t)/\Below w.heap.size w w':=by
 refine calls_cps ?_
 intro R hR
 have hbd:=oct_bd ht
 have hl:=ov_ln ht.two ht.three ht.five
 have hkd:t.oct=flr (ov t.two t.three t.five) (un t.two t.three t.five)/t.den:=rfl
 have hfb:=flr_bd _ _ (Nat.le_trans hl.1 (show 181<=200 by omega)) (Nat.le_trans hl.2 (show 181<=200 by omega))
 have hrd:t.rest=redT (t.two-t.oct*t.den) t.three t.five t.den:=rfl
 unfold octRet at hR
 obtain⟨T,hT⟩:∃ T,t.rest=T:=⟨_,rfl⟩
 rw[hT] at hR hrd
 obtain⟨k,hk⟩:∃ k,t.oct=k:=⟨_,rfl⟩
 rw[hk] at hR hrd hkd hbd
 obtain⟨a,b,c,d⟩:=t
 dsimp only at hbd hl hkd hrd hfb
 obtain⟨O,hO⟩:∃ O,ov a b c=O:=⟨_,rfl⟩
 obtain⟨U,hU⟩:∃ U,un a b c=U:=⟨_,rfl⟩
 rw[hO,hU] at hl hkd hfb
 obtain⟨F,hF⟩:∃ F,flr O U=F:=⟨_,rfl⟩
 rw[hF] at hkd hfb
 obtain⟨p,hp⟩:∃ p,k*d=p:=⟨_,rfl⟩
 rw[hp] at hbd hrd
 have A1:=ht.two
 have A2:=ht.three
 have A3:=ht.five
 have A4:=ht.lo
 have A5:=ht.hi
 dsimp only at A1 A2 A3 A4 A5
 have Hratio:=zh (λW=>ratio_any a b c W A1 A2 A3)
 rw[hO,hU] at Hratio
 have Hfloor:=zh (λV1 V2 W h1 h2=>floor_any V1 V2 O U W h1 h2 (Nat.le_trans hl.1 (by omega)) (Nat.le_trans hl.2 (by omega)))
 rw[hF] at Hfloor
 have Hpart:=zh (λW=>parted_any F d W (by omega) (by omega) A4 (by omega))
 rw[← hkd] at Hpart
 have Hred:=zh (λW=>reduce_any (a-p) b c d W (by omega) (by omega) (by omega) A4 (by omega))
 rw[← hrd] at Hred
 have HR:=zh hR
 have Hok:=zh ht
 have A1:=abs_ib A1
 simp only[Int.cast_ofNat_Int] at A1
 obtain⟨a1,a2⟩:=A1
 obtain⟨⟨k1,k2⟩,p1,p2⟩:=hbd
 unfold Tn.val
 dsimp only
 clear hR hT hk hO hU hF hkd hrd ht hl hfb A2 A3
 go_enter Tryz.func185,Tryz.ntmps185
 go_upto_region 1 with fail
 obtain⟨W0,hW0⟩:∃ W,(w.alloc (.cells #[Value.int .i64 a,.int .i64 b,.int .i64 c,.int .i64 d] 115)).alloc (.cells #[Value.int .i64 0,.int .i64 0,.int .i64 0,.int .i64 0] 115)=W:=⟨_,rfl⟩
 have hn:=two_new _ _ _ hW0
 rw[hW0]
 obtain⟨g,hg⟩:∃ g,w.heap.size=g:=⟨_,rfl⟩
 rw[hg] at hn ⊢
 have Hw:=zh hn
 have Hg:=zh hg
 clear hW0 hn hg
 have HcA:=zh (λW' (hb:Below W0.heap.size W0 W')=>cells4 ((hb.block g (Nat.lt_trans (Nat.lt_succ_self g) Hw.out.2.1)).trans Hw.out.1.1))
 have HcZ:=zh (λW' (hb:Below W0.heap.size W0 W')=>(hb.block (g+1) Hw.out.2.1).trans Hw.out.1.2)
 obtain⟨q0,q1,q2,q3,-⟩:=HcA.out W0 (Below.refl _ _)
 go_upto_region 3 with (go_at_call 78;(with_reducible refine (valid_ag _ Hok.out).mono ?_);rintro e w1 ⟨rfl,hb1⟩;have Hb1:=zh hb1;clear hb1)
 clear q0 q1 q2 q3
 obtain⟨q0,q1,q2,q3,-⟩:=HcA.out w1 Hb1.out
 have hbz:Below w1.heap.size w1 w1.drew:=(Below.refl _ w1).drew
 have Hbx:=zh (show ∀ W',Below w1.heap.size w1 W'->Below w1.heap.size w1 W'/\W'.cell? ⟨g,0,none⟩=some (.int .i64 a)/\W'.cell? ⟨g,1,none⟩=some (.int .i64 b)/\W'.cell? ⟨g,2,none⟩=some (.int .i64 c)/\W'.cell? ⟨g,3,none⟩=some (.int .i64 d) from λW' hb=>by
  obtain⟨r0,r1,r2,r3,_⟩:=HcA.out W' (Hb1.out.trans (hb.mono Hb1.out.size))
  exact⟨hb,r0,r1,r2,r3⟩)
 go_region_held3 (λw'=>Below w1.heap.size w1 w'/\w'.cell? ⟨g,0,none⟩=some (.int .i64 a)/\w'.cell? ⟨g,1,none⟩=some (.int .i64 b)/\w'.cell? ⟨g,2,none⟩=some (.int .i64 c)/\w'.cell? ⟨g,3,none⟩=some (.int .i64 d))
  (first
   |(refine Hbx.out _ ?_;repeat (first|with_reducible exact hbz|with_reducible exact Below.refl _ _|with_reducible refine Below.drew ?_|with_reducible exact hka|with_reducible exact hkb|assumption|exact Nat.le_refl _))
   |go_keep)
  (first
  |(go_at_call 79;have hcur:=(‹Below w1.heap.size w1 _/\_›).1;(with_reducible refine (Hratio.out _).mono ?_);rintro e w2 ⟨V1,V2,rfl,hV1,hV2,hb2⟩;have hka:=hcur.trans (hb2.mono hcur.size);clear hcur)
  |(go_at_call 296;(with_reducible refine (Hfloor.out V1 V2 _ hV1 hV2).mono ?_);rintro e w3 ⟨rfl,hb3⟩;have hkb:=hka.trans (hb3.mono hka.size))
  |(go_at_call 295;(with_reducible refine (Hpart.out _).mono ?_);rintro e w4 ⟨rfl,hw4⟩;subst hw4))
 have Hb3:=zh (Hb1.out.trans (hkb.mono Hb1.out.size))
 clear q0 q1 q2 q3 hka hkb hb2 hb3 hV1 hV2
 obtain⟨q0,q1,q2,q3,-⟩:=HcA.out w3 Hb3.out
 go_wp2_with fail
 refine (Hred.out _).mono ?_
 rintro e w5 ⟨rfl,hb5⟩
 have Hb5:=zh (Hb3.out.trans (hb5.mono Hb3.out.size))
 clear hb5 q0 q1 q2 q3 hp
 cases T with
 |none =>
  unfold redRet
  dsimp only
  go_upto_region 5 with fail
  have hA:=heap_alloc_new w5 (.cells #[Value.int .i64 0,Value.int .i64 0,Value.int .i64 0,Value.int .i64 0] 115)
  have Hb6:=zh (Hb5.out.trans ((below_new w5 (.cells #[Value.int .i64 0,Value.int .i64 0,Value.int .i64 0,Value.int .i64 0] 115)).mono Hb5.out.size))
  obtain⟨W6,hW6⟩:∃ W,w5.alloc (.cells #[Value.int .i64 0,Value.int .i64 0,Value.int .i64 0,Value.int .i64 0] 115)=W:=⟨_,rfl⟩
  obtain⟨b6,hb6⟩:∃ z,w5.heap.size=z:=⟨_,rfl⟩
  have hne:g+1<b6:=by rw[← hb6];exact Nat.lt_of_lt_of_le Hw.out.2.1 Hb5.out.size
  rw[hW6] at hA Hb6 ⊢
  rw[hb6] at hA ⊢
  obtain⟨r0,r1,r2,r3,-⟩:=cells4 hA
  have Hzz:=zh (HcZ.out W6 Hb6.out)
  obtain⟨z0,z1,z2,z3,z4⟩:=cells4 Hzz.out
  have Hb8:=zh (show Below w.heap.size w W6 by rw[Hg.out];exact Hw.out.2.2.trans (Hb6.out.mono (Nat.le_of_lt (Nat.lt_trans (Nat.lt_succ_self g) Hw.out.2.1))))
  have Hgz:=zh (show w.heap.size<=g+1 by rw[Hg.out];omega)
  have Hne:=zh hne
  clear hW6 hb6 hA hne
  have hs4:=set4_heap Hzz.out (.int .i64 0) (.int .i64 0) (.int .i64 0) (.int .i64 0)
  have hb9:=zh (set4_below Hb8.out Hgz.out (.int .i64 0) (.int .i64 0) (.int .i64 0) (.int .i64 0))
  unfold set4 at hs4 hb9
  go_wp2_with fail
  obtain⟨y0,y1,y2,y3,-⟩:=cells4 hs4
  refine bodyPost_ret (v:=.tuple #[.int .i64 0,.agg #[.int .i64 0,.int .i64 0,.int .i64 0,.int .i64 0],.int .i64 5]) ?_ rfl (HR.out.out _ _ ⟨rfl,hb9.out⟩)
  simp[results,Tryz.results185,go_sem,y0,y1,y2,y3]
 |some t =>
  obtain⟨t1,t2,t3,t4⟩:=t
  unfold redRet Tn.val
  unfold Tn.val at HR
  dsimp only at HR ⊢
  go_upto_region 5 with fail
  have hA:=heap_alloc_new w5 (.cells #[Value.int .i64 t1,Value.int .i64 t2,Value.int .i64 t3,Value.int .i64 t4] 115)
  have Hb6:=zh (Hb5.out.trans ((below_new w5 (.cells #[Value.int .i64 t1,Value.int .i64 t2,Value.int .i64 t3,Value.int .i64 t4] 115)).mono Hb5.out.size))
  obtain⟨W6,hW6⟩:∃ W,w5.alloc (.cells #[Value.int .i64 t1,Value.int .i64 t2,Value.int .i64 t3,Value.int .i64 t4] 115)=W:=⟨_,rfl⟩
  obtain⟨b6,hb6⟩:∃ z,w5.heap.size=z:=⟨_,rfl⟩
  have hne:g+1<b6:=by rw[← hb6];exact Nat.lt_of_lt_of_le Hw.out.2.1 Hb5.out.size
  rw[hW6] at hA Hb6 ⊢
  rw[hb6] at hA ⊢
  obtain⟨r0,r1,r2,r3,-⟩:=cells4 hA
  have Hzz:=zh (HcZ.out W6 Hb6.out)
  obtain⟨z0,z1,z2,z3,z4⟩:=cells4 Hzz.out
  have Hb8:=zh (show Below w.heap.size w W6 by rw[Hg.out];exact Hw.out.2.2.trans (Hb6.out.mono (Nat.le_of_lt (Nat.lt_trans (Nat.lt_succ_self g) Hw.out.2.1))))
  have Hgz:=zh (show w.heap.size<=g+1 by rw[Hg.out];omega)
  have Hne:=zh hne
  clear hW6 hb6 hA hne
  have hs4:=set4_heap Hzz.out (.int .i64 t1) (.int .i64 t2) (.int .i64 t3) (.int .i64 t4)
  have hb9:=zh (set4_below Hb8.out Hgz.out (.int .i64 t1) (.int .i64 t2) (.int .i64 t3) (.int .i64 t4))
  unfold set4 at hs4 hb9
  go_wp2_with fail
  go_region
  go_wp2_with fail
  obtain⟨y0,y1,y2,y3,-⟩:=cells4 hs4
  refine bodyPost_ret (v:=.tuple #[.int .i64 k,.agg #[.int .i64 t1,.int .i64 t2,.int .i64 t3,.int .i64 t4],.int .i64 0]) ?_ rfl (HR.out.out _ _ ⟨rfl,hb9.out.drew⟩)
  simp[results,Tryz.results185,go_sem,y0,y1,y2,y3]
end
section
open Go.RowKit
theorem pow_int(V:Value)(a n:Nat)(x:Int)(w:World)(h:Num w V a)(hx:x=(n:Int))(ha:0<a)(hl:ln a*n<=262143)(hla:ln a<=262143)(hn:n<=1000000) :
 Calls Tryz.prog 80 #[V,.int .i64 x] w (GetsOk w (a ^ n)):=by
 subst hx
 exact pow_num V a n w h ha hl hla hn
theorem root_int(V:Value)(a n:Nat)(x:Int)(w:World)(h:Num w V a)(hx:x=(n:Int))(hl:ln a<=2000)(hn0:0<n)(hn:n<=1000) :
 Calls Tryz.prog 84 #[V,.int .i64 x] w (GetsOk w (root n a)):=by
 subst hx
 exact root_num V a n w h hl hn0 hn
def freqRet(base:Nat)(t:Tn):Value:=if t.freqN base<9223372036854775808 then .tuple #[.int .u64 (t.freqN base:Nat),.int .i64 0] else .tuple #[.int .u64 0,.int .i64 5]
theorem ln_two_iff(v:Nat):ln v<=2 ↔ v<18446744073709551616:=by
 rw[ln_le_iff,pw_two]
theorem freq_any(base:Nat)(t:Tn)(w:World)(hb0:0<base)(hbl:base<18446744073709551616)(ht:t.Ok) :
 Calls Tryz.prog 34 #[.int .u64 (base:Nat),t.val] w λe w'=>e=.returned (freqRet base t)/\Below w.heap.size w w':=by
 refine calls_cps ?_
 intro R hR
 have hl:=ov_ln ht.two ht.three ht.five
 unfold freqRet Tn.freqN at hR
 obtain⟨a,b,c,d⟩:=t
 dsimp only at hl hR
 have A1:=ht.two
 have A2:=ht.three
 have A3:=ht.five
 have A4:=ht.lo
 have A5:=ht.hi
 dsimp only at A1 A2 A3 A4 A5
 have Hratio:=zh (λW=>ratio_any a b c W A1 A2 A3)
 have hup:0<un a b c:=un_pos a b c
 obtain⟨O,hO⟩:∃ O,ov a b c=O:=⟨_,rfl⟩
 obtain⟨U,hU⟩:∃ U,un a b c=U:=⟨_,rfl⟩
 rw[hO,hU] at hl hR Hratio
 rw[hU] at hup
 obtain⟨n,hn⟩:∃ n,d.toNat=n:=⟨_,rfl⟩
 rw[hn] at hR
 have hdn:d=(n:Int):=by omega
 have hn0:0<n:=by omega
 have hn24:n<=24:=by omega
 have hlb:ln base<=2:=(ln_two_iff base).2 hbl
 have hlp:ln base*n<=48:=Nat.mul_le_mul hlb hn24
 have hlp2:ln (base ^ n)<=49:=Nat.le_trans (ln_pow_le' hb0 n) (by omega)
 have hlm:ln (base ^ n*O)<=230:=Nat.le_trans (ln_mul_le _ _) (by omega)
 have hld:ln (base ^ n*O/U)<=230:=Nat.le_trans (ln_div_le _ _) hlm
 have Hpow:=zh (λV W h=>pow_int V base n d W h hdn hb0 (by omega) (by omega) (by omega))
 have Hmul:=zh (λV V2 W h h2=>mul_num V V2 (base ^ n) O W h h2 (by omega))
 have Hdiv:=zh (λV V2 W h h2=>divmod_num V V2 (base ^ n*O) U W h h2 (by omega) (by omega) hup)
 have Hroot:=zh (λV W h=>root_int V (base ^ n*O/U) n d W h hdn (by omega) hn0 (by omega))
 have hlr:ln (root n (base ^ n*O/U))<=230:=Nat.le_trans (ln_mono (Nat.le_trans (le_pow_self hn0) (root_le hn0))) hld
 obtain⟨P,hP⟩:∃ P,base ^ n=P:=⟨_,rfl⟩
 rw[hP] at hR Hpow Hmul Hdiv Hroot hlr
 obtain⟨M,hM⟩:∃ M,P*O=M:=⟨_,rfl⟩
 rw[hM] at hR Hmul Hdiv Hroot hlr
 obtain⟨D,hD⟩:∃ D,M/U=D:=⟨_,rfl⟩
 rw[hD] at hR Hdiv Hroot hlr
 obtain⟨r,hr⟩:∃ r,root n D=r:=⟨_,rfl⟩
 rw[hr] at hR Hroot hlr
 have HR:=zh hR
 have Hok:=zh ht
 have Hofb:=zh (λW=>of_any base W hbl)
 unfold Tn.val
 dsimp only
 clear hR hn hdn hP hM hD hr hO hU hl hup hlp hlp2 hlm hld A1 A2 A3 hb0 hbl hlb ht
 go_enter Tryz.func34,Tryz.ntmps34
 go_upto_region 1 with fail
 have hA:=heap_alloc_new w (.cells #[Value.int .i64 a,.int .i64 b,.int .i64 c,.int .i64 d] 115)
 have Hb0:=zh (below_new w (.cells #[Value.int .i64 a,.int .i64 b,.int .i64 c,.int .i64 d] 115))
 have Hgl:=zh (show w.heap.size<(w.alloc (.cells #[Value.int .i64 a,.int .i64 b,.int .i64 c,.int .i64 d] 115)).heap.size by simp)
 obtain⟨W0,hW0⟩:∃ W,w.alloc (.cells #[Value.int .i64 a,.int .i64 b,.int .i64 c,.int .i64 d] 115)=W:=⟨_,rfl⟩
 obtain⟨g,hg⟩:∃ g,w.heap.size=g:=⟨_,rfl⟩
 rw[hW0] at hA Hb0 Hgl ⊢
 rw[hg] at hA Hgl ⊢
 have HA:=zh hA
 clear hW0 hg hA
 have HcA:=zh (λW' (hb:Below W0.heap.size W0 W')=>cells4 ((hb.block g Hgl.out).trans HA.out))
 obtain⟨q0,q1,q2,q3,-⟩:=HcA.out W0 (Below.refl _ _)
 go_upto_region 3 with (go_at_call 78;(with_reducible refine (valid_ag _ Hok.out).mono ?_);rintro e w1 ⟨rfl,hb1⟩;have Hb1:=zh hb1;clear hb1)
 clear q0 q1 q2 q3
 obtain⟨q0,q1,q2,q3,-⟩:=HcA.out w1 Hb1.out
 go_upto_region 4 with ((with_reducible refine (Hratio.out _).mono ?_);rintro e w2 ⟨V1,V2,rfl,hV1,hV2,hb2⟩;have HN2:=zh (And.intro hV1 hV2);have Hb2:=zh (Hb1.out.trans (hb2.mono Hb1.out.size));clear hV1 hV2 hb2)
 clear q0 q1 q2 q3
 obtain⟨q0,q1,q2,q3,-⟩:=HcA.out w2 Hb2.out
 have hbz:Below w2.heap.size w2 w2.drew:=(Below.refl _ w2).drew
 have Hbx:=zh (show ∀ W',Below w2.heap.size w2 W'->Below w2.heap.size w2 W'/\W'.cell? ⟨g,3,none⟩=some (.int .i64 d) from λW' hb=>by
  obtain⟨r0,r1,r2,r3,_⟩:=HcA.out W' (Hb2.out.trans (hb.mono Hb2.out.size))
  exact⟨hb,r3⟩)
 go_region_held3 (λw'=>Below w2.heap.size w2 w'/\w'.cell? ⟨g,3,none⟩=some (.int .i64 d))
  (first
   |(refine Hbx.out _ ?_;repeat (first|with_reducible exact hbz|with_reducible exact Below.refl _ _|with_reducible refine Below.drew ?_|with_reducible exact hka|with_reducible exact hkb|assumption|exact Nat.le_refl _))
   |go_keep)
  (first
  |(go_at_call 81;have hcur:=(‹Below w2.heap.size w2 _/\_›).1;(with_reducible refine (Hofb.out _).mono ?_);rintro e w3 ⟨VB,rfl,hVB,hb3⟩;have hka:=hcur.trans (hb3.mono hcur.size);clear hcur)
  |(go_at_call 80;(with_reducible refine (Hpow.out VB _ hVB).mono ?_);rintro e w4 ⟨VP,rfl,hVP,hb4⟩;have hkb:=hka.trans (hb4.mono hka.size)))
 have HN4:=zh (show Num w4 V1 O/\Num w4 V2 U/\Num w4 VP P from ⟨HN2.out.1.below hkb,HN2.out.2.below hkb,hVP⟩)
 have Hb4:=zh (Hb2.out.trans (hkb.mono Hb2.out.size))
 clear q0 q1 q2 q3 hka hkb hb3 hb4 hVB hVP hbz
 go_upto_region 7 with (first
  |((with_reducible refine (Hmul.out VP V1 _ HN4.out.2.2 HN4.out.1).mono ?_);rintro e w5 ⟨VM,rfl,hVM,hb5⟩;have HN5:=zh (show Num w5 VM M/\Num w5 V2 U from ⟨hVM,HN4.out.2.1.below hb5⟩);have Hb5:=zh (Hb4.out.trans (hb5.mono Hb4.out.size));clear hVM hb5)
  |((with_reducible refine (Hdiv.out VM V2 _ HN5.out.1 HN5.out.2).mono ?_);rintro e w6 ⟨VD,VE,rfl,hVD,-,hb6⟩;have HD:=zh hVD;have Hb6:=zh (Hb5.out.trans (hb6.mono Hb5.out.size));clear hVD hb6))
 obtain⟨q0,q1,q2,q3,-⟩:=HcA.out w6 Hb6.out
 go_upto_region 8 with ((with_reducible refine (Hroot.out VD _ HD.out).mono ?_);rintro e w7 ⟨VR,rfl,hVR,hb7⟩;have Hr7:=zh hVR;have Hb7:=zh (Hb6.out.trans (hb7.mono Hb6.out.size));clear hVR hb7)
 clear q0 q1 q2 q3
 have Hlr:=zh (show ln r<=262144 by omega)
 have Hend:=zh (λW' (hb:Below w7.heap.size w7 W')=>Hb0.out.trans ((Hb7.out.trans (hb.mono Hb7.out.size)).mono Hb0.out.size))
 rcases Nat.lt_or_ge r 18446744073709551616 with h64|h64
 ·have Hl2:=zh ((ln_two_iff r).2 h64)
  rcases Nat.lt_or_ge r 9223372036854775808 with h63|h63
  ·have t1:decide ((9223372036854775808:Int)<=(r:Int))=false:=decide_eq_false (by omega)
   have t2:decide (9223372036854775808<=r)=false:=decide_eq_false (by omega)
   have Hf:=zh (λW' hb=>HR.out.out (.returned (.tuple #[.int .u64 (r:Nat),.int .i64 0])) W' ⟨by rw[if_pos h63],hb⟩)
   clear hlr
   go_wp2_with ((with_reducible refine (uint64_small VR r _ Hr7.out Hl2.out).mono ?_);rintro e w8 ⟨rfl,hb8⟩)
   exact Hf.out _ (Hend.out _ hb8)
  ·have t1:decide ((9223372036854775808:Int)<=(r:Int))=true:=decide_eq_true (by omega)
   have t2:decide (9223372036854775808<=r)=true:=decide_eq_true (by omega)
   have Hf:=zh (λW' hb=>HR.out.out (.returned (.tuple #[.int .u64 0,.int .i64 5])) W' ⟨by rw[if_neg (by omega)],hb⟩)
   clear hlr
   go_wp2_with ((with_reducible refine (uint64_small VR r _ Hr7.out Hl2.out).mono ?_);rintro e w8 ⟨rfl,hb8⟩)
   exact Hf.out _ (Hend.out _ hb8)
 ·have Hl2:=zh (show 2<ln r from Nat.lt_of_not_le λh=>by have:=(ln_two_iff r).1 h;omega)
  have Hf:=zh (λW' hb=>HR.out.out (.returned (.tuple #[.int .u64 0,.int .i64 5])) W' ⟨by rw[if_neg (by omega)],hb⟩)
  clear hlr h64
  go_wp2_with ((with_reducible refine (uint64_big VR r _ Hr7.out Hlr.out Hl2.out).mono ?_);rintro e w8 ⟨rfl,hb8⟩)
  exact Hf.out _ (Hend.out _ hb8)
end
section
open Go.RowKit
def stepT(x:Tn)(s u:Int):Option Tn:=match joinT x (fifT s u) 1 with
 |some y=>y.rest
 |none=>none
def tonesF(u:Int):Tn->List Int->Option (List Tn)
 |_,[]=>some []
 |x,s :: l=>match stepT x s u with
  |some y=>(tonesF u y l).map (y :: ·)
  |none=>none
def tn0:Tn:=⟨0,0,0,1⟩
theorem tn0_ok:tn0.Ok:=⟨by decide,by decide,by decide,by decide,by decide,by decide⟩
theorem rest_ok{t x:Tn}(h:t.rest=some x):x.Ok:=(redT_ok h).1
theorem join_ok{a b x:Tn}{s:Int}(h:joinT a b s=some x):x.Ok:=(redT_ok h).1
theorem stepT_ok{x y:Tn}{s u:Int}(h:stepT x s u=some y):y.Ok:=by
 unfold stepT at h
 split at h
 ·exact rest_ok h
 ·cases h
def tnE(t:Tn):List Value:=[.int .i64 t.two,.int .i64 t.three,.int .i64 t.five,.int .i64 t.den]
theorem tnE_len(t:Tn):(tnE t).length=4:=rfl
theorem elemTn:ElemOk Tryz.prog 111 115 4 32:=ElemOk.of (z:=.agg #[.int .i64 0,.int .i64 0,.int .i64 0,.int .i64 0]) Tryz.underlying111 (by kernel_rfl) rfl (by omega)
theorem drop_at{l:List Int}{i:Nat}{s:Int}(h:l[i]?=some s):l.drop i=s :: l.drop (i+1):=by
 obtain⟨hi,he⟩:=List.getElem?_eq_some_iff.1 h
 rw[← he]
 exact List.drop_eq_getElem_cons hi
def TonesP(w:World)(l:List Int)(u:Int)(e:Ending)(w':World):Prop:=
 Below w.heap.size w w'/\((rightB l u=false/\e=.returned (.tuple #[.slice none 0 0,.int .i64 1]))\/
  (rightB l u=true/\tonesF u tn0 l.dropLast=none/\e=.returned (.tuple #[.slice none 0 0,.int .i64 5]))\/
  (∃ L A n c,rightB l u=true/\tonesF u tn0 l.dropLast=some L/\n=L.length+1/\e=.returned (.tuple #[.slice A n c,.int .i64 0])/\w'.ownsRow w.heap.size 115 4 (.slice A n c) n ((tn0 :: L).flatMap tnE)))
theorem right_spec{l:List Int}{u:Int}(h:rightB l u=true):(∀ x∈l,-12<=x/\x<=12)/\1<=l.length/\l.length<=24/\1<=u/\u<=24:=by
 unfold rightB inBT at h
 simp only[Bool.and_eq_true,List.all_eq_true,decide_eq_true_eq] at h
 obtain⟨h1,⟨h2,h3⟩,h4,h5⟩:=h
 exact⟨λx hx=>h1 x hx,by omega,by omega,h4,h5⟩
theorem ownsRow_kx{S:Nat->Prop}{W W':World}{base e sz n:Nat}{v:Value}{xs:List Value}(h:W.ownsRow base e sz v n xs)(hk:Kx S W W')(hs:∀ j,base<=j->¬ S j):W'.ownsRow base e sz v n xs:=by
 refine⟨h.1,?_⟩
 rcases h.2 with h|⟨g,c,cur,h1,h2,h3,h4⟩
 ·exact .inl h
 ·exact .inr ⟨g,c,cur,h1,h2,(hk.block g (Array.getElem?_eq_some_iff.1 h3).1 (hs g h2)).trans h3,h4⟩
theorem ownsRow_less{W:World}{b b' e s n:Nat}{v:Value}{xs:List Value}(h:W.ownsRow b e s v n xs)(hb:b'<=b):W.ownsRow b' e s v n xs:=by
 refine⟨h.1,?_⟩
 rcases h.2 with h|⟨g,c,cur,h1,h2,h3⟩
 ·exact .inl h
 ·exact .inr ⟨g,c,cur,h1,by omega,h3⟩
theorem set4_kx(W:World)(z:Nat)(a b c d:Value):Kx (λj=>j=z) W (set4 W z a b c d):=by
 have h0:=Kx.refl (λj=>j=z) W
 have h1:=kx_set h0 (b:=z) rfl 0 a
 have h2:=kx_set h1 (b:=z) rfl 1 b
 have h3:=kx_set h2 (b:=z) rfl 2 c
 exact kx_set h3 (b:=z) rfl 3 d
theorem grown_kx{W W':World}{base e sz n:Nat}{v:Value}{xs:List Value}(ho:W.ownsRow base e sz v n xs)(hg:W.grownBy W' v.ownBlock):Kx (λj=>base<=j) W W':=by
 refine Kx.grown (Kx.refl _ _) hg λj hj=>?_
 rcases ho.2 with⟨h,_⟩|⟨g,c,cur,h1,h2,h3,_⟩
 ·rw[h] at hj;simp[Value.ownBlock] at hj
 ·rw[h1] at hj
  simp[Value.ownBlock] at hj
  subst hj
  exact .inl h2
theorem tones_any(A:Option Addr)(n c:Nat)(l:List Int)(u:Int)(w:World)(hS:SlE intE 1 w A n l)(hnc:n<=c)(hc:c<=9223372036854775807) :
 Calls Tryz.prog 77 #[.slice A n c,.int .i64 u] w (TonesP w l u):=by
 refine calls_cps ?_
 intro R hR
 have Hn:=zh hS.1
 have HS:=zh hS
 have hn:n<=9223372036854775807:=by omega
 obtain⟨T,hT⟩:∃ T,tonesF u tn0 l.dropLast=T:=⟨_,rfl⟩
 obtain⟨p,hp⟩:∃ p,rightB l u=p:=⟨_,rfl⟩
 unfold TonesP at hR
 rw[hT,hp] at hR
 have HT:=zh hT
 have Hp:=zh hp
 have HR:=zh hR
 clear hR hS hT hp
 cases p with
 |false =>
  go_enter Tryz.func77,Tryz.ntmps77
  go_wp2_with ((with_reducible refine (right_any A n c l u w HS.out hn).mono ?_);rw[Hp.out];rintro e w' ⟨rfl,rfl⟩)
  exact HR.out.out _ _ ⟨Below.refl _ _,.inl ⟨by trivial,rfl⟩⟩
 |true =>
  have hrs:=right_spec Hp.out
  have Hst:=zh hrs.1
  obtain⟨-,l1,l2,u1,u2⟩:=hrs
  have l1:1<=n:=by rw[Hn.out];exact l1
  have l2:n<=24:=by rw[Hn.out];exact l2
  have i0:(1:Int)<=(n:Int):=by omega
  have i1:(n:Int)<=(c:Int):=by omega
  have i2:(n:Int)-1<=(c:Int):=by omega
  have i3:(0:Int)<=(n:Int)-1:=by omega
  obtain⟨k,hk⟩:∃ k,n-1=k:=⟨_,rfl⟩
  have hki:(n:Int)-1=(k:Int):=by omega
  have hkn:k<=23:=by omega
  have hkc:(k:Int)<=(c:Int):=by omega
  have Hkn:=zh (show n=k+1 by omega)
  clear hk
  go_enter Tryz.func77,Tryz.ntmps77
  go_upto_region 5 with ((with_reducible refine (right_any A n c l u w HS.out hn).mono ?_);rw[Hp.out];rintro e w' ⟨rfl,hw⟩;subst hw)
  have hn2:=two_new w _ _ (W:=(w.alloc (.cells #[Value.int .i64 0,Value.int .i64 0,Value.int .i64 0,Value.int .i64 1] 115)).alloc (.cells #[Value.int .i64 0,Value.int .i64 0,Value.int .i64 0,Value.int .i64 1] 115)) rfl
  have ho:=own_newAt (w.alloc (.cells #[Value.int .i64 0,Value.int .i64 0,Value.int .i64 0,Value.int .i64 1] 115)) #[Value.int .i64 0,Value.int .i64 0,Value.int .i64 0,Value.int .i64 1] 115 4 1 (w.heap.size+1) rfl (by simp) (by unfold maxLen;omega) (b:=w.heap.size+1) (by simp)
  obtain⟨W0,hW0⟩:∃ W,(w.alloc (.cells #[Value.int .i64 0,Value.int .i64 0,Value.int .i64 0,Value.int .i64 1] 115)).alloc (.cells #[Value.int .i64 0,Value.int .i64 0,Value.int .i64 0,Value.int .i64 1] 115)=W:=⟨_,rfl⟩
  rw[hW0] at hn2 ho ⊢
  obtain⟨g,hg⟩:∃ g,w.heap.size=g:=⟨_,rfl⟩
  rw[hg] at hn2 ho ⊢
  have Hg:=zh hg
  have Ho:=zh (show W0.ownsRow (g+1) 115 4 (.slice (some ⟨g+1,0,none⟩) 1 1) 1 ([tn0].flatMap tnE) from ho)
  have Hn2:=zh hn2
  have HS0:=zh (HS.out.below (show Below w.heap.size w W0 by rw[hg];exact hn2.2.2))
  clear hW0 hg hn2 ho
  go_wp2_with fail
  go_loopw [7,9,10,11,25] (λs7 _ _ _ s25 wr=>∃ (i c7:Nat) (A7:Option Addr) (x:Tn) (L:List Tn),s25=.int .i64 (i:Nat)/\s7=.slice A7 (i+1) c7/\i<=k/\Hid (x.Ok/\L.length=i/\T=(tonesF u x (l.dropLast.drop i)).map (L ++ ·))/\Hid (wr.ownsRow (g+1) 115 4 (.slice A7 (i+1) c7) (i+1) ((tn0 :: L).flatMap tnE))/\Hid (wr.heap[g]?=some (.cells #[Value.int .i64 x.two,Value.int .i64 x.three,Value.int .i64 x.five,Value.int .i64 x.den] 115 (0,0)))/\Hid (Below g w wr)) (λ_ _ _ _ s25 _=>k-(intOf s25).toNat)
  case atStart=>exact⟨0,1,_,tn0,[],rfl,rfl,Nat.zero_le _,zh ⟨tn0_ok,rfl,by rw[List.drop_zero,HT.out];cases T<;>simp⟩,Ho,zh Hn2.out.1.1,zh Hn2.out.2.2⟩
  case round =>
   obtain⟨i,c7,A7,x,L,rfl,rfl,hi,HI,HO,HX,HW⟩:=hrel
   have Hgl:=zh (show g<wr.heap.size from (Array.getElem?_eq_some_iff.1 HX.out).1)
   by_cases hlt:i<k
   ·have j1:(i:Int)<(k:Int):=by omega
    obtain⟨bl,o,s,rfl,hbl,hs,q0⟩:=(HS.out.below (show Below w.heap.size w wr by rw[Hg.out];exact HW.out)).at1 (k:=i) (by have:=Hkn.out;omega)
    have hsd:l.dropLast[i]?=some s:=by
     rw[List.getElem?_dropLast,if_pos (by have:=Hkn.out;have:=Hn.out;omega)];exact hs
    have hs2:=Hst.out s (List.mem_of_getElem? hs)
    have Hd:=zh (drop_at hsd)
    obtain⟨x1,x2,x3,x4⟩:=x
    obtain⟨r0,r1,r2,r3,r4⟩:=cells4 HX.out
    dsimp only at r0 r1 r2 r3
    have hstep:=λW=>stepped_any ⟨x1,x2,x3,x4⟩ s u W HI.out.1 hs2.1 hs2.2 u1 u2
    have Hst2:=zh (show tonesF u ⟨x1,x2,x3,x4⟩ (l.dropLast.drop i)=(match stepT ⟨x1,x2,x3,x4⟩ s u with|some y=>(tonesF u y (l.dropLast.drop (i+1))).map (y :: ·)|none=>none) from by rw[Hd.out];rfl)
    unfold stepT at Hst2
    obtain⟨J,hJ⟩:∃ J,joinT ⟨x1,x2,x3,x4⟩ (fifT s u) 1=J:=⟨_,rfl⟩
    rw[hJ] at hstep Hst2
    have Hok:=zh (λy (h:J=some y)=>join_ok (hJ.trans h))
    unfold Tn.val at hstep
    dsimp only at hstep
    have Hstep:=zh hstep
    clear hstep hJ hs hsd
    have Hgw:=zh (λW' (hb:Below wr.heap.size wr W')=>show Below w.heap.size w W' by rw[Hg.out];exact HW.out.trans (hb.mono (Nat.le_of_lt Hgl.out)))
    cases J with
    |none =>
     have Hf:=zh (λW' (hb:Below wr.heap.size wr W')=>HR.out.out (.returned (.tuple #[.slice none 0 0,.int .i64 5])) W' ⟨Hgw.out W' hb,.inr (.inl ⟨by trivial,by rw[HI.out.2.2,Hst2.out];rfl,rfl⟩)⟩)
     unfold redRet at Hstep
     dsimp only at Hstep
     clear Hst2 Hok
     go_wp2_with ((with_reducible refine (Hstep.out _).mono ?_);rintro e w1 ⟨rfl,hb1⟩)
     exact Hf.out _ (hb1.trans ((below_new _ _).mono hb1.size))
    |some y =>
     have hyo:=Hok.out y rfl
     dsimp only at Hst2
     have hoct:=λW=>octave_any y W hyo
     unfold octRet at hoct
     obtain⟨Z,hZ⟩:∃ Z,y.rest=Z:=⟨_,rfl⟩
     rw[hZ] at hoct Hst2
     obtain⟨ko,hko⟩:∃ ko,y.oct=ko:=⟨_,rfl⟩
     rw[hko] at hoct
     have Hzo:=zh (λz (h:Z=some z)=>rest_ok (hZ.trans h))
     obtain⟨y1,y2,y3,y4⟩:=y
     unfold redRet at Hstep
     unfold Tn.val at Hstep hoct
     dsimp only at Hstep hoct
     have Hoct:=zh hoct
     clear hoct hZ hko hyo Hok
     go_upto_region 9 with ((with_reducible refine (Hstep.out _).mono ?_);rintro e w1 ⟨rfl,hb1⟩;have Hb1:=zh hb1;clear hb1)
     have hA:=heap_alloc_new w1 (.cells #[Value.int .i64 y1,.int .i64 y2,.int .i64 y3,.int .i64 y4] 115)
     have Hb2:=zh (Hb1.out.trans ((below_new w1 (.cells #[Value.int .i64 y1,.int .i64 y2,.int .i64 y3,.int .i64 y4] 115)).mono Hb1.out.size))
     obtain⟨W2,hW2⟩:∃ W,w1.alloc (.cells #[Value.int .i64 y1,.int .i64 y2,.int .i64 y3,.int .i64 y4] 115)=W:=⟨_,rfl⟩
     obtain⟨b2,hb2⟩:∃ z,w1.heap.size=z:=⟨_,rfl⟩
     rw[hW2] at hA Hb2 ⊢
     rw[hb2] at hA ⊢
     clear r0 r1 r2 r3
     obtain⟨r0,r1,r2,r3,-⟩:=cells4 hA
     clear hW2 hb2 hA Hb1 r4
     go_upto_region 11 with fail
     cases Z with
     |none =>
      have Hf:=zh (λW' (hb:Below g w W')=>HR.out.out (.returned (.tuple #[.slice none 0 0,.int .i64 5])) W' ⟨by rw[Hg.out];exact hb,.inr (.inl ⟨by trivial,by rw[HI.out.2.2,Hst2.out];rfl,rfl⟩)⟩)
      clear Hst2 Hzo
      dsimp only at Hoct
      go_wp2_with fail
      refine (Hoct.out W2).mono ?_
      rintro e w3 ⟨rfl,hb3⟩
      have hb3:=Hb2.out.trans (hb3.mono Hb2.out.size)
      have Hb8:=zh (HW.out.trans (hb3.mono (Nat.le_of_lt Hgl.out)))
      obtain⟨z0,z1,z2,z3,z4⟩:=cells4 ((hb3.block g Hgl.out).trans HX.out)
      clear hb3 r0 r1 r2 r3
      go_wp2_with fail
      exact Hf.out _ (set4_below Hb8.out (Nat.le_refl _) _ _ _ _)
     |some z =>
      have hzo:=Hzo.out z rfl
      obtain⟨t1,t2,t3,t4⟩:=z
      dsimp only at Hoct Hst2
      have Hzok:=zh hzo
      clear hzo Hzo
      go_upto_region 12 with ((with_reducible refine (Hoct.out W2).mono ?_);rintro e w3 ⟨rfl,hb3⟩;have hb3:=Hb2.out.trans (hb3.mono Hb2.out.size);have Hb3:=zh hb3;obtain⟨z0,z1,z2,z3,z4⟩:=cells4 ((hb3.block g Hgl.out).trans HX.out);clear hb3)
      have Hx4:=zh (set4_heap ((Hb3.out.block g Hgl.out).trans HX.out) (.int .i64 t1) (.int .i64 t2) (.int .i64 t3) (.int .i64 t4))
      have Hk4:=zh (set4_kx w3 g (.int .i64 t1) (.int .i64 t2) (.int .i64 t3) (.int .i64 t4))
      have Hb4:=zh (set4_below (HW.out.trans (Hb3.out.mono (Nat.le_of_lt Hgl.out))) (Nat.le_refl g) (.int .i64 t1) (.int .i64 t2) (.int .i64 t3) (.int .i64 t4))
      unfold set4 at Hx4 Hk4 Hb4
      obtain⟨W4,hW4⟩:∃ W,(((w3.setCell ⟨g,0,none⟩ (.int .i64 t1)).setCell ⟨g,1,none⟩ (.int .i64 t2)).setCell ⟨g,2,none⟩ (.int .i64 t3)).setCell ⟨g,3,none⟩ (.int .i64 t4)=W:=⟨_,rfl⟩
      rw[hW4] at Hx4 Hk4 Hb4 ⊢
      have HO4:=zh (ownsRow_kx (ownsRow_below HO.out Hb3.out) Hk4.out (λj hj e=>by omega))
      clear hW4 z0 z1 z2 z3 z4 r0 r1 r2 r3 Hb3
      obtain⟨r0,r1,r2,r3,-⟩:=cells4 Hx4.out
      have hsz4:g+1<=W4.heap.size:=(Array.getElem?_eq_some_iff.1 Hx4.out).1
      go_wp2_with (at_builtin;refine wpList_app rfl (.tmp 48) (.tmp 50) _ rfl elemTn (g+1) _ _ _ rfl (ownsRow_below HO4.out (below_new W4 _)) _ _ _ _ rfl (Sl.new W4 _ _ 4 1 rfl) (by simp[Value.oneCell']) (by unfold maxLen;omega) (by omega) (by simp;omega) ?_;intro A8 c8 w5 ho5 hg5 _)
      have hk5:=grown_kx (ownsRow_below HO4.out (below_new W4 (.cells #[Value.int .i64 t1,.int .i64 t2,.int .i64 t3,.int .i64 t4] 115))) hg5
      have hx5:=(hk5.block g (by simp;omega) (by omega)).trans (((below_new W4 (.cells #[Value.int .i64 t1,.int .i64 t2,.int .i64 t3,.int .i64 t4] 115)).block g (by omega)).trans Hx4.out)
      have hb5:Below g w w5:=Kx.low (Hb4.out.alloc (by omega) (.cells #[Value.int .i64 t1,.int .i64 t2,.int .i64 t3,.int .i64 t4] 115)) hk5 (λj hj=>by omega) (by simp;omega)
      have hT':T=(tonesF u ⟨t1,t2,t3,t4⟩ (l.dropLast.drop (i+1))).map ((L++[⟨t1,t2,t3,t4⟩]) ++ ·):=by
       rw[HI.out.2.2,Hst2.out]
       cases tonesF u ⟨t1,t2,t3,t4⟩ (l.dropLast.drop (i+1)) with
       |none=>rfl
       |some q=>simp
      have hll:(L++[(⟨t1,t2,t3,t4⟩:Tn)]).length=i+1:=by have:=HI.out.2.1;simp;omega
      have hrow:w5.ownsRow (g+1) 115 4 (.slice A8 (i+1+1) c8) (i+1+1) ((tn0 :: (L++[(⟨t1,t2,t3,t4⟩:Tn)])).flatMap tnE):=by
       rw[show tn0 :: (L++[(⟨t1,t2,t3,t4⟩:Tn)])=(tn0 :: L)++[⟨t1,t2,t3,t4⟩] from rfl,List.flatMap_append]
       exact ho5
      have HF:=zh (And.intro hT' (And.intro hll (And.intro hrow (And.intro hx5 hb5))))
      clear hT' hll hrow hx5 hb5 hk5 hg5 ho5
      go_wp2_with fail
      exact⟨⟨i+1,c8,A8,⟨t1,t2,t3,t4⟩,L++[⟨t1,t2,t3,t4⟩],by go_num,rfl,by omega,zh ⟨Hzok.out,HF.out.2.1,HF.out.1⟩,zh HF.out.2.2.1,zh HF.out.2.2.2.1,zh HF.out.2.2.2.2⟩,by simp[intOf];omega⟩
   ·obtain rfl:k=i:=by omega
    have hd:l.dropLast.drop k=[]:=List.drop_eq_nil_of_le (by rw[List.length_dropLast];have:=Hkn.out;have:=Hn.out;omega)
    have hTs:T=some L:=by rw[HI.out.2.2,hd];simp[tonesF]
    have Hf:=zh (HR.out.out (.returned (.tuple #[.slice A7 (k+1) c7,.int .i64 0])) wr ⟨by rw[Hg.out];exact HW.out,.inr (.inr ⟨L,A7,k+1,c7,by trivial,hTs,by rw[HI.out.2.1],rfl,by rw[Hg.out];exact ownsRow_less HO.out (Nat.le_succ g)⟩)⟩)
    clear hd hTs
    go_wp2_with fail
    exact Hf.out
end
end
end Go.Proofs.YtjibohkeapdalaaGreatDoor
