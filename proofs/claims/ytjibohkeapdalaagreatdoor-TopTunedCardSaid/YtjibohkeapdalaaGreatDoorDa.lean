/-
  Worlds that leave all below a block as it was, as the values of a function; a drawn region by one walk. Contracts of wire: products, whole, pull, holds, Tension, Longest, metal, course, Check, strong, tight, price; each states its condition.
-/
import Derived.Test.YtjibohkeapdalaaGreatDoorBa
import Derived.Test.YtjibohkeapdalaaGreatDoorCe
import Derived.Lib.SliceRun
import Derived.Deep.RegionHeld3
import Derived.Deep.CutBlock
import Derived.Deep.LoopGhost
import Derived.Deep.RegionWith
import Derived.BigRegion
import Derived.IntWalk
namespace Go.Proofs.YtjibohkeapdalaaGreatDoor
set_option maxHeartbeats 8000000
set_option maxRecDepth 16000
section
section
open Go.RowKit
theorem below_drewW{b:Nat}{W W':World}(h:Below b W W')(q:Nat):Below b W (W'.drewN q):=⟨h.os,h.tape,h.output,h.size,h.block⟩
theorem getD_someW{l:List Int}{i:Nat}{x:Int}(h:l[i]?=some x):l.getD i 0=x:=by
 rw[List.getD_eq_getElem?_getD,h];rfl
structure ClsW(B:Nat)(w0:World)(ι:Type)(mk:ι->World):Prop where
 iff:∀ w',Below B w0 w' ↔ ∃ n,w'=mk n
theorem cls_exW(B:Nat)(w0:World):∃ (ι:Type) (mk:ι->World),ClsW B w0 ι mk:=
 ⟨{ w' // Below B w0 w' },Subtype.val,⟨λw'=>⟨λh=>⟨⟨w',h⟩,rfl⟩,by rintro⟨n,rfl⟩;exact n.2⟩⟩⟩
section
variable{B:Nat}{w0:World}{ι:Type}{mk:ι->World}
theorem ClsW.below(h:ClsW B w0 ι mk)(n:ι):Below B w0 (mk n):=(h.iff _).2 ⟨n,rfl⟩
theorem ClsW.ne(h:ClsW B w0 ι mk):Nonempty ι:=let ⟨n,_⟩:=(h.iff _).1 (Below.refl B w0);⟨n⟩
theorem ClsW.drew(h:ClsW B w0 ι mk):∃ n,{ w0 with drawn:=w0.drawn+1 }=mk n:=(h.iff _).1 (Below.refl B w0).drew
theorem ClsW.call(h:ClsW w0.heap.size w0 ι mk){P:Program}{f:FuncId}{args:Array Value}{n:ι}{v:Value}
 (hc:Calls P f args (mk n) λe w'=>e=.returned v/\Below (mk n).heap.size (mk n) w'):Calls P f args (mk n) λe w''=>e=.returned v/\∃ m,w''=mk m:=
 hc.mono λ_ _ ⟨he,hb⟩=>⟨he,(h.iff _).1 ((h.below n).trans (hb.mono (h.below n).size))⟩
end
theorem wp_region_clsW{P:Program}{C:World->Prop}{id:Nat}{Q:Exit->Act->World->Prop}{a:Act}{w:World}{l:List Oper}(hm:P.follows .mixedOrders=true)(hB:Region.lexB .any l.toArray=true)(hC:C { w with drawn:=w.drawn+1 })
 (h:wpQuiet P l.toArray C (λa'=>∀ w',C w'->Q .normal a' w') l a):(Code.region id l.toArray true).wp P Q a w:=
 wp_region_quiet (C:=C) hm hB hC (by simpa using h)
end
end
section
theorem inB_iffW{v lo hi:Int}:inBT v lo hi=true ↔ lo<=v/\v<=hi:=by unfold inBT;simp
section
section
open Go.RowKit
def prodN(l:List Int):Nat:=l.foldl (λa x=>a*x.toNat) 1
theorem prodN_from(l:List Int):∀ a:Nat,l.foldl (λa x=>a*x.toNat) a=a*prodN l:=by
 unfold prodN
 induction l with
 |nil=>intro a;simp
 |cons x l ih=>intro a;rw[List.foldl_cons,List.foldl_cons,ih,ih (1*x.toNat)];rw[Nat.one_mul,Nat.mul_assoc]
theorem prodN_take{l:List Int}{i:Nat}{x:Int}(h:l[i]?=some x):prodN (l.take (i+1))=prodN (l.take i)*x.toNat:=by
 unfold prodN
 rw[List.take_add_one,h,List.foldl_append]
 rfl
theorem prodN_cons(x:Int)(l:List Int):prodN (x :: l)=x.toNat*prodN l:=by
 rw[show prodN (x :: l)=l.foldl (λa x=>a*x.toNat) (1*x.toNat) from rfl,prodN_from,Nat.one_mul]
theorem ln_prodN(l:List Int)(h:∀ x∈l,x.toNat<4294967296):ln (prodN l)<=l.length+1:=by
 induction l with
 |nil=>exact (ln_le_iff 1 1).2 (by rw[pw_one];omega)
 |cons x l ih =>
  rw[prodN_cons]
  refine Nat.le_trans (ln_mul_le _ _) ?_
  have h1:ln x.toNat<=1:=(ln_le_iff 1 _).2 (by rw[pw_one];exact h x (by simp))
  have h2:=ih λy hy=>h y (by simp[hy])
  rw[List.length_cons];omega
theorem inW_any(x lim:Int)(w:World) :
 Calls Tryz.prog 88 #[.int .i64 x,.int .i64 lim] w λe w'=>e=.returned (.bool (inBT x 1 lim))/\w=w':=by
 unfold inBT
 refine calls_cps ?_
 intro R hR
 have HR:=zh (show ∀ b:Bool,b=(decide (1<=x/\x<=lim))->R (.returned (.bool b)) w from λb hb=>hR.out _ _ ⟨by rw[hb,Bool.decide_and],rfl⟩)
 clear hR
 by_cases h1:1<=x
 ·by_cases h2:x<=lim
  ·go_enter Tryz.func88,Tryz.ntmps88
   go_wp2_with fail
   exact HR.out _ (by simp[h1,h2])
  ·have t2:decide (x<=lim)=false:=decide_eq_false h2
   go_enter Tryz.func88,Tryz.ntmps88
   go_wp2_with fail
   exact HR.out _ (by simp[h1,h2])
 ·have t1:decide (1<=x)=false:=decide_eq_false h1
  go_enter Tryz.func88,Tryz.ntmps88
  go_wp2_with fail
  exact HR.out _ (decide_eq_false (by omega)).symm
theorem of_ten(w:World):Calls Tryz.prog 81 #[.int .u64 10] w (GetsNum w 10):=of_any 10 w (by decide)
theorem product_any(ten:Nat)(A:Option Addr)(n c:Nat)(l:List Int)(w:World)(hS:SlE intE 1 w A n l)(ht:ten<=100)(hn:n<=100)(hl:∀ x∈l,0<=x/\x<4294967296) :
 Calls Tryz.prog 213 #[.int .i64 (ten:Nat),.slice A n c] w (GetsNum w (10 ^ ten*prodN l)):=by
 refine calls_cps ?_
 intro R hR
 have HR:=zh (show ∀ V W,Num W V (10 ^ ten*prodN l)->Below w.heap.size w W->R (.returned V) W from λV W g1 g2=>hR.out _ _ ⟨V,rfl,g1,g2⟩)
 have HS:=zh hS
 have Hn:=zh hS.1
 have Hl:=zh hl
 have l10:ln 10<=1:=(ln_le_iff 1 10).2 (by rw[pw_one];omega)
 have Hp:=zh (λV W h=>pow_num V 10 ten W h (by decide) (Nat.le_trans (Nat.mul_le_mul l10 ht) (by omega)) (by omega) (by omega))
 have Hln:=zh (show ∀ i,ln (10 ^ ten*prodN (l.take i))<=1000 from λi=>by
  refine Nat.le_trans (ln_mul_le _ _) ?_
  have h1:ln (10 ^ ten)<=101:=Nat.le_trans (ln_pow_le' (by decide) ten) (by have:=Nat.mul_le_mul l10 ht;omega)
  have h2:=ln_prodN (l.take i) (λx hx=>by have:=hl x (List.mem_of_mem_take hx);omega)
  rw[List.length_take] at h2
  have h3:=hS.1
  omega)
 clear hR hS hl l10
 go_enter Tryz.func213,Tryz.ntmps213
 go_upto_region 3 with (first
  |((with_reducible refine (of_ten _).mono ?_);rintro e w1 ⟨V1,rfl,hV1,hb1⟩;have HV1:=zh hV1;have Hb1:=zh hb1;clear hV1 hb1)
  |((with_reducible refine (Hp.out V1 _ HV1.out).mono ?_);rintro e w2 ⟨V2,rfl,hV2,hb2⟩;have HV2:=zh hV2;have Hb2:=zh (Hb1.out.trans (hb2.mono Hb1.out.size));clear hV2 hb2))
 clear HV1 Hp
 go_loopw [5,8,17] (λs5 _ s17 wr=>∃ (V:Value) (i:Nat),V=s5/\s17=.int .i64 (i:Nat)/\i<=n/\Hid (Num wr V (10 ^ ten*prodN (l.take i)))/\Hid (Below w.heap.size w wr)) (λ_ _ s17 _=>n-(intOf s17).toNat)
 case atStart=>exact⟨V2,0,rfl,rfl,Nat.zero_le _,zh (by rw[List.take_zero,show prodN []=1 from rfl,Nat.mul_one];exact HV2.out),Hb2⟩
 case round =>
  obtain⟨V,i,rfl,rfl,hi,HN,HW⟩:=hrel
  by_cases hlt:i<n
  ·have i1:(i:Int)<(n:Int):=by omega
   obtain⟨b,o,x,rfl,hbl,hx,q0⟩:=(HS.out.below HW.out).at1 hlt
   have hr:=Hl.out x (List.mem_of_getElem? hx)
   obtain⟨y,rfl⟩:∃ y:Nat,x=(y:Int):=⟨x.toNat,by omega⟩
   have e1:(y:Int)%18446744073709551616=(y:Int):=by omega
   have e2:=prodN_take hx
   rw[Int.toNat_natCast] at e2
   have Hof:=zh (λW=>of_any y W (by omega))
   have Hmul:=zh (λV2 W (h1:Num W V (10 ^ ten*prodN (l.take i))) (h2:Num W V2 y)=>mul_num V V2 _ y W h1 h2 (by
    have h3:=Hln.out i
    have h4:ln y<=1:=(ln_le_iff 1 y).2 (by rw[pw_one];omega)
    omega))
   rw[Nat.mul_assoc,← e2] at Hmul
   clear hx hr e2
   go_wp2_with (first
    |((with_reducible refine (Hof.out _).mono ?_);rintro e w3 ⟨V3,rfl,hV3,hb3⟩;have HV3:=zh hV3;have Hb3:=zh hb3;clear hV3 hb3)
    |((with_reducible refine (Hmul.out V3 _ (HN.out.below Hb3.out) HV3.out).mono ?_);rintro e w4 ⟨V4,rfl,hV4,hb4⟩;have HV4:=zh hV4;have Hb4:=zh hb4;clear hV4 hb4))
   exact⟨⟨V4,i+1,rfl,by go_num,by omega,HV4,zh ((HW.out.trans (Hb3.out.mono HW.out.size)).trans (Hb4.out.mono (Nat.le_trans HW.out.size Hb3.out.size)))⟩,by simp[intOf];omega⟩
  ·obtain rfl:n=i:=by omega
   have Hf:=zh (HR.out V wr (by have h:=HN.out;rwa [Hn.out,List.take_length] at h) HW.out)
   go_wp2_with fail
   exact Hf.out
end
end
section
section
open Go.RowKit
theorem prod_new(ten:Nat)(l:List Int)(w:World)(cs:Array Value)(b:Nat)(t:TypeId)(hcs:cs.toList=l.flatMap intE)(hb:b=w.heap.size)(ht:ten<=100)(hn:l.length<=100)(hl:∀ x∈l,0<=x/\x<4294967296)(k:Nat)(hk:k=l.length)(c:Nat)(z:Int)(hz:z=(ten:Int)) :
 Calls Tryz.prog 213 #[.int .i64 z,.slice (some ⟨b,0,none⟩) k c] (w.alloc (.cells cs t)) (GetsNum (w.alloc (.cells cs t)) (10 ^ ten*prodN l)):=by
 subst hb hk hz
 refine product_any ten _ l.length c l _ ⟨rfl,?_⟩ ht hn hl
 rw[← hcs]
 refine Sl.new w cs t 1 l.length ?_
 have h:cs.toList.length=cs.size:=Array.length_toList
 rw[← h,hcs,List.length_flatMap]
 have:(l.map λa=>(intE a).length)=l.map λ_=>1:=rfl
 rw[this];clear this hcs h ht hn hl
 induction l with
 |nil=>rfl
 |cons a l ih=>simp at ih ⊢;omega
theorem whole_any(V V2:Value)(a b:Nat)(w:World)(h:Num w V a)(h2:Num w V2 b)(hl:ln a<=262144)(hl2:ln b<=262144)(hb:0<b)(hq:a/b<9223372036854775808) :
 Calls Tryz.prog 212 #[V,V2] w λe w'=>e=.returned (.int .i64 (a/b:Nat))/\Below w.heap.size w w':=by
 refine calls_cps ?_
 intro R hR
 have HR:=zh (show ∀ W,Below w.heap.size w W->R (.returned (.int .i64 (a/b:Nat))) W from λW g=>hR.out _ _ ⟨rfl,g⟩)
 have Hd:=zh (divmod_num V V2 a b w h h2 hl hl2 hb)
 obtain⟨q,hqq⟩:∃ q,a/b=q:=⟨_,rfl⟩
 rw[hqq] at Hd HR hq
 have Hq:Hid (ln q<=2):=zh (by
  refine (ln_le_iff 2 q).2 ?_
  rw[show pw 2=18446744073709551616 from rfl];omega)
 have e1:(q:Int)%18446744073709551616=(q:Int):=by omega
 clear hR h h2 hl hl2 hqq
 go_enter Tryz.func212,Tryz.ntmps212
 go_wp2_with (first
  |((with_reducible refine Hd.out.mono ?_);rintro e w1 ⟨V1,V3,rfl,hV1,hV3,hb1⟩;have HV1:=zh hV1;have Hb1:=zh hb1;clear hV1 hV3 hb1)
  |((with_reducible refine (uint64_small V1 q _ HV1.out Hq.out).mono ?_);rintro e w2 ⟨rfl,hb2⟩;have Hb2:=zh hb2;clear hb2))
 exact HR.out _ (Hb1.out.trans (Hb2.out.mono Hb1.out.size))
theorem cmpN_dec(a b:Nat):decide (cmpN a b<=0)=decide (a<=b):=by
 by_cases h:a<=b
 ·rw[decide_eq_true h,decide_eq_true]
  unfold cmpN;split<;>(try split)<;>omega
 ·rw[decide_eq_false h,decide_eq_false]
  unfold cmpN;split<;>(try split)<;>omega
def pullN(d a l f:Int):Nat:=(10 ^ 0*prodN [355,d,a,a,l,l,f,f])/(10 ^ 23*prodN [113])
def holdsB(d s l f y:Int):Bool:=decide (10 ^ 0*prodN [400,d,l,l,f,f]<=10 ^ 20*prodN [y,s])
theorem pullN_lt{d a l f:Int}(hd:d<=30000)(ha:a<=2000)(hl:l<=100000)(hf:f<=10000000):pullN d a l f<4000000000000:=by
 unfold pullN
 simp only[prodN_cons,show prodN []=1 from rfl]
 refine Nat.div_lt_of_lt_mul ?_
 obtain⟨d',hd'⟩:∃ x,d.toNat=x:=⟨_,rfl⟩
 obtain⟨a',ha'⟩:∃ x,a.toNat=x:=⟨_,rfl⟩
 obtain⟨l',hl'⟩:∃ x,l.toNat=x:=⟨_,rfl⟩
 obtain⟨f',hf'⟩:∃ x,f.toNat=x:=⟨_,rfl⟩
 rw[hd',ha',hl',hf']
 have h1:d'<=30000:=by omega
 have h2:a'<=2000:=by omega
 have h3:l'<=100000:=by omega
 have h4:f'<=10000000:=by omega
 refine Nat.lt_of_le_of_lt (Nat.mul_le_mul (Nat.le_refl _) (Nat.mul_le_mul (Nat.le_refl _) (Nat.mul_le_mul h1 (Nat.mul_le_mul h2 (Nat.mul_le_mul h2 (Nat.mul_le_mul h3 (Nat.mul_le_mul h3 (Nat.mul_le_mul h4 (Nat.mul_le_mul h4 (Nat.le_refl _)))))))))) ?_
 decide
theorem ln_prod(ten:Nat)(l:List Int)(ht:ten<=100)(hn:l.length<=100)(hl:∀ x∈l,0<=x/\x<4294967296):ln (10 ^ ten*prodN l)<=1000:=by
 have l10:ln 10<=1:=(ln_le_iff 1 10).2 (by rw[pw_one];omega)
 refine Nat.le_trans (ln_mul_le _ _) ?_
 have h1:ln (10 ^ ten)<=101:=Nat.le_trans (ln_pow_le' (by decide) ten) (by have:=Nat.mul_le_mul l10 ht;omega)
 have h2:=ln_prodN l (λx hx=>by have:=hl x hx;omega)
 omega
theorem pull_any(d a l f:Int)(w:World)(hd:1<=d/\d<=30000)(ha:1<=a/\a<=2000)(hl:1<=l/\l<=100000)(hf:1<=f/\f<=10000000) :
 Calls Tryz.prog 92 #[.int .i64 d,.int .i64 a,.int .i64 l,.int .i64 f] w λe w'=>e=.returned (.int .i64 (pullN d a l f:Nat))/\Below w.heap.size w w':=by
 refine calls_cps ?_
 intro R hR
 have HR:=zh (show ∀ W,Below w.heap.size w W->R (.returned (.int .i64 (pullN d a l f:Nat))) W from λW g=>hR.out _ _ ⟨rfl,g⟩)
 have h8:∀ x∈[355,d,a,a,l,l,f,f],0<=x/\x<4294967296:=by
  intro x hx;simp only[List.mem_cons,List.not_mem_nil,or_false] at hx;omega
 have h1:∀ x∈[(113:Int)],0<=x/\x<4294967296:=by intro x hx;simp only[List.mem_cons,List.not_mem_nil,or_false] at hx;omega
 have Hp:=zh (λW b t (hb:b=W.heap.size)=>prod_new 0 [355,d,a,a,l,l,f,f] W #[.int .i64 355,.int .i64 d,.int .i64 a,.int .i64 a,.int .i64 l,.int .i64 l,.int .i64 f,.int .i64 f] b t rfl hb (by omega) (by simp) h8 8 rfl 8 0 rfl)
 have Hp2:=zh (λW b t (hb:b=W.heap.size)=>prod_new 23 [113] W #[.int .i64 113] b t rfl hb (by omega) (by simp) h1 1 rfl 1 23 rfl)
 have hlt:=pullN_lt hd.2 ha.2 hl.2 hf.2
 have hz:0<10 ^ 23*prodN [113]:=by decide
 have l1:=ln_prod 0 [355,d,a,a,l,l,f,f] (by omega) (by simp) h8
 have l2:=ln_prod 23 [113] (by omega) (by simp) h1
 unfold pullN at HR hlt
 obtain⟨X,hX⟩:∃ X,10 ^ 0*prodN [355,d,a,a,l,l,f,f]=X:=⟨_,rfl⟩
 obtain⟨Y,hY⟩:∃ Y,10 ^ 23*prodN [113]=Y:=⟨_,rfl⟩
 rw[hX] at Hp HR hlt l1
 rw[hY] at Hp2 HR hlt l2 hz
 have Hw:=zh (λV V2 W h h2=>whole_any V V2 X Y W h h2 (by omega) (by omega) hz (by omega))
 clear hR h8 h1 hlt hz l1 l2 hX hY hd ha hl hf
 go_enter Tryz.func92,Tryz.ntmps92
 go_wp2_with (first
  |((with_reducible refine (Hp.out w _ _ rfl).mono ?_);rintro e w1 ⟨V1,rfl,hV1,hb1⟩;have HV1:=zh hV1;have Hb1:=zh ((below_new w _).trans (hb1.mono (by simp)));clear hV1 hb1)
  |((with_reducible refine (Hp2.out w1 _ _ rfl).mono ?_);rintro e w2 ⟨V2,rfl,hV2,hb2⟩;have HV2:=zh hV2;have Hb2:=zh ((below_new w1 _).trans (hb2.mono (by simp)));clear hV2 hb2)
  |((with_reducible refine (Hw.out V1 V2 _ (HV1.out.below Hb2.out) HV2.out).mono ?_);rintro e w3 ⟨rfl,hb3⟩;have Hb3:=zh hb3;clear hb3))
 exact HR.out _ ((Hb1.out.trans (Hb2.out.mono Hb1.out.size)).trans (Hb3.out.mono (Nat.le_trans Hb1.out.size Hb2.out.size)))
theorem holds_any(d s l f y:Int)(w:World)(hd:1<=d/\d<=30000)(hs:1<=s/\s<=100000)(hl:1<=l/\l<=100000)(hf:1<=f/\f<=10000000)(hy:1<=y/\y<=100) :
 Calls Tryz.prog 93 #[.int .i64 d,.int .i64 s,.int .i64 l,.int .i64 f,.int .i64 y] w λe w'=>e=.returned (.bool (holdsB d s l f y))/\Below w.heap.size w w':=by
 refine calls_cps ?_
 intro R hR
 have HR:=zh (show ∀ W,Below w.heap.size w W->R (.returned (.bool (holdsB d s l f y))) W from λW g=>hR.out _ _ ⟨rfl,g⟩)
 have h8:∀ x∈[400,d,l,l,f,f],0<=x/\x<4294967296:=by
  intro x hx;simp only[List.mem_cons,List.not_mem_nil,or_false] at hx;omega
 have h1:∀ x∈[y,s],0<=x/\x<4294967296:=by intro x hx;simp only[List.mem_cons,List.not_mem_nil,or_false] at hx;omega
 have Hp:=zh (λW b t (hb:b=W.heap.size)=>prod_new 0 [400,d,l,l,f,f] W #[.int .i64 400,.int .i64 d,.int .i64 l,.int .i64 l,.int .i64 f,.int .i64 f] b t rfl hb (by omega) (by simp) h8 6 rfl 6 0 rfl)
 have Hp2:=zh (λW b t (hb:b=W.heap.size)=>prod_new 20 [y,s] W #[.int .i64 y,.int .i64 s] b t rfl hb (by omega) (by simp) h1 2 rfl 2 20 rfl)
 have l1:=ln_prod 0 [400,d,l,l,f,f] (by omega) (by simp) h8
 have l2:=ln_prod 20 [y,s] (by omega) (by simp) h1
 unfold holdsB at HR
 obtain⟨X,hX⟩:∃ X,10 ^ 0*prodN [400,d,l,l,f,f]=X:=⟨_,rfl⟩
 obtain⟨Y,hY⟩:∃ Y,10 ^ 20*prodN [y,s]=Y:=⟨_,rfl⟩
 rw[hX] at Hp HR l1
 rw[hY] at Hp2 HR l2
 have Hw:=zh (λV V2 W h h2=>cmp_num V V2 X Y W h h2 (by omega) (by omega))
 have e1:=cmpN_dec X Y
 rw[← e1] at HR
 obtain⟨z,hz⟩:∃ z,cmpN X Y=z:=⟨_,rfl⟩
 rw[hz] at HR Hw
 clear hR h8 h1 l1 l2 hX hY hd hs hl hf hy e1 hz
 go_enter Tryz.func93,Tryz.ntmps93
 go_wp2_with (first
  |((with_reducible refine (Hp.out w _ _ rfl).mono ?_);rintro e w1 ⟨V1,rfl,hV1,hb1⟩;have HV1:=zh hV1;have Hb1:=zh ((below_new w _).trans (hb1.mono (by simp)));clear hV1 hb1)
  |((with_reducible refine (Hp2.out w1 _ _ rfl).mono ?_);rintro e w2 ⟨V2,rfl,hV2,hb2⟩;have HV2:=zh hV2;have Hb2:=zh ((below_new w1 _).trans (hb2.mono (by simp)));clear hV2 hb2)
  |((with_reducible refine (Hw.out V1 V2 _ (HV1.out.below Hb2.out) HV2.out).mono ?_);rintro e w3 ⟨rfl,hb3⟩;have Hb3:=zh hb3;clear hb3))
 exact HR.out _ ((Hb1.out.trans (Hb2.out.mono Hb1.out.size)).trans (Hb3.out.mono (Nat.le_trans Hb1.out.size Hb2.out.size)))
end
end
section
section
open Go.RowKit
structure Crs where
 L:Int
 F:Int
 T:Int
 W:Int
def crsE(c:Crs):List Value:=[.int .i64 c.L,.int .i64 c.F,.int .i64 c.T,.int .i64 c.W]
theorem crsE_len(c:Crs):(crsE c).length=4:=rfl
def Crs.val(c:Crs):Value:=.agg #[.int .i64 c.L,.int .i64 c.F,.int .i64 c.T,.int .i64 c.W]
theorem SlE.at4c{w:World}{A:Option Addr}{n k:Nat}{L:List Crs}(h:SlE crsE 4 w A n L)(hk:k<n) :
 ∃ b o l,A=some ⟨b,o,none⟩/\b<w.heap.size/\L[k]?=some l/\w.cell? ⟨b,o+k*4,none⟩=some (.int .i64 l.L)/\w.cell? ⟨b,o+k*4+1,none⟩=some (.int .i64 l.F)/\w.cell? ⟨b,o+k*4+2,none⟩=some (.int .i64 l.T)/\w.cell? ⟨b,o+k*4+3,none⟩=some (.int .i64 l.W):=by
 obtain⟨b,o,x,hA,hb,hx,hc⟩:=h.at_ crsE_len hk
 exact⟨b,o,x,hA,hb,hx,by simpa using hc 0 _ rfl,by simpa[Nat.add_assoc] using hc 1 _ rfl,by simpa[Nat.add_assoc] using hc 2 _ rfl,by simpa[Nat.add_assoc] using hc 3 _ rfl⟩
structure Mtl where
 D:Int
 S:List Int
def SlM(w:World)(A:Option Addr)(n:Nat)(L:List Mtl):Prop:=
 n=L.length/\(0<n->∃ b o,A=some ⟨b,o,none⟩/\b<w.heap.size/\∀ i r,L[i]?=some r->∃ Ai ci,w.cell? ⟨b,o+i*2,none⟩=some (.int .i64 r.D)/\w.cell? ⟨b,o+i*2+1,none⟩=some (.slice Ai r.S.length ci)/\SlE intE 1 w Ai r.S.length r.S/\r.S.length<=9223372036854775807)
theorem SlM.below{w w':World}{A:Option Addr}{n:Nat}{L:List Mtl}(h:SlM w A n L)(hb:Below w.heap.size w w'):SlM w' A n L:=
 ⟨h.1,λhn=>by
  obtain⟨b,o,hA,hlt,hc⟩:=h.2 hn
  exact⟨b,o,hA,Nat.lt_of_lt_of_le hlt hb.size,λi r hr=>by
   obtain⟨Ai,ci,h0,h1,h2,h3⟩:=hc i r hr
   exact⟨Ai,ci,(hb.cell hlt).trans h0,(hb.cell hlt).trans h1,h2.below hb,h3⟩⟩⟩
theorem SlM.at_{w:World}{A:Option Addr}{n k:Nat}{L:List Mtl}(h:SlM w A n L)(hk:k<n):∃ b o r Ai ci,A=some ⟨b,o,none⟩/\b<w.heap.size/\L[k]?=some r/\w.cell? ⟨b,o+k*2,none⟩=some (.int .i64 r.D)/\w.cell? ⟨b,o+k*2+1,none⟩=some (.slice Ai r.S.length ci)/\SlE intE 1 w Ai r.S.length r.S/\r.S.length<=9223372036854775807:=by
 obtain⟨h1,h2⟩:=h
 obtain⟨b,o,hA,hb,hc⟩:=h2 (by omega)
 have hr:L[k]?=some (L[k]'(by omega)):=List.getElem?_eq_getElem (by omega)
 obtain⟨Ai,ci,a1,a2,a3,a4⟩:=hc k _ hr
 exact⟨b,o,_,Ai,ci,hA,hb,hr,a1,a2,a3,a4⟩
def metB(g:Int)(m:Mtl):Bool:=m.S.all (λs=>inBT s 1 100000)&&(inBT m.D 1 30000&&decide ((m.S.length:Int)=g))
def crsB(c:Crs):Bool:=inBT c.L 1 100000&&inBT c.F 1 10000000&&inBT (wrap64 (c.T+1)) 1 1000000001&&inBT (wrap64 (c.W+1)) 1 1001
theorem inW_is(x lim:Int)(b:Bool)(w:World)(h:inBT x 1 lim=b) :
 Calls Tryz.prog 88 #[.int .i64 x,.int .i64 lim] w λe w'=>e=.returned (.bool b)/\w=w':=by
 subst h;exact inW_any x lim w
theorem metal_any(A:Option Addr)(n c:Nat)(D g:Int)(S:List Int)(w:World)(hS:SlE intE 1 w A n S)(hn:n<=9223372036854775807) :
 Calls Tryz.prog 89 #[.agg #[.int .i64 D,.slice A n c],.int .i64 g] w λe w'=>e=.returned (.bool (metB g ⟨D,S⟩))/\Below w.heap.size w w':=by
 refine calls_cps ?_
 intro R hR
 have HR:=zh (show ∀ b,b=metB g ⟨D,S⟩->∀ W,Below w.heap.size w W->R (.returned (.bool b)) W from λb hb W h=>hR.out _ _ ⟨by rw[hb],h⟩)
 unfold metB at HR
 dsimp only at HR
 have hL:=zh hS.1
 clear hR
 go_enter Tryz.func89,Tryz.ntmps89
 go_upto_region 2 with fail
 obtain⟨w1,hw1⟩:∃ w1,w.alloc (.cells #[.int .i64 D,.slice A n c] 41)=w1:=⟨_,rfl⟩
 have hb1:Below w.heap.size w w1:=by rw[← hw1];exact below_new w _
 have hx:w1.heap[w.heap.size]?=some (.cells #[.int .i64 D,.slice A n c] 41 (0,0)):=by rw[← hw1];exact heap_alloc_new w _
 obtain⟨c0,c1,_⟩:=cells2 hx
 have hs1:=hS.below hb1
 rw[hw1]
 clear hw1 hS hx
 go_loopw [10] (λi wr=>∃ k:Nat,k<=n/\i=.int .i64 k/\wr=w1/\Hid ((S.take k).all (λx=>inBT x 1 100000)=true)) (λi _=>n-(intOf i).toNat)
 case atStart=>exact⟨0,Nat.zero_le _,rfl,rfl,zh (by simp)⟩
 case round =>
  obtain⟨k,hk,rfl,rfl,Hall⟩:=hrel
  by_cases hlt:k<n
  ·obtain⟨b,o,x,rfl,hbl,hs,q0⟩:=hs1.at1 hlt
   have i1:(k:Int)<(n:Int):=by omega
   have Hs:=zh hs
   clear hs
   cases hx:inBT x 1 100000
   ·have Hf:=zh (HR.out false (by rw[all_false_ofT _ _ _ _ Hs.out hx];rfl) _ hb1)
    go_wp2_with ((with_reducible refine (inW_is _ _ _ _ hx).mono ?_);rintro e w' ⟨rfl,rfl⟩)
    exact Hf.out
   ·have Ha:=zh (all_of_takeT _ _ _ _ Hall.out Hs.out hx)
    go_wp2_with ((with_reducible refine (inW_is _ _ _ _ hx).mono ?_);rintro e w' ⟨rfl,rfl⟩)
    exact⟨⟨k+1,by omega,by go_num,by trivial,Ha⟩,by simp[intOf];omega⟩
  ·obtain rfl:k=n:=by omega
   have h:=Hall.out
   rw[List.take_of_length_le (by rw[hL.out];exact Nat.le_refl _)] at h
   rw[h,Bool.true_and,← hL.out] at HR
   have Hf:=zh (λb hb=>HR.out b hb _ hb1)
   clear h HR Hall hs1
   cases hD:inBT D 1 30000
   ·go_wp2_with ((with_reducible refine (inW_is _ _ _ _ hD).mono ?_);rintro e w' ⟨rfl,rfl⟩)
    exact Hf.out _ (by rw[hD];rfl)
   ·by_cases hm:(k:Int)=g
    ·go_wp2_with ((with_reducible refine (inW_is _ _ _ _ hD).mono ?_);rintro e w' ⟨rfl,rfl⟩)
     exact Hf.out _ (by simp[hD,hm])
    ·go_wp2_with ((with_reducible refine (inW_is _ _ _ _ hD).mono ?_);rintro e w' ⟨rfl,rfl⟩)
     exact Hf.out _ (by simp[hD,hm])
theorem course_any(c:Crs)(w:World) :
 Calls Tryz.prog 90 #[c.val] w λe w'=>e=.returned (.bool (crsB c))/\Below w.heap.size w w':=by
 obtain⟨L,F,T,U⟩:=c
 refine calls_cps ?_
 intro R hR
 have HR:=zh (show ∀ b,b=crsB ⟨L,F,T,U⟩->R (.returned (.bool b)) (w.alloc (.cells #[.int .i64 L,.int .i64 F,.int .i64 T,.int .i64 U] 47)) from λb hb=>hR.out _ _ ⟨by rw[hb],below_new w _⟩)
 unfold crsB at HR
 unfold Crs.val
 dsimp only at HR ⊢
 clear hR
 cases h0:inBT L 1 100000
 ·go_enter Tryz.func90,Tryz.ntmps90
  go_wp2_with ((with_reducible refine (inW_is _ _ _ _ (by assumption)).mono ?_);rintro e w' ⟨rfl,rfl⟩)
  exact HR.out _ (by simp[h0])
 obtain⟨l0,l1⟩:=inB_iffW.1 h0
 cases h1:inBT F 1 10000000
 ·go_enter Tryz.func90,Tryz.ntmps90
  go_wp2_with ((with_reducible refine (inW_is _ _ _ _ (by assumption)).mono ?_);rintro e w' ⟨rfl,rfl⟩)
  exact HR.out _ (by simp[h0,h1])
 cases h2:inBT (wrap64 (T+1)) 1 1000000001
 ·go_enter Tryz.func90,Tryz.ntmps90
  go_wp2_with ((with_reducible refine (inW_is _ _ _ _ (by assumption)).mono ?_);rintro e w' ⟨rfl,rfl⟩)
  exact HR.out _ (by simp[h0,h1,h2])
 cases h3:inBT (wrap64 (U+1)) 1 1001
 ·go_enter Tryz.func90,Tryz.ntmps90
  go_wp2_with ((with_reducible refine (inW_is _ _ _ _ (by assumption)).mono ?_);rintro e w' ⟨rfl,rfl⟩)
  exact HR.out _ (by simp[h0,h1,h2,h3])
 ·go_enter Tryz.func90,Tryz.ntmps90
  go_wp2_with ((with_reducible refine (inW_is _ _ _ _ (by assumption)).mono ?_);rintro e w' ⟨rfl,rfl⟩)
  exact HR.out _ (by simp[h0,h1,h2,h3])
end
end
section
section
open Go.RowKit
structure Sc where
 co:List Crs
 me:List Mtl
 ga:List Int
 sf:Int
 ch:Int
structure ScM(w:World)(A:Option Addr)(n c:Nat)(B:Option Addr)(m d:Nat)(G:Option Addr)(k e:Nat)(x:Sc):Prop where
 co:SlE crsE 4 w A n x.co
 me:SlM w B m x.me
 ga:SlE intE 1 w G k x.ga
 n:n<=9223372036854775807
 m:m<=9223372036854775807
 k:k<=9223372036854775807
theorem ScM.below{w w':World}{A B G:Option Addr}{n c m d k e:Nat}{x:Sc}(h:ScM w A n c B m d G k e x)(hb:Below w.heap.size w w'):ScM w' A n c B m d G k e x:=
 ⟨h.co.below hb,h.me.below hb,h.ga.below hb,h.n,h.m,h.k⟩
def scA(A:Option Addr)(n c:Nat)(B:Option Addr)(m d:Nat)(G:Option Addr)(k e:Nat)(x:Sc):Array Value:=#[.slice A n c,.slice B m d,.slice G k e,.int .i64 x.sf,.int .i64 x.ch]
def gauB(ga:List Int)(i:Nat):Bool:=inBT (ga.getD i 0) 1 2000&&(decide (i=0)||decide (ga.getD i 0<ga.getD (i-1) 0))
def headB(n m k:Nat)(sf ch:Int):Bool:=inBT (n:Int) 1 96&&inBT (m:Int) 1 4&&inBT (k:Int) 1 16&&inBT sf 1 100&&decide (0<=ch)&&decide (ch<=96)
def scB(x:Sc):Bool:=headB x.co.length x.me.length x.ga.length x.sf x.ch&&(List.range x.ga.length).all (gauB x.ga)&&x.me.all (metB x.ga.length)&&x.co.all crsB
theorem take_all_succ{α:Type}(p:α->Bool)(l:List α)(k:Nat)(x:α)(hx:l[k]?=some x):(l.take (k+1)).all p=((l.take k).all p&&p x):=by
 rw[List.take_add_one,hx,List.all_append];simp
theorem range_all_succ(p:Nat->Bool)(k:Nat):(List.range (k+1)).all p=((List.range k).all p&&p k):=by
 rw[List.range_succ,List.all_append];simp
theorem cells5{W:World}{b:Nat}{t:TypeId}{u0 u1 u2 u3 u4:Value}(h:W.heap[b]?=some (.cells #[u0,u1,u2,u3,u4] t (0,0))) :
 W.cell? ⟨b,0,none⟩=some u0/\W.cell? ⟨b,1,none⟩=some u1/\W.cell? ⟨b,2,none⟩=some u2/\W.cell? ⟨b,3,none⟩=some u3/\W.cell? ⟨b,4,none⟩=some u4/\(∀ j,W.frozen? ⟨b,j,none⟩=false):=
 ⟨by rw[cell_of_row _ _ 0 _ _ (0,0) h];rfl,by rw[cell_of_row _ _ 1 _ _ (0,0) h];rfl,by rw[cell_of_row _ _ 2 _ _ (0,0) h];rfl,by rw[cell_of_row _ _ 3 _ _ (0,0) h];rfl,by rw[cell_of_row _ _ 4 _ _ (0,0) h];rfl,λj=>by simp[World.frozen?,h]⟩
theorem wcheck_any(A:Option Addr)(n c:Nat)(B:Option Addr)(m d:Nat)(G:Option Addr)(k e:Nat)(x:Sc)(w:World)(h:ScM w A n c B m d G k e x) :
 Calls Tryz.prog 36 #[.agg (scA A n c B m d G k e x)] w λe w'=>e=.returned (.int .i64 (if scB x then 0 else 1))/\Below w.heap.size w w':=by
 obtain⟨hco,hme,hga,hn,hm,hk⟩:=h
 obtain⟨co,me,ga,sf,ch⟩:=x
 refine calls_cps ?_
 intro R hR
 have HR:=zh (show ∀ i,i=(if scB ⟨co,me,ga,sf,ch⟩ then (0:Int) else 1)->∀ W,Below w.heap.size w W->R (.returned (.int .i64 i)) W from λi hi W g=>hR.out _ _ ⟨by rw[hi],g⟩)
 unfold scB at HR
 unfold scA
 dsimp only at HR hco hme hga ⊢
 have ln:=hco.1
 have lm:=hme.1
 have lk:=hga.1
 rw[← ln,← lm,← lk] at HR
 have Ln:=zh ln
 have Lm:=zh lm
 have Lk:=zh lk
 obtain⟨B0,hB0⟩:∃ B0,headB n m k sf ch=B0:=⟨_,rfl⟩
 rw[hB0] at HR
 have HB0:=zh hB0
 clear hR hB0 ln lm lk
 go_enter Tryz.func36,Tryz.ntmps36
 go_upto_region 1 with fail
 obtain⟨w1,hw1⟩:∃ w1,w.alloc (.cells #[.slice A n c,.slice B m d,.slice G k e,.int .i64 sf,.int .i64 ch] 45)=w1:=⟨_,rfl⟩
 have hb1:Below w.heap.size w w1:=by rw[← hw1];exact below_new w _
 have hx:w1.heap[w.heap.size]?=some (.cells #[.slice A n c,.slice B m d,.slice G k e,.int .i64 sf,.int .i64 ch] 45 (0,0)):=by rw[← hw1];exact heap_alloc_new w _
 have hsz:w.heap.size<w1.heap.size:=by rw[← hw1];simp
 have Hco:=zh (hco.below hb1)
 have Hme:=zh (hme.below hb1)
 have Hga:=zh (hga.below hb1)
 obtain⟨bx,hbx⟩:∃ bx,w.heap.size=bx:=⟨_,rfl⟩
 have Hx:=zh hx
 have Hsz:=zh hsz
 have Hb1:=zh hb1
 rw[hbx] at Hx Hsz ⊢
 rw[hw1]
 have HR1:=zh (λi hi W (g:Below w1.heap.size w1 W)=>HR.out i hi W (hb1.trans (g.mono hb1.size)))
 clear hx hw1 hco hme hga hsz hb1 hbx HR Hb1
 go_cut [3] (λs3 wx=>s3=.bool B0/\wx=w1)
 case first =>
  obtain⟨c0,c1,c2,c3,c4,_⟩:=cells5 Hx.out
  go_wp2_with ((with_reducible refine (inW_any _ _ _).mono ?_);rintro e w' ⟨rfl,rfl⟩)
  all_goals
   go_meet
   refine⟨?_,rfl⟩
   rw[← HB0.out]
   simp_all [inBT,headB]
   try omega
 case rest =>
  obtain⟨rfl,rfl⟩:=hcut
  obtain⟨c0,c1,c2,c3,c4,_⟩:=cells5 Hx.out
  go_upto_region 3 with fail
  go_loopw [3,4,5,44] (λs3 _ _ s44 wr=>∃ (i:Nat) (bk:Bool),s44=.int .i64 (i:Nat)/\s3=.bool bk/\i<=k/\Hid (bk=(B0&&(List.range i).all (gauB ga)))/\wc=wr) (λ_ _ _ s44 _=>k-(intOf s44).toNat)
  case atStart=>exact⟨0,B0,rfl,rfl,Nat.zero_le _,zh (by simp),rfl⟩
  case round =>
   obtain⟨i,bk,rfl,rfl,hi,HK,rfl⟩:=hrel
   by_cases hlt:i<k
   ·have i1:(i:Int)<(k:Int):=by omega
    obtain⟨b,o,y,rfl,hbl,hy,q0⟩:=Hga.out.at1 hlt
    have hyd:=getD_someW hy
    have Hn:=zh (show ∀ b',b'=(bk&&gauB ga i)->b'=(B0&&(List.range (i+1)).all (gauB ga)) from λb' h=>by rw[h,HK.out,range_all_succ,Bool.and_assoc])
    unfold gauB at Hn
    rw[hyd] at Hn
    clear hy hyd HK
    cases bk with
    |false =>
     go_wp2_with fail
     exact⟨⟨i+1,false,by go_num,rfl,by omega,zh (Hn.out _ rfl),by trivial⟩,by simp[intOf];omega⟩
    |true =>
     cases hr:inBT y 1 2000
     ·rw[hr] at Hn
      go_wp2_with ((with_reducible refine (inW_is _ _ _ _ hr).mono ?_);rintro e w' ⟨rfl,rfl⟩)
      exact⟨⟨i+1,false,by go_num,rfl,by omega,zh (Hn.out _ rfl),by trivial⟩,by simp[intOf];omega⟩
     ·rw[hr] at Hn
      rcases Nat.eq_zero_or_pos i with h0|h0
      ·subst h0
       rw[Nat.add_zero] at q0
       go_wp2_with ((with_reducible refine (inW_is _ _ _ _ hr).mono ?_);rintro e w' ⟨rfl,rfl⟩)
       exact⟨⟨1,true,by go_num,rfl,by omega,zh (Hn.out _ rfl),by trivial⟩,by simp[intOf];omega⟩
      ·obtain⟨j,rfl⟩:∃ j,i=j+1:=⟨i-1,by omega⟩
       obtain⟨b',o',z,e',hbl',hz,q1⟩:=Hga.out.at1 (show j<k by omega)
       simp only[Option.some.injEq,Addr.mk.injEq,and_true] at e'
       obtain⟨rfl,rfl⟩:=e'
       have hzd:=getD_someW hz
       rw[show j+1-1=j from rfl,hzd,decide_eq_false (show ¬ j+1=0 by omega)] at Hn
       clear hz hzd
       have i2:wrap64 (((j+1:Nat):Int)-1)=(j:Int):=by unfold wrap64;omega
       have i3:((j+1:Nat):Int)≠0:=by omega
       have i4:(j:Int)<(k:Int):=by omega
       have i5:((j+1:Nat):Int)-1=(j:Int):=by omega
       by_cases hyz:y<z
       ·go_wp2_with ((with_reducible refine (inW_is _ _ _ _ hr).mono ?_);rintro e w' ⟨rfl,rfl⟩)
        exact⟨⟨j+2,true,by go_num,rfl,by omega,zh (Hn.out _ (by rw[decide_eq_true hyz];rfl)),by trivial⟩,by simp[intOf];omega⟩
       ·have hyz':z<=y:=by omega
        go_wp2_with ((with_reducible refine (inW_is _ _ _ _ hr).mono ?_);rintro e w' ⟨rfl,rfl⟩)
        exact⟨⟨j+2,_,by go_num,rfl,by omega,zh (Hn.out _ (by rw[beq_eq_false_iff_ne.2 (show ((j:Int)+1)≠0 by omega)];rfl)),by trivial⟩,by simp[intOf];omega⟩
   ·obtain rfl:k=i:=by omega
    obtain⟨B1,hB1⟩:∃ B1,(B0&&(List.range k).all (gauB ga))=B1:=⟨_,rfl⟩
    have hk1:=HK.out
    rw[hB1] at hk1 HR1
    have hk2:=hk1.symm
    clear hk1
    subst hk2
    clear hB1 HB0 hlt HK
    go_upto_region 8 with fail
    go_loopw [3,7,72] (λs3 _ s72 wr=>∃ (i:Nat) (bk:Bool),s72=.int .i64 (i:Nat)/\s3=.bool bk/\i<=m/\Hid (bk=(B1&&(me.take i).all (metB k)))/\Hid (Below wc.heap.size wc wr)) (λ_ _ s72 _=>m-(intOf s72).toNat)
    case atStart=>exact⟨0,B1,rfl,rfl,Nat.zero_le _,zh (by simp),zh (Below.refl _ _)⟩
    case round =>
     obtain⟨i,bk,rfl,rfl,hi,HK,HW⟩:=hrel
     obtain⟨c0,c1,c2,c3,c4,_⟩:=cells5 (below_cells HW.out Hsz.out Hx.out)
     have hbx2:bx<wr.heap.size:=Nat.lt_of_lt_of_le Hsz.out HW.out.size
     by_cases hlt:i<m
     ·have i1:(i:Int)<(m:Int):=by omega
      obtain⟨b,o,y,Ai,ci,rfl,hbl,hy,q0,q1,hs,hl⟩:=(Hme.out.below HW.out).at_ hlt
      have Hn:=zh (show ∀ b',b'=(bk&&metB k y)->b'=(B1&&(me.take (i+1)).all (metB k)) from λb' h=>by rw[h,HK.out,take_all_succ _ _ _ _ hy,Bool.and_assoc])
      have Hm:=zh (λW g=>metal_any Ai y.S.length ci y.D k y.S W g hl)
      have Hs:=zh hs
      clear hy HK hs hl
      cases bk with
      |false =>
       go_wp2_with fail
       exact⟨⟨i+1,false,by go_num,rfl,by omega,zh (Hn.out _ rfl),zh (HW.out.alloc HW.out.size _)⟩,by simp[intOf];omega⟩
      |true =>
       go_wp2_with ((with_reducible refine (Hm.out _ (Hs.out.alloc _)).mono ?_);rintro e w3 ⟨rfl,hb3⟩;have Hb3:=zh ((below_new wr _).trans (hb3.mono (by simp)));clear hb3)
       exact⟨⟨i+1,_,by go_num,rfl,by omega,zh (Hn.out _ rfl),zh (HW.out.trans (Hb3.out.mono HW.out.size))⟩,by simp[intOf];omega⟩
     ·obtain rfl:m=i:=by omega
      have hk1:=HK.out
      rw[List.take_of_length_le (by rw[Lm.out];exact Nat.le_refl _)] at hk1
      obtain⟨B2,hB2⟩:∃ B2,(B1&&me.all (metB k))=B2:=⟨_,rfl⟩
      rw[hB2] at hk1 HR1
      have hk2:=hk1.symm
      clear hk1
      subst hk2
      clear hB2 HK hlt
      go_upto_region 13 with fail
      go_loopw [3,9,88] (λs3 _ s88 wx=>∃ (i:Nat) (bk:Bool),s88=.int .i64 (i:Nat)/\s3=.bool bk/\i<=n/\Hid (bk=(B2&&(co.take i).all crsB))/\Hid (Below wc.heap.size wc wx)) (λ_ _ s88 _=>n-(intOf s88).toNat)
      case atStart=>exact⟨0,B2,rfl,rfl,Nat.zero_le _,zh (by simp),HW⟩
      case round =>
       obtain⟨i,bk,rfl,rfl,hi,HK,HV⟩:=hrel
       by_cases hlt:i<n
       ·have i1:(i:Int)<(n:Int):=by omega
        obtain⟨b,o,y,rfl,hbl,hy,q0,q1,q2,q3⟩:=(Hco.out.below HV.out).at4c hlt
        have Hn:=zh (show ∀ b',b'=(bk&&crsB y)->b'=(B2&&(co.take (i+1)).all crsB) from λb' h=>by rw[h,HK.out,take_all_succ _ _ _ _ hy,Bool.and_assoc])
        have Hm:=zh (λW=>course_any y W)
        unfold Crs.val at Hm
        clear hy HK
        cases bk with
        |false =>
         go_wp2_with fail
         exact⟨⟨i+1,false,by go_num,rfl,by omega,zh (Hn.out _ rfl),zh (HV.out.alloc HV.out.size _)⟩,by simp[intOf];omega⟩
        |true =>
         go_wp2_with ((with_reducible refine (Hm.out _).mono ?_);rintro e w3 ⟨rfl,hb3⟩;have Hb3:=zh ((below_new wr _).trans (hb3.mono (by simp)));clear hb3)
         exact⟨⟨i+1,_,by go_num,rfl,by omega,zh (Hn.out _ rfl),zh (HV.out.trans (Hb3.out.mono HV.out.size))⟩,by simp[intOf];omega⟩
       ·obtain rfl:n=i:=by omega
        have hk1:=HK.out
        rw[List.take_of_length_le (by rw[Ln.out];exact Nat.le_refl _)] at hk1
        rw[← hk1] at HR1
        have Hf:=zh (λi hi=>HR1.out i hi _ HV.out)
        clear hk1 HR1 HK
        cases bk
        ·go_wp2_with fail
         exact Hf.out _ rfl
        ·go_wp2_with fail
         exact Hf.out _ rfl
end
end
section
section
open Go.RowKit
structure Pk(x:Sc)(i j:Nat)(mt:Mtl)(s g:Int):Prop where
 hme:x.me[i]?=some mt
 hs:mt.S[j]?=some s
 hg:x.ga[j]?=some g
 D:1<=mt.D/\mt.D<=30000
 sr:1<=s/\s<=100000
 gr:1<=g/\g<=2000
 sf:1<=x.sf/\x.sf<=100
structure Crs.Ok(c:Crs):Prop where
 L:1<=c.L/\c.L<=100000
 F:1<=c.F/\c.F<=10000000
 T:0<=c.T/\c.T<=1000000000
 W:0<=c.W/\c.W<=1000
theorem getE_lt{α:Type}{l:List α}{i:Nat}{x:α}(h:l[i]?=some x):i<l.length:=(List.getElem?_eq_some_iff.1 h).1
def pickV(i j:Nat):Value:=.agg #[.int .i64 (i:Nat),.int .i64 (j:Nat)]
def pricF(d g:Int)(c:Crs):Int:=c.W*max ((pullN d g c.L c.F:Nat)-c.T) (-((pullN d g c.L c.F:Nat)-c.T))
theorem pric_range{d g:Int}{c:Crs}(hd:d<=30000)(hg:g<=2000)(hc:c.Ok):0<=pricF d g c/\pricF d g c<=4000000000000000:=by
 have h:=pullN_lt hd hg hc.L.2 hc.F.2
 unfold pricF
 obtain⟨t,ht⟩:∃ t,pullN d g c.L c.F=t:=⟨_,rfl⟩
 rw[ht] at h ⊢
 obtain⟨m,hm⟩:∃ m,max ((t:Int)-c.T) (-((t:Int)-c.T))=m:=⟨_,rfl⟩
 rw[hm]
 have h1:=hc.T
 have h2:=hc.W
 have m0:0<=m:=by omega
 have m1:m<=4000000000000:=by omega
 exact⟨Int.mul_nonneg h2.1 m0,Int.le_trans (Int.mul_le_mul h2.2 m1 m0 (by omega)) (by decide)⟩
theorem strong_any(A:Option Addr)(n c:Nat)(B:Option Addr)(m d:Nat)(G:Option Addr)(k e:Nat)(x:Sc)(y:Crs)(i j:Nat)(mt:Mtl)(s g:Int)(w:World)(h:ScM w A n c B m d G k e x)(hp:Pk x i j mt s g)(hy:y.Ok) :
 Calls Tryz.prog 42 #[.agg (scA A n c B m d G k e x),y.val,pickV i j] w λe w'=>e=.returned (.bool (holdsB mt.D s y.L y.F x.sf))/\Below w.heap.size w w':=by
 obtain⟨hco,hme,hga,hn,hm,hk⟩:=h
 obtain⟨p1,p2,p3,p4,p5,p6,p7⟩:=hp
 obtain⟨co,me,ga,sf,ch⟩:=x
 obtain⟨cL,cF,cT,cW⟩:=y
 refine calls_cps ?_
 intro R hR
 unfold scA Crs.val pickV
 dsimp only at *
 have HR:=zh (show ∀ W,Below w.heap.size w W->R (.returned (.bool (holdsB mt.D s cL cF sf))) W from λW g=>hR.out _ _ ⟨rfl,g⟩)
 have Hh:=zh (λW=>holds_any mt.D s cL cF sf W p4 p5 hy.L hy.F p7)
 have hi:i<m:=by have:=getE_lt p1;have:=hme.1;omega
 have i0:(i:Int)<(m:Int):=by omega
 have hj:j<mt.S.length:=getE_lt p2
 have j0:(j:Int)<(mt.S.length:Int):=by omega
 obtain⟨b,o,r,Ai,ci,rfl,hbl,hr,q0,q1,hs,hl⟩:=hme.at_ hi
 obtain rfl:=Option.some.inj (hr.symm.trans p1)
 obtain⟨b',o',s',rfl,hbl',hs',r0⟩:=hs.at1 hj
 obtain rfl:=Option.some.inj (hs'.symm.trans p2)
 clear hs' hr hR p4 p5 p6 p7 hy p3 p2 p1 hs
 obtain⟨X,hX⟩:∃ X,holdsB r.D s' cL cF sf=X:=⟨_,rfl⟩
 rw[hX] at HR Hh
 clear hX
 go_enter Tryz.func42,Tryz.ntmps42
 go_upto_region 1 with fail
 obtain⟨w1,hw1⟩:∃ w1,w.alloc (.cells #[.slice A n c,.slice (some ⟨b,o,none⟩) m d,.slice G k e,.int .i64 sf,.int .i64 ch] 45)=w1:=⟨_,rfl⟩
 obtain⟨w2,hw2⟩:∃ w2,w1.alloc (.cells #[.int .i64 cL,.int .i64 cF,.int .i64 cT,.int .i64 cW] 47)=w2:=⟨_,rfl⟩
 obtain⟨w3,hw3⟩:∃ w3,w2.alloc (.cells #[.int .i64 (i:Nat),.int .i64 (j:Nat)] 55)=w3:=⟨_,rfl⟩
 have b1:Below w.heap.size w w1:=by rw[← hw1];exact below_new w _
 have b2:Below w1.heap.size w1 w2:=by rw[← hw2];exact below_new w1 _
 have b3:Below w2.heap.size w2 w3:=by rw[← hw3];exact below_new w2 _
 have z1:w1.heap.size=w.heap.size+1:=by rw[← hw1];simp
 have z2:w2.heap.size=w.heap.size+1+1:=by rw[← hw2];simp[z1]
 have z3:w3.heap.size=w.heap.size+1+1+1:=by rw[← hw3];simp[z2]
 have x1:w1.heap[w.heap.size]?=some (.cells #[.slice A n c,.slice (some ⟨b,o,none⟩) m d,.slice G k e,.int .i64 sf,.int .i64 ch] 45 (0,0)):=by rw[← hw1];exact heap_alloc_new w _
 have x2:w2.heap[w.heap.size+1]?=some (.cells #[.int .i64 cL,.int .i64 cF,.int .i64 cT,.int .i64 cW] 47 (0,0)):=by rw[← hw2,← z1];exact heap_alloc_new w1 _
 have x3:w3.heap[w.heap.size+1+1]?=some (.cells #[.int .i64 (i:Nat),.int .i64 (j:Nat)] 55 (0,0)):=by rw[← hw3,← z2];exact heap_alloc_new w2 _
 have b23:=b2.trans (b3.mono b2.size)
 have b123:=b1.trans (b23.mono b1.size)
 have y1:=below_cells b23 (by omega) x1
 have y2:=below_cells b3 (by omega) x2
 rw[hw1,hw2,hw3]
 obtain⟨u0,u1,u2,u3,u4,-⟩:=cells5 y1
 obtain⟨v0,v1,v2,v3,-⟩:=cells4 y2
 obtain⟨t0,t1,-⟩:=cells2 x3
 have l0:w.heap.size<w3.heap.size:=by omega
 have l1:w.heap.size+1<w3.heap.size:=by omega
 have l2:w.heap.size+1+1<w3.heap.size:=by omega
 have Hb3:=zh b123
 obtain⟨k0,hk0⟩:∃ k0,w.heap.size=k0:=⟨_,rfl⟩
 have q0:=(b123.cell hbl).trans q0
 have q1:=(b123.cell hbl).trans q1
 have r0:=(b123.cell hbl').trans r0
 have hbl:b<w3.heap.size:=by omega
 have hbl':b'<w3.heap.size:=by omega
 clear hco hme hga
 rw[hk0] at u0 u1 u2 u3 u4 v0 v1 v2 v3 t0 t1 l0 l1 l2 ⊢
 clear hw1 hw2 hw3 b1 b2 b3 z1 z2 z3 x1 x2 x3 b23 b123 y1 y2 hk0
 go_upto_region 2 with fail
 obtain⟨w4,hw4⟩:∃ w4,w3.alloc (.cells #[.int .i64 r.D,.slice (some ⟨b',o',none⟩) r.S.length ci] 41)=w4:=⟨_,rfl⟩
 have b4:Below w3.heap.size w3 w4:=by rw[← hw4];exact below_new w3 _
 have z4:w4.heap.size=w3.heap.size+1:=by rw[← hw4];simp
 have x4:w4.heap[w3.heap.size]?=some (.cells #[.int .i64 r.D,.slice (some ⟨b',o',none⟩) r.S.length ci] 41 (0,0)):=by rw[← hw4];exact heap_alloc_new w3 _
 obtain⟨m0,m1,-⟩:=cells2 x4
 have u3:=(b4.cell l0).trans u3
 have v0:=(b4.cell l1).trans v0
 have v1:=(b4.cell l1).trans v1
 have t1:=(b4.cell l2).trans t1
 have r0:=(b4.cell hbl').trans r0
 have Hb4:=zh (Hb3.out.trans (b4.mono Hb3.out.size))
 rw[hw4]
 have l3:w3.heap.size<w4.heap.size:=by omega
 have l0:k0<w4.heap.size:=by omega
 have l1:k0+1<w4.heap.size:=by omega
 have l2:k0+1+1<w4.heap.size:=by omega
 have hbl':b'<w4.heap.size:=by omega
 obtain⟨k4,hk4⟩:∃ k4,w3.heap.size=k4:=⟨_,rfl⟩
 rw[hk4] at m0 m1 l3 ⊢
 clear hw4 b4 z4 x4 u0 u1 u2 u4 v2 v3 t0 q0 q1 hk4
 obtain⟨ι,mk,hmk⟩:=cls_exW w4.heap.size w4
 have hd:=hmk.drew
 have hnei:=hmk.ne
 have m0:=λx=>((hmk.below x).cell l3).trans m0
 have m1:=λx=>((hmk.below x).cell l3).trans m1
 have u3:=λx=>((hmk.below x).cell l0).trans u3
 have v0:=λx=>((hmk.below x).cell l1).trans v0
 have v1:=λx=>((hmk.below x).cell l1).trans v1
 have t1:=λx=>((hmk.below x).cell l2).trans t1
 have r0:=λx=>((hmk.below x).cell hbl').trans r0
 have HC:=zh (λx=>hmk.call (Hh.out (mk x)))
 have Hbl:=zh (λx=>hmk.below x)
 clear hmk
 refine wp_region_clsW (C:=λw'=>∃ x,w'=mk x) (by kernel_rfl) (by kernel_rfl) hd ?_
 repeat (go_big_quiet_step (with_reducible exact HC.out _))
 refine wpQuiet_nil ?_
 intro _ hw'
 obtain⟨x,rfl⟩:=hw'
 have Hf:=zh (HR.out _ (Hb4.out.trans ((Hbl.out x).mono Hb4.out.size)))
 clear HR Hbl Hb4 HC
 go_wp2_with fail
 exact Hf.out
theorem tight_any(A:Option Addr)(n c:Nat)(B:Option Addr)(m d:Nat)(G:Option Addr)(k e:Nat)(x:Sc)(y:Crs)(i j:Nat)(mt:Mtl)(s g:Int)(w:World)(h:ScM w A n c B m d G k e x)(hp:Pk x i j mt s g)(hy:y.Ok) :
 Calls Tryz.prog 41 #[.agg (scA A n c B m d G k e x),y.val,pickV i j] w λe w'=>e=.returned (.int .i64 (pullN mt.D g y.L y.F:Nat))/\Below w.heap.size w w':=by
 obtain⟨hco,hme,hga,hn,hm,hk⟩:=h
 obtain⟨p1,p2,p3,p4,p5,p6,p7⟩:=hp
 obtain⟨co,me,ga,sf,ch⟩:=x
 obtain⟨cL,cF,cT,cW⟩:=y
 refine calls_cps ?_
 intro R hR
 unfold scA Crs.val pickV
 dsimp only at *
 have HR:=zh (show ∀ W,Below w.heap.size w W->R (.returned (.int .i64 (pullN mt.D g cL cF:Nat))) W from λW g=>hR.out _ _ ⟨rfl,g⟩)
 have Hh:=zh (λW=>pull_any mt.D g cL cF W p4 p6 hy.L hy.F)
 have hi:i<m:=by have:=getE_lt p1;have:=hme.1;omega
 have i0:(i:Int)<(m:Int):=by omega
 have hj:j<k:=by have:=getE_lt p3;have:=hga.1;omega
 have j0:(j:Int)<(k:Int):=by omega
 obtain⟨b,o,r,Ai,ci,rfl,hbl,hr,q0,q1,hs,hl⟩:=hme.at_ hi
 obtain rfl:=Option.some.inj (hr.symm.trans p1)
 obtain⟨b',o',s',rfl,hbl',hs',r0⟩:=hga.at1 hj
 obtain rfl:=Option.some.inj (hs'.symm.trans p3)
 clear hs' hr hR p4 p5 p6 p7 hy p3 p2 p1 hs
 obtain⟨X,hX⟩:∃ X,pullN r.D s' cL cF=X:=⟨_,rfl⟩
 rw[hX] at HR Hh
 clear hX
 go_enter Tryz.func41,Tryz.ntmps41
 go_upto_region 1 with fail
 obtain⟨w1,hw1⟩:∃ w1,w.alloc (.cells #[.slice A n c,.slice (some ⟨b,o,none⟩) m d,.slice (some ⟨b',o',none⟩) k e,.int .i64 sf,.int .i64 ch] 45)=w1:=⟨_,rfl⟩
 obtain⟨w2,hw2⟩:∃ w2,w1.alloc (.cells #[.int .i64 cL,.int .i64 cF,.int .i64 cT,.int .i64 cW] 47)=w2:=⟨_,rfl⟩
 obtain⟨w3,hw3⟩:∃ w3,w2.alloc (.cells #[.int .i64 (i:Nat),.int .i64 (j:Nat)] 55)=w3:=⟨_,rfl⟩
 have b1:Below w.heap.size w w1:=by rw[← hw1];exact below_new w _
 have b2:Below w1.heap.size w1 w2:=by rw[← hw2];exact below_new w1 _
 have b3:Below w2.heap.size w2 w3:=by rw[← hw3];exact below_new w2 _
 have z1:w1.heap.size=w.heap.size+1:=by rw[← hw1];simp
 have z2:w2.heap.size=w.heap.size+1+1:=by rw[← hw2];simp[z1]
 have z3:w3.heap.size=w.heap.size+1+1+1:=by rw[← hw3];simp[z2]
 have x1:w1.heap[w.heap.size]?=some (.cells #[.slice A n c,.slice (some ⟨b,o,none⟩) m d,.slice (some ⟨b',o',none⟩) k e,.int .i64 sf,.int .i64 ch] 45 (0,0)):=by rw[← hw1];exact heap_alloc_new w _
 have x2:w2.heap[w.heap.size+1]?=some (.cells #[.int .i64 cL,.int .i64 cF,.int .i64 cT,.int .i64 cW] 47 (0,0)):=by rw[← hw2,← z1];exact heap_alloc_new w1 _
 have x3:w3.heap[w.heap.size+1+1]?=some (.cells #[.int .i64 (i:Nat),.int .i64 (j:Nat)] 55 (0,0)):=by rw[← hw3,← z2];exact heap_alloc_new w2 _
 have b23:=b2.trans (b3.mono b2.size)
 have b123:=b1.trans (b23.mono b1.size)
 have y1:=below_cells b23 (by omega) x1
 have y2:=below_cells b3 (by omega) x2
 rw[hw1,hw2,hw3]
 obtain⟨u0,u1,u2,u3,u4,-⟩:=cells5 y1
 obtain⟨v0,v1,v2,v3,-⟩:=cells4 y2
 obtain⟨t0,t1,-⟩:=cells2 x3
 have l0:w.heap.size<w3.heap.size:=by omega
 have l1:w.heap.size+1<w3.heap.size:=by omega
 have l2:w.heap.size+1+1<w3.heap.size:=by omega
 have Hb3:=zh b123
 obtain⟨k0,hk0⟩:∃ k0,w.heap.size=k0:=⟨_,rfl⟩
 have q0:=(b123.cell hbl).trans q0
 have r0:=(b123.cell hbl').trans r0
 have hbl:b<w3.heap.size:=by omega
 have hbl':b'<w3.heap.size:=by omega
 clear hco hme hga q1
 rw[hk0] at u0 u1 u2 u3 u4 v0 v1 v2 v3 t0 t1 l0 l1 l2 ⊢
 clear hw1 hw2 hw3 b1 b2 b3 z1 z2 z3 x1 x2 x3 b23 b123 y1 y2 hk0
 obtain⟨ι,mk,hmk⟩:=cls_exW w3.heap.size w3
 have hd:=hmk.drew
 have hnei:=hmk.ne
 have q0:=λx=>((hmk.below x).cell hbl).trans q0
 have u1:=λx=>((hmk.below x).cell l0).trans u1
 have u2:=λx=>((hmk.below x).cell l0).trans u2
 have v0:=λx=>((hmk.below x).cell l1).trans v0
 have v1:=λx=>((hmk.below x).cell l1).trans v1
 have t0:=λx=>((hmk.below x).cell l2).trans t0
 have t1:=λx=>((hmk.below x).cell l2).trans t1
 have r0:=λx=>((hmk.below x).cell hbl').trans r0
 have HC:=zh (λx=>hmk.call (Hh.out (mk x)))
 have Hbl:=zh (λx=>hmk.below x)
 clear hmk
 refine wp_region_clsW (C:=λw'=>∃ x,w'=mk x) (by kernel_rfl) (by kernel_rfl) hd ?_
 repeat (go_big_quiet_step (with_reducible exact HC.out _))
 refine wpQuiet_nil ?_
 intro _ hw'
 obtain⟨x,rfl⟩:=hw'
 have Hf:=zh (HR.out _ (Hb3.out.trans ((Hbl.out x).mono Hb3.out.size)))
 clear HR Hbl Hb3 HC
 go_wp2_with fail
 exact Hf.out
theorem price_any(A:Option Addr)(n c:Nat)(B:Option Addr)(m d:Nat)(G:Option Addr)(k e:Nat)(x:Sc)(y:Crs)(i j:Nat)(mt:Mtl)(s g:Int)(w:World)(h:ScM w A n c B m d G k e x)(hp:Pk x i j mt s g)(hy:y.Ok) :
 Calls Tryz.prog 43 #[.agg (scA A n c B m d G k e x),y.val,pickV i j] w λe w'=>e=.returned (.int .i64 (pricF mt.D g y))/\Below w.heap.size w w':=by
 have hpr:=pric_range hp.D.2 hp.gr.2 hy
 have hlt:=pullN_lt hp.D.2 hp.gr.2 hy.L.2 hy.F.2
 have Ht:=zh (λW (hb:Below w.heap.size w W)=>tight_any A n c B m d G k e x y i j mt s g W (h.below hb) hp hy)
 have hT:=hy.T
 obtain⟨hco,hme,hga,hn,hm,hk⟩:=h
 obtain⟨p1,p2,p3,p4,p5,p6,p7⟩:=hp
 obtain⟨co,me,ga,sf,ch⟩:=x
 obtain⟨cL,cF,cT,cW⟩:=y
 refine calls_cps ?_
 intro R hR
 unfold scA Crs.val pickV
 dsimp only at *
 unfold scA Crs.val pickV at Ht
 dsimp only at Ht
 have HR:=zh (show ∀ z,z=pricF mt.D g ⟨cL,cF,cT,cW⟩->∀ W,Below w.heap.size w W->R (.returned (.int .i64 z)) W from λz hz W g=>hR.out _ _ ⟨by rw[hz],g⟩)
 clear hR p1 p2 p3 p4 p5 p6 p7 hy hn hm hk hco hme hga
 unfold pricF at HR hpr
 dsimp only at HR hpr
 obtain⟨X,hX⟩:∃ X,pullN mt.D g cL cF=X:=⟨_,rfl⟩
 rw[hX] at HR Ht hpr hlt
 clear hX
 go_enter Tryz.func43,Tryz.ntmps43
 go_upto_region 1 with fail
 obtain⟨w1,hw1⟩:∃ w1,w.alloc (.cells #[.slice A n c,.slice B m d,.slice G k e,.int .i64 sf,.int .i64 ch] 45)=w1:=⟨_,rfl⟩
 obtain⟨w2,hw2⟩:∃ w2,w1.alloc (.cells #[.int .i64 cL,.int .i64 cF,.int .i64 cT,.int .i64 cW] 47)=w2:=⟨_,rfl⟩
 obtain⟨w3,hw3⟩:∃ w3,w2.alloc (.cells #[.int .i64 (i:Nat),.int .i64 (j:Nat)] 55)=w3:=⟨_,rfl⟩
 have b1:Below w.heap.size w w1:=by rw[← hw1];exact below_new w _
 have b2:Below w1.heap.size w1 w2:=by rw[← hw2];exact below_new w1 _
 have b3:Below w2.heap.size w2 w3:=by rw[← hw3];exact below_new w2 _
 have z1:w1.heap.size=w.heap.size+1:=by rw[← hw1];simp
 have z2:w2.heap.size=w.heap.size+1+1:=by rw[← hw2];simp[z1]
 have z3:w3.heap.size=w.heap.size+1+1+1:=by rw[← hw3];simp[z2]
 have x1:w1.heap[w.heap.size]?=some (.cells #[.slice A n c,.slice B m d,.slice G k e,.int .i64 sf,.int .i64 ch] 45 (0,0)):=by rw[← hw1];exact heap_alloc_new w _
 have x2:w2.heap[w.heap.size+1]?=some (.cells #[.int .i64 cL,.int .i64 cF,.int .i64 cT,.int .i64 cW] 47 (0,0)):=by rw[← hw2,← z1];exact heap_alloc_new w1 _
 have x3:w3.heap[w.heap.size+1+1]?=some (.cells #[.int .i64 (i:Nat),.int .i64 (j:Nat)] 55 (0,0)):=by rw[← hw3,← z2];exact heap_alloc_new w2 _
 have b23:=b2.trans (b3.mono b2.size)
 have b123:=b1.trans (b23.mono b1.size)
 have y1:=below_cells b23 (by omega) x1
 have y2:=below_cells b3 (by omega) x2
 rw[hw1,hw2,hw3]
 obtain⟨u0,u1,u2,u3,u4,-⟩:=cells5 y1
 obtain⟨v0,v1,v2,v3,-⟩:=cells4 y2
 obtain⟨t0,t1,-⟩:=cells2 x3
 have l0:w.heap.size<w3.heap.size:=by omega
 have l1:w.heap.size+1<w3.heap.size:=by omega
 have l2:w.heap.size+1+1<w3.heap.size:=by omega
 have Hb3:=zh b123
 obtain⟨k0,hk0⟩:∃ k0,w.heap.size=k0:=⟨_,rfl⟩
 rw[hk0] at u0 u1 u2 u3 u4 v0 v1 v2 v3 t0 t1 l0 l1 l2 ⊢
 clear hw1 hw2 hw3 b1 b2 b3 z1 z2 z3 x1 x2 x3 b23 b123 y1 y2 hk0
 obtain⟨ι,mk,hmk⟩:=cls_exW w3.heap.size w3
 have hd:=hmk.drew
 have hnei:=hmk.ne
 have u0:=λx=>((hmk.below x).cell l0).trans u0
 have u1:=λx=>((hmk.below x).cell l0).trans u1
 have u2:=λx=>((hmk.below x).cell l0).trans u2
 have u3:=λx=>((hmk.below x).cell l0).trans u3
 have u4:=λx=>((hmk.below x).cell l0).trans u4
 have v0:=λx=>((hmk.below x).cell l1).trans v0
 have v1:=λx=>((hmk.below x).cell l1).trans v1
 have v2:=λx=>((hmk.below x).cell l1).trans v2
 have v3:=λx=>((hmk.below x).cell l1).trans v3
 have t0:=λx=>((hmk.below x).cell l2).trans t0
 have t1:=λx=>((hmk.below x).cell l2).trans t1
 have HC:=zh (λx=>hmk.call (Ht.out (mk x) (Hb3.out.trans ((hmk.below x).mono Hb3.out.size))))
 have Hbl:=zh (λx=>hmk.below x)
 clear hmk
 refine wp_region_clsW (C:=λw'=>∃ x,w'=mk x) (by kernel_rfl) (by kernel_rfl) hd ?_
 repeat (go_big_quiet_step (with_reducible exact HC.out _))
 refine wpQuiet_nil ?_
 intro _ hw'
 obtain⟨x,rfl⟩:=hw'
 have Hf:=zh (λz hz=>HR.out z hz _ (Hb3.out.trans ((Hbl.out x).mono Hb3.out.size)))
 have v2:=v2 x
 have v3:=v3 x
 clear HR Hbl Hb3 HC u0 u1 u2 u3 u4 v0 v1 t0 t1
 go_wp2_with fail
 exact Hf.out _ rfl
end
end
end
end Go.Proofs.YtjibohkeapdalaaGreatDoor
