/-
  The layer's reference Sizes; conditions: sizes; the numbers are below 2^32. temper.Scale at small steps of twelve units: it is there, its frequencies lie below the base's double; masks; conditions: those that each theorem states. Plain: the rings and the scalings of the law TopTuned; conditions: those that each theorem states. houses: what every program must return; condition: the tables lie below a block. A region that draws its order: a head of operations that are quiet in a class of worlds, then operations in one forced order. TopTuned's memory: the house beside the law's own blocks; plain facts.
-/
import Derived.Test.YtjibohkeapdalaaGreatDoorEe
import Derived.Test.YtjibohkeapdalaaGreatDoorAm
import Derived.Test.YtjibohkeapdalaaGreatDoorCk
import Derived.Test.YtjibohkeapdalaaGreatDoorCe
import Derived.Test.YtjibohkeapdalaaGreatDoorBa
import Derived.Test.YtjibohkeapdalaaGreatDoorDc
import Derived.Test.YtjibohkeapdalaaGreatDoorBf
import Derived.Test.YtjibohkeapdalaaGreatDoorAk
import Derived.Test.YtjibohkeapdalaaGreatDoorAl
import Derived.StillTail
import Derived.Deep.Quiet
import Derived.Tactics
namespace Go.Proofs.YtjibohkeapdalaaGreatDoor
set_option maxHeartbeats 4000000
set_option maxRecDepth 8000
section
section
open Go.RowKit Go.Shelf
theorem rsizes_any(wd:ByteArray)(A:Option Addr)(n c:Nat)(l:List Nat)(w:World)(h:SlE u64E 1 w A n l)(hn:n<=1000)(hw:wd.size<=1000000)(hl:∀ x∈l,x<4294967296) :
 Calls Tryz.prog 12 #[.string wd,.slice A n c] w λe w'=>e=.returned (.string ⟨(rowL wd.data.toList (natL l)++[10]).toArray⟩)/\Below w.heap.size w w':=by
 refine calls_cps ?_
 intro R hR
 have HX:=zh h
 have HL:=zh hl
 have Hr:=zh (λ(s:ByteArray) w' (hs:s.data.toList=rowL wd.data.toList (natL l)++[10]) hb=>hR.out (.returned (.string s)) w' ⟨by rw[ba_of hs],hb⟩)
 have Hn:=zh h.1
 clear hR h hl
 go_enter Tryz.func12,Tryz.ntmps12
 go_wp2_with fail
 go_loopw [0,5] (λs0 s5 wr=>∃ (k:Nat) (s:ByteArray),k<=n/\s5=.int .i64 (k:Int)/\s0=.string s/\s.size<=wd.size+22*k/\Hid (s.data.toList=rowL wd.data.toList (natL (l.take k)))/\Hid (Below w.heap.size w wr)) (λ_ s5 _=>n-(intOf s5).toNat)
 case atStart=>exact⟨0,wd,Nat.zero_le _,rfl,rfl,by omega,zh (by simp[rowL,natL]),zh (Below.refl _ _)⟩
 case round =>
  obtain⟨k,s,hk,rfl,rfl,hsz,Hs,Hb⟩:=hrel
  by_cases hlt:k<n
  ·obtain⟨b0,o,X,rfl,hb0,hx,q0⟩:=(HX.out.below Hb.out).at64 hlt
   have hX:=HL.out X (List.mem_of_getElem? hx)
   have i1:(k:Int)<(n:Int):=by omega
   have Hx:=zh (show (natL l)[k]?=some (X:Int) by unfold natL;rw[List.getElem?_map,hx];rfl)
   have hil:=Lib.itoa_length_le (X:Int) (by omega) (by omega)
   have z1:¬ 9223372036854775807<1+(Lib.itoa (X:Int)).length:=by omega
   have z2:¬ 9223372036854775807<s.size+(1+(Lib.itoa (X:Int)).length):=by omega
   have HO:=zh (nof_any X hX wr)
   clear hx
   go_wp2_with fail
   refine HO.out.mono ?_
   rintro e w1 ⟨A',c',rfl,hx1,hb1⟩
   have HT:=zh (ntext_any X hX A' c' w1 hx1)
   rw[← itoa_nat] at HT
   have HB1:=zh hb1
   clear hx1 hb1 q0
   go_wp2_with fail
   refine HT.out.mono ?_
   rintro e w2 ⟨rfl,hb2⟩
   have HB2:=zh (HB1.out.trans (hb2.mono HB1.out.size))
   clear hb2
   go_wp2_with fail
   refine⟨⟨k+1,_,hlt,by go_num,rfl,by rw[row_size];omega,zh ?_,zh (Hb.out.trans (HB2.out.mono Hb.out.size))⟩,by simp[intOf]<;>omega⟩
   have ht:natL (l.take (k+1))=(natL l).take (k+1):=by unfold natL;rw[List.map_take]
   have ht0:natL (l.take k)=(natL l).take k:=by unfold natL;rw[List.map_take]
   rw[ht,rowL_take Hx.out,← ht0,← Hs.out,ba_app,ba_app]
   rfl
  ·have hkn:k=n:=by omega
   subst hkn
   have i1:¬ (k:Int)<(k:Int):=by omega
   have z1:¬ 9223372036854775807<s.size+1:=by omega
   have hf:=Hr.out (s++⟨#[10]⟩) wr (by rw[ba_app,Hs.out,List.take_of_length_le (by rw[← Hn.out];exact Nat.le_refl _)]) Hb.out
   have HF:=zh hf
   clear Hr hf Hs Hb
   go_wp2
   exact HF.out
end
end
section
section
theorem redT_two{k:Nat}(hk:0<k){a b c d a' b' c' d':Int}(h1:(k:Int)*a=a')(h2:(k:Int)*b=b')(h3:(k:Int)*c=c')(h4:(k:Int)*d=d'):redT a b c d=redT a' b' c' d':=by
 rw[← h1,← h2,← h3,← h4,redT_mul hk]
theorem cm12(g h a c:Int)(a2 c2 e f:Int)(ha:a=g*a2)(hc:c=h*c2)(he:12=g*e)(hf:12=h*f):(g*h)*(a2*f+c2*(1*e))=12*(a+c):=by
 have e1:(g*h)*(a2*f+c2*(1*e))=(g*a2)*(h*f)+(h*c2)*(g*e):=by
  rw[Int.one_mul,Int.mul_add]
  congr 1
  ·rw[Int.mul_assoc,Int.mul_left_comm h a2 f,← Int.mul_assoc]
  ·rw[Int.mul_comm g h,Int.mul_assoc,Int.mul_left_comm g c2 e,← Int.mul_assoc]
 rw[e1,← ha,← hc,← he,← hf]
 omega
theorem join12(a b c d:Int):joinT (redV a b 0 12) (redV c d 0 12) 1=redT (a+c) (b+d) 0 12:=by
 obtain⟨x1,x2,x3,x4⟩:=redV_spec a b 0 12
 obtain⟨y1,y2,y3,y4⟩:=redV_spec c d 0 12
 have hg:0<g4 a b 0 12:=g4_pos (by omega)
 have hh:0<g4 c d 0 12:=g4_pos (by omega)
 unfold joinT
 rw[redT_two (k:=g4 a b 0 12*g4 c d 0 12) (Nat.mul_pos hg hh) (a':=12*(a+c)) (b':=12*(b+d)) (c':=12*0) (d':=12*12)]
 ·exact redT_mul (k:=12) (by omega) (a+c) (b+d) 0 12
 ·rw[Int.natCast_mul];exact cm12 _ _ _ _ _ _ _ _ x1 y1 x4 y4
 ·rw[Int.natCast_mul];exact cm12 _ _ _ _ _ _ _ _ x2 y2 x4 y4
 ·rw[Int.natCast_mul];exact cm12 _ _ _ _ _ _ _ _ x3 y3 x4 y4
 ·rw[Int.natCast_mul,Int.mul_comm (g4 a b 0 12:Int),Int.mul_assoc,← Int.mul_assoc (g4 a b 0 12:Int),← x4,Int.mul_left_comm,← y4]
theorem rest12(a b:Int):(redV a b 0 12).rest=redT (a-(redV a b 0 12).oct*12) b 0 12:=by
 obtain⟨x1,x2,x3,x4⟩:=redV_spec a b 0 12
 have hg:0<g4 a b 0 12:=g4_pos (by omega)
 unfold Tn.rest
 refine redT_two hg ?_ x2.symm x3.symm x4.symm
 rw[Int.mul_sub,← x1,Int.mul_left_comm,← x4]
theorem pow34(n:Nat):3 ^ n<=4 ^ n:=Nat.pow_le_pow_left (by omega) n
theorem four_two(n:Nat):4 ^ n=2 ^ (2*n):=by rw[Nat.pow_mul]
theorem in_bd{a b:Int}{d:Nat}(h1:un a b 0<=ov a b 0)(h2:¬ un (a-d) b 0<=ov (a-d) b 0):a.natAbs<=2*b.natAbs+d:=by
 unfold un ov at h1 h2
 simp only[Int.neg_zero,Int.toNat_zero,Nat.pow_zero,Nat.mul_one] at h1 h2
 rcases Int.lt_or_le b 0 with hb|hb
 ·obtain⟨n,rfl⟩:∃ n:Nat,b = -(n:Int):=⟨b.natAbs,by omega⟩
  rw[show (-(n:Int)).toNat=0 from by omega,show (- -(n:Int)).toNat=n from by omega,Nat.pow_zero,Nat.mul_one] at h1 h2
  have hA:0<=a:=by
   refine Int.le_of_not_gt λhn=>?_
   rw[show a.toNat=0 from by omega,Nat.pow_zero] at h1
   have p1:2<=2 ^ (-a).toNat:=Nat.le_trans (by decide) (Nat.pow_le_pow_right (by omega) (show 1<=(-a).toNat by omega))
   have p2:0<3 ^ n:=Nat.pow_pos (by omega)
   have:=Nat.mul_le_mul p1 p2
   omega
  have hB:a<=2*n+d:=by
   refine Int.le_of_not_gt λhn=>h2 ?_
   rw[show (-(a-(d:Int))).toNat=0 from by omega,Nat.pow_zero,Nat.one_mul]
   refine Nat.le_trans (pow34 n) ?_
   rw[four_two]
   exact Nat.pow_le_pow_right (by omega) (by omega)
  omega
 ·obtain⟨n,rfl⟩:∃ n:Nat,b=(n:Int):=⟨b.toNat,by omega⟩
  rw[show ((n:Int)).toNat=n from by omega,show (-(n:Int)).toNat=0 from by omega,Nat.pow_zero,Nat.mul_one] at h1 h2
  have hA:a<d:=by
   refine Int.lt_of_not_ge λhn=>h2 ?_
   rw[show (-(a-(d:Int))).toNat=0 from by omega,Nat.pow_zero]
   exact Nat.mul_pos (Nat.pow_pos (by omega)) (Nat.pow_pos (by omega))
  have hB : -(2*(n:Int))<=a:=by
   refine Int.le_of_not_gt λhn=>?_
   rw[show a.toNat=0 from by omega,Nat.pow_zero,Nat.one_mul] at h1
   have p1:2 ^ (2*n+1)<=2 ^ (-a).toNat:=Nat.pow_le_pow_right (by omega) (by omega)
   have p2:=pow34 n
   rw[four_two] at p2
   rw[Nat.pow_succ] at p1
   have p3:0<2 ^ (2*n):=Nat.pow_pos (by omega)
   omega
  omega
theorem rest_raw{t:Tn}(hd:0<t.den):un (t.two-t.oct*t.den) t.three t.five<=ov (t.two-t.oct*t.den) t.three t.five/\¬ un (t.two-(t.oct+1)*t.den) t.three t.five<=ov (t.two-(t.oct+1)*t.den) t.three t.five:=by
 have hb:=ediv_bounds (flr (ov t.two t.three t.five) (un t.two t.three t.five)) hd
 refine⟨(le2_move _ _ _ _).1 ((le2_iff (ov_pos t.two t.three t.five) (un_pos t.two t.three t.five)).2 hb.1),λhh=>?_⟩
 have:=(le2_iff (ov_pos t.two t.three t.five) (un_pos t.two t.three t.five)).1 ((le2_move ((t.oct+1)*t.den) t.two t.three t.five).2 hh)
 have h3:=hb.2
 unfold Tn.oct at this
 omega
structure J12(k:Nat)(x:Tn):Prop where
 ex:∃ a b:Int,x=redV a b 0 12/\a.natAbs<=2*b.natAbs+12/\b.natAbs<=36*k
theorem J12.zero:J12 0 tn0:=⟨0,0,by unfold redV tn0;simp[g4,qd],by decide,by decide⟩
theorem J12.step{k:Nat}{x:Tn}(h:J12 k x)(hk:k<9){s:Int}(h1 : -2<=s)(h2:s<=2):∃ y,stepT x s 12=some y/\J12 (k+1) y:=by
 obtain⟨a,b,rfl,ha,hb⟩:=h.ex
 unfold stepT fifT
 rw[join12]
 obtain⟨e1,o1⟩:=redT_some (a:=a+(-12+19*s)) (b:=b+(12-12*s)) (c:=0) (d:=12) (by omega) (by omega) (by omega) (by omega) (by omega)
 rw[e1]
 dsimp only
 obtain⟨A,hA⟩:∃ A,a+(-12+19*s)=A:=⟨_,rfl⟩
 obtain⟨B,hB⟩:∃ B,b+(12-12*s)=B:=⟨_,rfl⟩
 rw[hA,hB] at o1 ⊢
 have hb2:=oct_bd o1
 rw[rest12]
 obtain⟨C,hC⟩:∃ C,A-(redV A B 0 12).oct*12=C:=⟨_,rfl⟩
 rw[hC]
 have hin:un C B 0<=ov C B 0/\¬ un (C-(12:Nat)) B 0<=ov (C-(12:Nat)) B 0:=by
  obtain⟨g1,g2⟩:=rest_raw (t:=redV A B 0 12) (by have:=o1.lo;omega)
  obtain⟨x1,x2,x3,x4⟩:=redV_spec A B 0 12
  have hg:0<g4 A B 0 12:=g4_pos (by omega)
  rw[← ge_mul hg,← x2,← x3] at g1 g2
  have c1:(g4 A B 0 12:Int)*((redV A B 0 12).two-(redV A B 0 12).oct*(redV A B 0 12).den)=C:=by
   rw[Int.mul_sub,← x1,Int.mul_left_comm,← x4];exact hC
  have c2:(g4 A B 0 12:Int)*((redV A B 0 12).two-((redV A B 0 12).oct+1)*(redV A B 0 12).den)=C-(12:Nat):=by
   rw[Int.mul_sub,← x1,Int.mul_left_comm,← x4];omega
  rw[c1] at g1
  rw[c2] at g2
  exact⟨g1,g2⟩
 have hcb:=in_bd hin.1 hin.2
 obtain⟨e2,o2⟩:=redT_some (a:=C) (b:=B) (c:=0) (d:=12) (by omega) (by omega) (by omega) (by omega) (by omega)
 exact⟨_,e2,C,B,rfl,hcb,by omega⟩
theorem tones12:∀ (l:List Int) (k:Nat) (x:Tn),J12 k x->k+l.length<=9->(∀ s∈l,-2<=s/\s<=2)->∃ L,tonesF 12 x l=some L
 |[],_,_,_,_,_=>⟨[],rfl⟩
 |s :: l,k,x,h,hk,hl=>by
  rw[List.length_cons] at hk
  obtain⟨y,hy,hj⟩:=h.step (by omega) (hl s (by simp)).1 (hl s (by simp)).2
  obtain⟨L,hL⟩:=tones12 l (k+1) y hj (by omega) (λs hs=>hl s (by simp[hs]))
  unfold tonesF
  rw[hy]
  dsimp only
  rw[hL]
  exact⟨_,rfl⟩
end
section
open Go.RowKit
theorem tn0_in:tn0.In:=⟨by decide,by decide⟩
theorem stepT_in{x y:Tn}{s u:Int}(h:stepT x s u=some y):∃ j,joinT x (fifT s u) 1=some j/\j.Ok/\j.rest=some y/\y.In/\y.Ok:=by
 unfold stepT at h
 split at h
 ·rename_i j hj
  have ho:=join_ok hj
  have h2:=rest_in (by have:=ho.lo;omega) h
  exact⟨j,hj,ho,h,h2.1,h2.2⟩
 ·cases h
theorem tones_in{u:Int}{l:List Int}:∀ {x:Tn} {L:List Tn},tonesF u x l=some L->x.In->x.Ok->∀ t∈x :: L,t.In/\t.Ok:=by
 induction l with
 |nil =>
  intro x L h h1 h2 t ht
  simp only[tonesF,Option.some.injEq] at h
  subst h
  simp only[List.mem_cons,List.not_mem_nil,or_false] at ht
  subst ht
  exact⟨h1,h2⟩
 |cons s l ih =>
  intro x L h h1 h2 t ht
  simp only[tonesF] at h
  split at h
  ·rename_i y hy
   cases e:tonesF u y l with
   |none=>rw[e] at h;cases h
   |some M =>
    rw[e] at h
    simp only[Option.map_some,Option.some.injEq] at h
    subst h
    obtain⟨j,_,_,_,h5,h6⟩:=stepT_in hy
    rcases List.mem_cons.1 ht with rfl|ht
    ·exact⟨h1,h2⟩
    ·exact ih e h5 h6 t ht
  ·cases h
theorem sortL_spec(M:List Nat):(sortL M).Pairwise (·<=·)/\(sortL M).Perm M:=by
 have e:(λx y:Nat => !ltN y x)=λx y=>decide (x<=y):=by
  funext x y
  unfold ltN
  by_cases h:y<x
  ·have:¬ x<=y:=by omega
   simp[h,this]
  ·have:x<=y:=by omega
   simp[h,this]
 unfold sortL
 rw[e]
 refine⟨(List.pairwise_mergeSort (le:=λa b=>decide (a<=b)) ?_ ?_ M).imp λh=>by simpa using h,List.mergeSort_perm _ _⟩
 ·intro a b c h1 h2;simp at h1 h2 ⊢;omega
 ·intro a b;simp;omega
theorem rises{base:Nat}{L:List Tn}(hb:0<base)(hb2:base<1152921504606846976)(hL:∀ t∈tn0 :: L,t.In/\t.Ok) :
 (sortL ((tn0 :: L).map (fqV base))).length=L.length+1/\(sortL ((tn0 :: L).map (fqV base)))[0]?=some base/\(∀ (i x:Nat),(sortL ((tn0 :: L).map (fqV base)))[i]?=some x->base<=x/\x<2*base)/\
 ∀ (i x y:Nat),(sortL ((tn0 :: L).map (fqV base)))[i]?=some x->(sortL ((tn0 :: L).map (fqV base)))[i+1]?=some y->x<=y:=by
 have hf:∀ t∈tn0 :: L,base<=fqV base t/\fqV base t<2*base:=λt ht=>by
  have h:=freq_in (base:=base) (t:=t) (by have:=(hL t ht).2.lo;omega) (hL t ht).1 hb
  unfold fqV
  rw[if_pos (by omega)]
  exact h
 have h0:fqV base tn0=base:=by
  have h:=freq_one base
  unfold fqV tn0
  rw[h,if_pos (by omega)]
 obtain⟨M,hM⟩:∃ M,(tn0 :: L).map (fqV base)=M:=⟨_,rfl⟩
 obtain⟨hs,hp⟩:=sortL_spec M
 rw[hM]
 have hin:∀ x∈sortL M,base<=x/\x<2*base:=λx hx=>by
  have hx:=hp.subset hx
  rw[← hM] at hx
  obtain⟨t,ht,rfl⟩:=List.mem_map.1 hx
  exact hf t ht
 have hlen:(sortL M).length=L.length+1:=by rw[hp.length_eq,← hM];simp
 have hbm:base∈sortL M:=hp.symm.subset (by rw[← hM,List.map_cons,h0];simp)
 refine⟨hlen,?_,λi x hx=>hin x (List.mem_of_getElem? hx),λi x y hx hy=>?_⟩
 ·cases hc:sortL M with
  |nil=>rw[hc] at hlen;simp at hlen
  |cons z r =>
   rw[hc] at hs hbm hin
   have h1:z<=base:=by
    rcases List.mem_cons.1 hbm with h|h
    ·omega
    ·exact (List.pairwise_cons.1 hs).1 base h
   have h2:=(hin z (by simp)).1
   have:z=base:=by omega
   subst this
   rfl
 ·obtain⟨h1,e1⟩:=List.getElem?_eq_some_iff.1 hx
  obtain⟨h2,e2⟩:=List.getElem?_eq_some_iff.1 hy
  have:=(List.pairwise_iff_getElem.1 hs) i (i+1) h1 h2 (by omega)
  rw[e1,e2] at this
  exact this
theorem and_mask(x:Int):(0<=bits .and .i64 x 262143/\bits .and .i64 x 262143<=262143)/\(0<=bits .and .i64 x 255/\bits .and .i64 x 255<=255):=by
 have h:∀ m:Nat,m<=262143->0<=bits .and .i64 x (m:Int)/\bits .and .i64 x (m:Int)<=(m:Int):=by
  intro m hm
  have e:bits .and .i64 x (m:Int)=IntKind.i64.wrap ((BitVec.ofInt 64 x &&& BitVec.ofInt 64 (m:Int)).toNat:Int):=rfl
  have h1:(BitVec.ofInt 64 x &&& BitVec.ofInt 64 (m:Int)).toNat<=m:=by
   rw[BitVec.toNat_and]
   refine Nat.le_trans Nat.and_le_right ?_
   rw[BitVec.toNat_ofInt]
   omega
  rw[e,IntWalk.i64_in _ (by omega)]
  omega
 exact⟨h 262143 (by omega),h 255 (by omega)⟩
theorem scale12{st:List Int}{nb:Nat}(h1:1<=st.length)(h2:st.length<=9)(hr:∀ s∈st,-2<=s/\s<=2)(h0:0<nb)(h60:nb<1152921504606846976) :
 ∃ M:List Nat,M.length=st.length/\(∀ x∈M,nb<=x/\x<2*nb)/\∀ (W:World) (A:Option Addr) (n c:Nat),SlE intE 1 W A n st->n<=c->c<=9223372036854775807->
  Calls Tryz.prog 11 #[.int .u64 (nb:Nat),.slice A n c,.int .i64 12] W λe w'=>∃ LA lc,e=.returned (.tuple #[.slice LA M.length lc,.int .i64 0])/\M.length<=lc/\lc<=9223372036854775807/\SlE u64E 1 w' LA M.length M/\(∀ a,LA=some a->W.heap.size<=a.block)/\Below W.heap.size W w':=by
 have hrb:rightB st 12=true:=by
  unfold rightB
  rw[Bool.and_eq_true,Bool.and_eq_true]
  refine⟨List.all_eq_true.2 λs hs=>?_,?_,by decide⟩
  ·have:=hr s hs
   exact inB_iff.2 (by omega)
  ·exact inB_iff.2 (by omega)
 obtain⟨L,hL⟩:=tones12 st.dropLast 0 tn0 J12.zero (by rw[List.length_dropLast];omega) λs hs=>hr s (List.dropLast_subset st hs)
 have hin:=tones_in hL tn0_in tn0_ok
 obtain⟨r1,-,r3,-⟩:=rises h0 h60 hin
 have hto:toldO (scaleF nb) nb st 12=.ok (sortL ((tn0 :: L).map (fqV nb))):=by
  unfold toldO
  rw[hL]
  dsimp only
  rw[if_neg (by omega)]
  rfl
 have hl:=tonesF_len hL
 rw[List.length_dropLast] at hl
 refine⟨sortL ((tn0 :: L).map (fqV nb)),by rw[r1];omega,λx hx=>?_,λW A n c hS hnc hc=>?_⟩
 ·obtain⟨i,hi⟩:=List.getElem?_of_mem hx
  exact r3 i x hi
 ·refine (scale_fresh nb A n c st 12 W hS hnc hc (by omega)).mono ?_
  rintro e w' ⟨⟨hf,-⟩|⟨-,hb,hm⟩,hnw⟩
  ·exact absurd (hrb.symm.trans hf) (by simp)
  ·rw[hto] at hm
   obtain⟨LA,ln,lc,hl1,hl2,hl3,rfl,hl4⟩:=hm
   subst hl1
   exact⟨LA,lc,rfl,hl2,hl3,hl4,hnw LA _ lc _ rfl,hb⟩
end
end
section
section
open Go.RowKit
def ringT(N T P:Nat):Rg:=⟨N,2,0,2,T,P,100,List.replicate N 1,List.replicate N 1⟩
theorem ringT_ok{N T P:Nat}(h1:4<=N)(h2:N<=7)(hT:T<=2*N)(hP:P<=7):(ringT N T P).Ok:=by
 have hw:∀ x∈List.replicate N (1:Int),0<=x/\x<=1000:=λx hx=>by
  rw[List.eq_of_mem_replicate hx]
  omega
 refine⟨?_,?_,?_,?_,?_,?_,?_,?_,?_,?_,?_,?_,?_,?_,?_,List.length_replicate,List.length_replicate,hw,hw⟩<;>(simp only[ringT];omega)
theorem ringT_at{st:List Int}(h:∀ x∈st,0<=x/\x<=2)(i:Nat):0<=st.getD i 0/\st.getD i 0<=2:=by
 rw[List.getD_eq_getElem?_getD]
 cases hx:st[i]? with
 |none=>exact⟨by decide,by decide⟩
 |some v=>exact h v (List.mem_of_getElem? hx)
theorem ringT_err{N T P:Nat}(hP:P<=7){st:List Int}(h:∀ x∈st,0<=x/\x<=2)(i:Nat) : -4<=(ringT N T P).err st i 2/\(ringT N T P).err st i 2<=7:=by
 have h1:=ringT_at h ((i+0)%N)
 have h2:=ringT_at h ((i+1)%N)
 show -4<=((P:Int)-st.getD ((i+0)%N) 0)-st.getD ((i+1)%N) 0/\((P:Int)-st.getD ((i+0)%N) 0)-st.getD ((i+1)%N) 0<=7
 omega
def wit(N T:Nat):List Int:=(List.range N).map λi=>((min 2 (T-2*i):Nat):Int)
theorem wit_sum{N T:Nat}(h1:4<=N)(h2:N<=7)(hT:T<=2*N):(wit N T).sum=(T:Int):=by
 have e:N=4\/N=5\/N=6\/N=7:=by omega
 rcases e with rfl|rfl|rfl|rfl <;>
 ·simp only[wit,List.range,List.range.loop,List.map_cons,List.map_nil,List.sum_cons,List.sum_nil]
  omega
theorem ringT_good{N T P:Nat}(h1:4<=N)(h2:N<=7)(hT:T<=2*N)(hP:P<=7):(ringT N T P).Good (wit N T):=by
 have hr:∀ x∈wit N T,0<=x/\x<=2:=λx hx=>by
  obtain⟨i,-,rfl⟩:=List.mem_map.1 hx
  omega
 refine⟨by simp[wit,ringT],hr,wit_sum h1 h2 hT,λi _=>?_⟩
 have:=ringT_err (N:=N) (T:=T) hP hr i
 show -100<=(ringT N T P).err (wit N T) i 2/\(ringT N T P).err (wit N T) i 2<=100
 omega
theorem totT_bd{f:Nat->Int}(h:∀ i,0<=f i/\f i<=60):∀ (n t:Nat),0<=totF f t n/\totF f t n<=60*(n:Int)
 |0,t=>by simp[totF]
 |n+1,t=>by
  have h1:=totT_bd h n (t+1)
  have h2:=h t
  rw[totF]
  omega
theorem sq_bd{a b:Int}(h1 : -b<=a)(h2:a<=b):0<=a*a/\a*a<=b*b:=by
 have hb:0<=b:=by omega
 refine⟨?_,?_⟩
 ·rcases Int.le_total 0 a with h|h
  ·exact Int.mul_nonneg h h
  ·have:=Int.mul_nonneg (show 0<=-a by omega) (show 0<=-a by omega)
   rwa [Int.neg_mul_neg] at this
 ·rcases Int.le_total 0 a with h|h
  ·exact Int.mul_le_mul h2 h2 h hb
  ·have:=Int.mul_le_mul (show -a<=b by omega) (show -a<=b by omega) (show 0<=-a by omega) hb
   rwa [Int.neg_mul_neg] at this
theorem one_at(N i:Nat):(List.replicate N (1:Int)).getD i 0=0\/(List.replicate N (1:Int)).getD i 0=1:=by
 rw[List.getD_eq_getElem?_getD,List.getElem?_replicate]
 split
 ·right;rfl
 ·left;rfl
theorem ringT_best{N T P:Nat}(h2:N<=7)(hP:P<=7){st:List Int}{cs:Int}(h:(ringT N T P).Best st cs):st.length=N/\(∀ x∈st,0<=x/\x<=2)/\0<=cs/\cs<4294967296:=by
 have hr:∀ x∈st,0<=x/\x<=2:=h.good.rng
 refine⟨h.good.len,hr,?_⟩
 have hf:∀ i,0<=(ringT N T P).one st i/\(ringT N T P).one st i<=60:=λi=>by
  have e1:=ringT_err (N:=N) (T:=T) hP hr i
  have e2:=ringT_at hr i
  show 0<=(List.replicate N (1:Int)).getD i 0*st.getD i 0*st.getD i 0+(List.replicate N (1:Int)).getD i 0*(ringT N T P).err st i 2*(ringT N T P).err st i 2/\(List.replicate N (1:Int)).getD i 0*st.getD i 0*st.getD i 0+(List.replicate N (1:Int)).getD i 0*(ringT N T P).err st i 2*(ringT N T P).err st i 2<=60
  obtain⟨a,ha⟩:∃ a,st.getD i 0=a:=⟨_,rfl⟩
  obtain⟨b,hb⟩:∃ b,(ringT N T P).err st i 2=b:=⟨_,rfl⟩
  rw[ha] at e2 ⊢
  rw[hb] at e1 ⊢
  have s1:=sq_bd (a:=a) (b:=2) (by omega) (by omega)
  have s2:=sq_bd (a:=b) (b:=7) (by omega) (by omega)
  rcases one_at N i with e|e<;>rw[e]
  ·simp
  ·rw[Int.one_mul,Int.one_mul]
   omega
 have ht:=totT_bd hf N 0
 rw[← h.cost]
 show 0<=totF ((ringT N T P).one st) 0 N/\totF ((ringT N T P).one st) 0 N<4294967296
 omega
def scT(co:List Crs):Sc:=⟨co,[⟨7800,[2000,2200]⟩],[500,400],80,3⟩
structure CrT(y:Crs):Prop where
 L:500<=y.L/\y.L<=8691
 F:60000<=y.F/\y.F<=644286
 T:y.T=60000
 W:y.W=1
theorem crT_inR{co:List Crs}(h:∀ y∈co,CrT y):∀ y∈co,InR y.T/\InR y.W:=λy hy=>by
 have:=h y hy
 rw[this.T,this.W]
 exact⟨⟨by decide,by decide⟩,⟨by decide,by decide⟩⟩
theorem scT_ok{co:List Crs}(h:∀ y∈co,CrT y)(h1:1<=co.length)(h6:co.length<=96):scB (scT co)=true:=by
 unfold scB
 rw[Bool.and_eq_true,Bool.and_eq_true,Bool.and_eq_true]
 refine⟨⟨⟨?_,show (List.range 2).all (gauB [500,400])=true from by decide +kernel⟩,show [(⟨7800,[2000,2200]⟩:Mtl)].all (metB 2)=true from by decide +kernel⟩,List.all_eq_true.2 λy hy=>?_⟩
 ·unfold headB
  have:inBT (co.length:Int) 1 96=true:=inB_iffW.2 (by omega)
  show (inBT (co.length:Int) 1 96&&inBT 1 1 4&&inBT 2 1 16&&inBT 80 1 100&&decide ((0:Int)<=3)&&decide ((3:Int)<=96))=true
  rw[this]
  decide
 ·obtain⟨a,b,c,d⟩:=h y hy
  unfold crsB
  rw[c,d,inB_iffW.2 (show 1<=y.L/\y.L<=100000 by omega),inB_iffW.2 (show 1<=y.F/\y.F<=10000000 by omega)]
  decide +kernel
theorem pullT_le{a l f:Int}(ha:a<=500)(hl:l<=8691)(hf:f<=644286):pullN 7800 a l f<=10000000:=by
 unfold pullN
 simp only[prodN_cons,show prodN []=1 from rfl]
 refine Nat.le_of_lt_succ (Nat.div_lt_of_lt_mul ?_)
 obtain⟨a',ha'⟩:∃ x,a.toNat=x:=⟨_,rfl⟩
 obtain⟨l',hl'⟩:∃ x,l.toNat=x:=⟨_,rfl⟩
 obtain⟨f',hf'⟩:∃ x,f.toNat=x:=⟨_,rfl⟩
 rw[ha',hl',hf']
 have h2:a'<=500:=by omega
 have h3:l'<=8691:=by omega
 have h4:f'<=644286:=by omega
 refine Nat.lt_of_le_of_lt (Nat.mul_le_mul (Nat.le_refl _) (Nat.mul_le_mul (Nat.le_refl _) (Nat.mul_le_mul (Nat.le_refl _) (Nat.mul_le_mul h2 (Nat.mul_le_mul h2 (Nat.mul_le_mul h3 (Nat.mul_le_mul h3 (Nat.mul_le_mul h4 (Nat.mul_le_mul h4 (Nat.le_refl _)))))))))) ?_
 decide
theorem pkT{co:List Crs}{i j:Nat}{mt:Mtl}{s g:Int}(h:Pk (scT co) i j mt s g):mt.D=7800/\g<=500:=by
 have h1:=h.hme
 have h2:=h.hg
 unfold scT at h1 h2
 dsimp only at h1 h2
 refine⟨?_,?_⟩
 ·match i,h1 with
  |0,h1=>cases h1;rfl
  |i+1,h1=>simp at h1
 ·match j,h2 with
  |0,h2=>cases h2;decide
  |1,h2=>cases h2;decide
  |j+2,h2=>simp at h2
theorem sumT_bd:∀ (l:List Int),(∀ y∈l,0<=y/\y<=10000000)->0<=sumI l/\sumI l<=10000000*(l.length:Int)
 |[],_=>by simp[sumI]
 |a :: l,h=>by
  have h1:=h a List.mem_cons_self
  have h2:=sumT_bd l λy hy=>h y (List.mem_cons_of_mem _ hy)
  rw[sumI_cons,List.length_cons]
  omega
theorem costT_bd{co:List Crs}(h:∀ y∈co,CrT y)(h1:1<=co.length)(h6:co.length<=96){f:Nat->Nat}(hf:∀ i,i<co.length->f i<1*2/\prN (scT co) 2 i (f i)≠-1) :
 0<=sumI ((List.range co.length).map λi=>prN (scT co) 2 i (f i))/\sumI ((List.range co.length).map λi=>prN (scT co) 2 i (f i))<4294967296:=by
 have hok:=scB_ok (scT_ok h h1 h6) (crT_inR h)
 have hs:=sumT_bd ((List.range co.length).map λi=>prN (scT co) 2 i (f i)) λy hy=>by
  obtain⟨i,hi,rfl⟩:=List.mem_map.1 hy
  have hi:=List.mem_range.1 hi
  obtain⟨q1,q2⟩:=hf i hi
  obtain⟨y,mt,s,g,e1,e2,e3,-,e5⟩:=prN_eq hok (k:=2) (t:=i) (p:=f i) hi (by show f i/2<1;omega) (by show f i%2<2;omega) q2
  obtain⟨d1,d2⟩:=pkT e2
  have hy:=h y (List.mem_of_getElem? e1)
  have hp:=pullT_le d2 hy.L.2 hy.F.2
  rw[e5]
  unfold pricF
  rw[d1,hy.W,hy.T,Int.one_mul]
  omega
 rw[List.length_map,List.length_range] at hs
 omega
theorem pullT_bd{co:List Crs}(h:∀ y∈co,CrT y)(h1:1<=co.length)(h6:co.length<=96){f:Nat->Nat}(hf:∀ i,i<co.length->f i<1*2) :
 0<=sumI ((List.range co.length).map λi=>tgP (scT co) i (f i/2,f i%2))/\sumI ((List.range co.length).map λi=>tgP (scT co) i (f i/2,f i%2))<4294967296:=by
 have hok:=scB_ok (scT_ok h h1 h6) (crT_inR h)
 have hs:=sumT_bd ((List.range co.length).map λi=>tgP (scT co) i (f i/2,f i%2)) λy hy=>by
  obtain⟨i,hi,rfl⟩:=List.mem_map.1 hy
  have hi:=List.mem_range.1 hi
  have q1:=hf i hi
  obtain⟨mt,s,g,e2⟩:=hok.pk (f i/2) (f i%2) (by show f i/2<1;omega) (by show f i%2<2;omega)
  have hc:(scT co).co[i]?=some (co[i]'hi):=List.getElem?_eq_getElem hi
  obtain⟨d1,d2⟩:=pkT e2
  have hy:=h _ (List.mem_of_getElem? hc)
  have hp:=pullT_le d2 hy.L.2 hy.F.2
  rw[tgP_eq e2 hc,d1]
  omega
 rw[List.length_map,List.length_range] at hs
 omega
end
end
section
section
open Go.RowKit Go.Shelf
theorem o_lots{L:List Lot}(h:LotsOf (balE [[oMv]]) L)(hp:L.Pairwise (λx y=>cfL x y<=0)):L=[(oP1.1,oP1.2,-7),(oP2.1,oP2.2,7)]:=by
 have b1:balE [[oMv]] oP1 = -7:=by rw[o_bal,if_pos rfl]
 have b2:balE [[oMv]] oP2=7:=by rw[o_bal,if_neg (by decide +kernel),if_pos rfl]
 have m1:=h.every oP1 ⟨by decide,by decide⟩ (by rw[b1];decide)
 have m2:=h.every oP2 ⟨by decide,by decide⟩ (by rw[b2];decide)
 rw[b1] at m1
 rw[b2] at m2
 have hall:∀ x∈L,x=(oP1.1,oP1.2,(-7:Int))\/x=(oP2.1,oP2.2,(7:Int)):=λx hx=>by
  obtain⟨-,h2,h3⟩:=h.all x hx
  obtain⟨a,i,q⟩:=x
  dsimp only at h2 h3
  rw[o_bal] at h2
  by_cases e1:(a,i)=oP1
  ·left
   rw[if_pos e1] at h2
   rw[h2,← e1]
  ·rw[if_neg e1] at h2
   by_cases e2:(a,i)=oP2
   ·right
    rw[if_pos e2] at h2
    rw[h2,← e2]
   ·rw[if_neg e2] at h2
    exact absurd h2 h3
 have hnd:L.Nodup:=(List.pairwise_map.1 h.once).imp (λhne e=>hne (by rw[e]))
 have hp2:L.Perm [(oP1.1,oP1.2,(-7:Int)),(oP2.1,oP2.2,(7:Int))]:=by
  refine (List.perm_ext_iff_of_nodup hnd (by decide +kernel)).2 λx=>⟨λhx=>?_,λhx=>?_⟩
  ·rcases hall x hx with rfl|rfl<;>simp
  ·simp only[List.mem_cons,List.not_mem_nil,or_false] at hx
   rcases hx with rfl|rfl
   ·exact m1
   ·exact m2
 have hl:=hp2.length_eq
 match L,hl with
 |[x,y],_ =>
  have hx:=hall x (by simp)
  have hy:=hall y (by simp)
  simp only[List.pairwise_cons,List.mem_singleton,forall_eq] at hp
  simp only[List.nodup_cons,List.mem_singleton] at hnd
  rcases hx with rfl|rfl<;>rcases hy with rfl|rfl
  ·exact absurd rfl hnd.1
  ·rfl
  ·exfalso
   have:=hp.1
   revert this
   decide +kernel
  ·exact absurd rfl hnd.1
theorem o_ltext:linesL ([(oP1.1,oP1.2,(-7:Int)),(oP2.1,oP2.2,(7:Int))].map lotL)=[108,111,116,32,111,117,116,115,105,100,101,32,112,108,97,110,107,32,45,55,10,108,111,116,32,115,116,111,114,101,32,112,108,97,110,107,32,55,10]:=by decide +kernel
theorem houses_any(w:World)(bg:Nat)(hg:Gl bg w)(hb:bg<=w.heap.size):Calls Tryz.prog 6 #[] w λe w'=>e=.returned (.bool true)/\Below w.heap.size w w':=by
 refine calls_cps ?_
 intro R hR
 obtain⟨F,hF0⟩:∃ F:Nat->Prop,(λj=>w.heap.size<=j)=F:=⟨_,rfl⟩
 have hu:Up w F:=by rw[← hF0];exact λb hb=>hb
 have hF:∀ j,F j->bg<=j:=λj hj=>by rw[← hF0] at hj;exact Nat.le_trans hb hj
 have HLow:=zh (show ∀ W,Kx F w W->Below w.heap.size w W from λW k=>Kx.low (Below.refl _ w) k (λj hj=>by rw[← hF0] at hj;exact hj) (Nat.le_refl _))
 have HU:=zh hu
 have HG:=zh hg
 have HN:=zh (new_any w F hu)
 clear hu hg hF0
 go_enter Tryz.func6,Tryz.ntmps6
 go_wp2_with fail
 refine HN.out.mono ?_
 rintro e w1 ⟨h,a,dk,hge,rfl,hh1,hb1⟩
 have HH1:=zh (hst_new hh1)
 have HB1:=zh hb1
 have Hge:=zh hge
 have HL1:=zh (line_post w1 F h ⟨[],false⟩ 0 (hst_new hh1) (by decide) (HU.out.below hb1) ⟨oL.toArray⟩ (by decide) oWs (by show [] ∉ spl (fstL oL);decide) (by show (fstL oL).length<=4096;decide) bg (HG.out.on (hb1.mono hb)) (Nat.le_trans hb hb1.size) hF (λt b'=>t=[101,110,116,114,121,32,48,10]/\b'=⟨[[oMv]],false⟩) o_spl (by decide)
  (λhz=>by rw[o_read] at hz;cases hz) (λ_=>by
   rw[o_read]
   dsimp only
   rw[o_mvs]
   unfold postT eitherT
   rw[o_post]
   exact⟨o_text,rfl⟩))
 clear hh1 hb1 hge
 have e1:((⟨[101,110,116,114,121,32,48,10].toArray⟩:ByteArray).toList==[101,110,116,114,121,32,48,10])=true:=by rw[Lib.toList_data];rfl
 go_wp2_with fail
 refine HL1.out.mono ?_
 rintro e w2 ⟨t,rfl,b',⟨rfl,rfl⟩,hh2,hk2⟩
 have hk12:Kx F w w2:=(kx_of_below HB1.out).trans hk2 (λ_ _ h=>h)
 have HK2:=zh hk12
 have HL2:=zh (line_lots w2 F h ⟨[[oMv]],false⟩ 1 hh2 (by decide) (HU.out.kx hk12) ⟨lotsW.toArray⟩ (by decide) [] (by show [] ∉ spl (fstL lotsW);decide) (by show (fstL lotsW).length<=4096;decide) bg (HG.out.kx hk12 hF hb) (Nat.le_trans hb hk12.size) hF (λt b'=>t=[108,111,116,32,111,117,116,115,105,100,101,32,112,108,97,110,107,32,45,55,10,108,111,116,32,115,116,111,114,101,32,112,108,97,110,107,32,55,10]) (by decide)
  (λhz=>by revert hz;decide) (λ_ L h1 h2=>by rw[o_lots h1 h2];exact o_ltext))
 have e2:((⟨[108,111,116,32,111,117,116,115,105,100,101,32,112,108,97,110,107,32,45,55,10,108,111,116,32,115,116,111,114,101,32,112,108,97,110,107,32,55,10].toArray⟩:ByteArray).toList==[108,111,116,32,111,117,116,115,105,100,101,32,112,108,97,110,107,32,45,55,10,108,111,116,32,115,116,111,114,101,32,112,108,97,110,107,32,55,10])=true:=by rw[Lib.toList_data];rfl
 clear hh2 hk2 hk12
 go_wp2_with fail
 refine HL2.out.mono ?_
 rintro e w3 ⟨t,rfl,b',rfl,hh3,hk3⟩
 have hf:=hR.out (.returned (.bool true)) w3 ⟨rfl,HLow.out w3 (HK2.out.trans hk3 (λ_ _ h=>h))⟩
 have HF:=zh hf
 clear hf hh3 hk3 hR
 go_wp2
 exact HF.out
end
end
section
section
variable{P:Program}{ops:Array Oper}{md:Region.Mode}{C:World->Prop}{n:Nat}
def headT(P:Program)(md:Region.Mode)(ops:Array Oper)(C:World->Prop)(n:Nat)(L:Array Bool->Act->Prop):Nat->Array Bool->Act->Prop
 |0,ls,a=>L ls a
 |f+1,ls,a=>Region.ready md ops ls≠[]/\∀ i∈Region.ready md ops ls,i<n/\qOp P ops C i (headT P md ops C n L f (ls.setIfInBounds i true)) a
theorem any_of_headT{g:Nat}{L:Array Bool->Act->Prop}{Q:Exit->Act->World->Prop}(hL:∀ ls a w,C w->L ls a->wpAny P md ops Q g ls a w)(f:Nat):∀ (ls:Array Bool) (a:Act) (w:World),C w->headT P md ops C n L f ls a->wpAny P md ops Q (f+g) ls a w:=by
 induction f with
 |zero=>intro ls a w hw h;rw[Nat.zero_add];exact hL _ _ _ hw h
 |succ f ih =>
  intro ls a w hw h
  rw[Nat.succ_add]
  exact⟨λh0=>absurd h0 h.1,λi hi=>wpOp_of_qOp hw (λa' w' hw' h'=>ih _ a' w' hw' h') (h.2 i hi).2⟩
theorem head_lt{ls:Array Bool}{i j:Nat}(hs:Region.sinkB md ops n=true)(hc:Region.chainB md ops n=true)(hn:n<ops.size)(hi:i<n)(inv:HeadInv md ops n ls)(hr:i∈Region.ready md ops ls)(hj:j∈Region.ready md ops ls):j<n:=by
 rcases Nat.lt_or_ge j n with h|h
 ·exact h
 ·exact absurd hj (tail_waits hs hc hn inv _ i rfl hi (mem_ready.1 hr).1 j h)
theorem headT_first{i:Nat}{o:Oper}{v:Value}{L:Array Bool->Act->Prop}(ho:ops[i]?=some o)(hsel:∀ (j:Nat) (o:Oper) cs b,ops[j]?=some o->o.op≠.select cs b)(hs:Region.sinkB md ops n=true)(hc:Region.chainB md ops n=true)(hn:n<ops.size)(hi:i<n)(hend:∀ ls a,L ls a->∀ j∈Region.ready md ops ls,n<=j)(f:Nat) :
 ∀ (ls:Array Bool) (a:Act),HeadInv md ops n ls->(∀ j oj,ops[j]?=some oj->j≠i->ls.getD j true=false->(∀ e∈oj.after,Region.binds md e=true->e.on≠i)->o.apart ops oj=true)->i∈Region.ready md ops ls->YieldsIn P ops C o v a->
  headT P md ops C n L f (ls.setIfInBounds i true) (a.put o.dst v)->headT P md ops C n L (f+1) ls a:=by
 induction f with
 |zero =>
  intro ls a inv hfr hr hy H
  refine⟨λh=>(by rw[h] at hr;cases hr),λj hj=>⟨head_lt hs hc hn hi inv hr hj,?_⟩⟩
  by_cases e:j=i
  ·subst e;exact hy.qOp ho H
  ·exact absurd (head_lt hs hc hn hi inv hr hj) (Nat.not_lt.2 (hend _ _ H j (ready_mono hj e)))
 |succ f ih =>
  intro ls a inv hfr hr hy H
  refine⟨λh=>(by rw[h] at hr;cases hr),λj hj=>⟨head_lt hs hc hn hi inv hr hj,?_⟩⟩
  by_cases e:j=i
  ·subst e;exact hy.qOp ho H
  obtain⟨hu,oj,hoj,hall⟩:=mem_ready.1 hj
  have hno:∀ x∈oj.after,Region.binds md x=true->x.on≠i:=λx hx hb hq=>by
   have h1:=hall x hx hb
   rw[hq,getD_both (mem_ready.1 hr).1] at h1
   cases h1
  refine qOp_mono (λa' h3=>?_) (qOp_put hoj (hfr j oj hoj e hu hno) (λcs b=>hsel i o cs b ho) (λcs b=>hsel j oj cs b hoj) hy (H.2 j (ready_mono hj e)).2)
  refine ih (ls.setIfInBounds j true) a' (inv.set hj (head_lt hs hc hn hi inv hr hj)) (λk ok hk hki hun hnw=>hfr k ok hk hki ?_ hnw) (ready_mono hr (Ne.symm e)) h3.1 (by rw[Array.setIfInBounds_comm _ _ e];exact h3.2)
  by_cases q:j=k
  ·subst q;exact hu
  ·rwa [getD_set_ne true q] at hun
theorem headT_lex{g:Nat}{K:Act->Prop}(hsel:Region.noSelect ops=true)(hs:Region.sinkB md ops n=true)(hc:Region.chainB md ops n=true)(hn:n<ops.size)(l:List Oper) :
 ∀ (k:Nat) (ls:Array Bool) (a:Act),(∀ j,j<l.length->l[j]?=ops[k+j]?)->k+l.length=n->HeadInv md ops n ls->Region.lexHead md ops g l.length k ls=true->wpQuiet P ops C K l a->
  headT P md ops C n (λls' a'=>Region.seqB md ops g n ls'=true/\K a') l.length ls a:=by
 induction l with
 |nil =>
  intro k ls a _ hk _ hB h
  obtain rfl:k=n:=by simpa using hk
  exact⟨by simpa[Region.lexHead] using hB,h⟩
 |cons o l ih =>
  intro k ls a hl hk inv hB h
  have h0:ops[k]?=some o:=by simpa using (hl 0 (by simp)).symm
  simp only[List.length_cons,Region.lexHead,Bool.and_eq_true] at hB
  simp only[List.length_cons] at hk
  have hr:k∈Region.ready md ops ls:=by simpa using hB.1.1
  obtain⟨v,hy,hK⟩:=yieldsIn_of_qOp h0 (show qOp P ops C k (wpQuiet P ops C K l) a by unfold qOp;simp only[h0];exact h)
  have hkn:k<n:=by omega
  refine headT_first h0 (Region.noSelect_spec hsel) hs hc hn hkn (λls' a' hL=>seqB_ready hL.1) l.length ls a inv (Region.free_spec h0 hB.1.2) hr hy ?_
  exact ih (k+1) _ _ (λj hj=>by have:=hl (j+1) (by simp;omega);simpa[Nat.add_assoc,Nat.add_comm 1 j] using this) (by omega) (inv.set hr hkn) hB.2 hK
theorem wp_region_headT{id:Nat}{Q:Exit->Act->World->Prop}{a:Act}{w:World}{l:List Oper}(n:Nat)(hm:P.follows .mixedOrders=true)(hB:Region.lexTailB .any l.toArray n=true)(hC:C { w with drawn:=w.drawn+1 })
 (h:wpQuiet P l.toArray C (λa'=>∀ w',C w'->wpList P l.toArray Q (l.drop n) a' w') (l.take n) a):(Code.region id l.toArray true).wp P Q a w:=by
 simp only[Region.lexTailB,Bool.and_eq_true,decide_eq_true_eq] at hB
 obtain⟨⟨⟨⟨hsel,hn⟩,hs⟩,hc⟩,hlex⟩:=hB
 have hn':n<l.length:=by simpa using hn
 have htl:(l.take n).length=n:=by simp;omega
 have inv0:HeadInv .any l.toArray n (Array.replicate l.toArray.size false):=⟨by simp,λj oj _ hl=>(by rw[getD_replicate_false] at hl;cases hl),λt _ ht=>getD_in (by simpa using ht) (getD_replicate_false _ _)⟩
 have H:=headT_lex (md:=.any) (g:=l.toArray.size-n) hsel hs hc hn (l.take n) 0 _ a (λj hj=>by rw[htl] at hj;simp[hj]) (by simpa using htl) inv0 (by rw[htl];exact hlex) h
 rw[htl] at H
 have H2:=any_of_headT (Q:=Q) (g:=l.toArray.size-n) (λls a' w' hw' hL=>by
  have:=wpAny_of_seq (md:=.any) (Q':=Q) (l.drop n) n ls a' w' (λj=>by simp[List.getElem?_drop]) (by rw[List.length_drop];exact hL.1) (hL.2 w' hw')
  rwa [List.length_drop] at this) n _ a _ hC H
 refine wp_region_any hm ?_
 rwa [show n+(l.toArray.size-n)=l.toArray.size by omega] at H2
end
end
section
section
open Go.RowKit Go.Shelf
theorem ISl.turn{W w:World}{F G:Nat->Prop}{A:Option Addr}{n c:Nat}{l:List Int}(h:ISl W F A n c l)(hs:W.heap.size<=w.heap.size)(hk:∀ j,j<W.heap.size->F j->G j/\w.heap[j]?=W.heap[j]?):ISl w G A n c l:=by
 refine⟨⟨h.sl.1,h.sl.2.1,λhn=>?_⟩,h.cap,λa hn ha=>?_⟩
 ·obtain⟨b,o,hA,hb,hc⟩:=h.sl.2.2 hn
  obtain⟨hf,C,hC⟩:=h.ty _ hn hA
  exact⟨b,o,hA,Nat.lt_of_lt_of_le hb hs,λj u hu=>(World.cell?_of_block (w:=W) (a:=⟨b,o+j,none⟩) (hk b hb hf).2).trans (hc j u hu)⟩
 ·obtain⟨h1,C,hC⟩:=h.ty a hn ha
  obtain⟨g1,g2⟩:=hk _ (Array.getElem?_eq_some_iff.1 hC).1 h1
  exact⟨g1,C,g2.trans hC⟩
theorem own_turn{W w:World}{F G:Nat->Prop}{e:TypeId}{sz n:Nat}{v:Value}{xs:List Value}(h:W.ownsRow 0 e sz v n xs)(hF:∀ g,v.ownBlock=some g->F g)(hk:∀ j,j<W.heap.size->F j->G j/\w.heap[j]?=W.heap[j]?):w.ownsRow 0 e sz v n xs/\∀ g,v.ownBlock=some g->G g:=by
 have hlt:=λg (hg:v.ownBlock=some g)=>(h.lt g hg).2
 exact⟨own_heap h λg hg=>(hk g (hlt g hg) (hF g hg)).2,λg hg=>(hk g (hlt g hg) (hF g hg)).1⟩
theorem HTn.turn{W w:World}{F G:Nat->Prop}{h:Nat}{rg:Option (Rn×List Int×List Int)}{st ga:List Int}{me:List Mtl}{co:List Crs}(hT:HTn W F h rg st ga me co)(hs:W.heap.size<=w.heap.size)(hk:∀ j,j<W.heap.size->F j->G j/\w.heap[j]?=W.heap[j]?):HTn w G h rg st ga me co:=by
 obtain⟨C,h1,h2,⟨A3,c3,p3,q3⟩,⟨A4,c4,p4,q4⟩,⟨A,c,xs,m1,m2,m3,m4⟩,⟨A6,c6,k1,k2,k3⟩⟩:=hT
 have hb:=hk h h1.lt h1.own
 have hm:=own_turn (G:=G) m2 m3 hk
 have hc:=own_turn (G:=G) k2 k3 hk
 refine⟨C,⟨hb.1,hb.2.trans h1.box,h1.made,h1.sz⟩,λr fi th hr=>?_,⟨A3,c3,p3,q3.turn hs hk⟩,⟨A4,c4,p4,q4.turn hs hk⟩,⟨A,c,xs,m1,hm.1,hm.2,λi m hi=>?_⟩,⟨A6,c6,k1,hc.1,hc.2⟩⟩
 ·obtain⟨rb,e1,e2,Ar,n,cr,Br,m,d,e3,e4,e5⟩:=h2 r fi th hr
  have hr:=hk rb (Array.getElem?_eq_some_iff.1 e3).1 e2
  exact⟨rb,e1,hr.1,Ar,n,cr,Br,m,d,hr.2.trans e3,e4.turn hs hk,e5.turn hs hk⟩
 ·obtain⟨Ai,ci,e1,e2,e3⟩:=m4 i m hi
  exact⟨Ai,ci,e1,e2,e3.turn hs hk⟩
structure LH(wc W:World)(F:Nat->Prop)(h:Nat)(rg:Option (Rn×List Int×List Int))(st ga:List Int)(me:List Mtl)(co:List Crs):Prop where
 low:Below wc.heap.size wc W
 up:Up W F
 ge:∀ j,F j->wc.heap.size<=j
 ht:HTn W F h rg st ga me co
section
variable{wc W W':World}{F:Nat->Prop}{h:Nat}{rg rg':Option (Rn×List Int×List Int)}{st ga st' ga':List Int}{me me':List Mtl}{co co':List Crs}
theorem LH.below(k:LH wc W F h rg st ga me co)(hb:Below W.heap.size W W'):LH wc W' F h rg st ga me co:=⟨k.low.trans (hb.mono k.low.size),k.up.below hb,k.ge,k.ht.below hb⟩
theorem LH.line(k:LH wc W F h rg st ga me co){t t0:List UInt8}(q:TQ W F h rg' st' ga' me' co' t0 t W'):t=t0/\LH wc W' F h rg' st' ga' me' co'/\Kx F W W':=
 ⟨q.1,⟨Kx.low k.low q.2.2 k.ge k.low.size,k.up.kx q.2.2,k.ge,q.2.1⟩,q.2.2⟩
theorem LH.own(k:LH wc W F h rg st ga me co){S:Nat->Prop}(hS:Kx S W W')(hn:∀ j,S j->¬ F j)(hge:∀ j,S j->wc.heap.size<=j):∃ G,LH wc W' G h rg st ga me co/\(∀ j,j<W.heap.size->G j->F j)/\∀ j,W.heap.size<=j->j<W'.heap.size->¬ G j:=by
 refine⟨λj=>(F j/\j<W.heap.size)\/W'.heap.size<=j,⟨Kx.low k.low hS hge k.low.size,λj hj=>.inr hj,λj hj=>?_,k.ht.turn hS.size λj hj hF=>⟨.inl ⟨hF,hj⟩,hS.block j hj λhs=>hn j hs hF⟩⟩,λj hj hG=>?_,λj h1 h2 hG=>?_⟩
 ·rcases hj with hj|hj
  ·exact k.ge j hj.1
  ·exact Nat.le_trans (Nat.le_trans k.low.size hS.size) hj
 ·rcases hG with hG|hG
  ·exact hG.1
  ·have:=hS.size
   omega
 ·rcases hG with hG|hG
  ·omega
  ·omega
theorem LH.new(k:LH wc W F h rg st ga me co)(hb:Below W.heap.size W W'):∃ G,LH wc W' G h rg st ga me co/\(∀ j,j<W.heap.size->G j->F j)/\∀ j,W.heap.size<=j->j<W'.heap.size->¬ G j:=
 k.own (kx_of_below (S:=λ_=>False) hb) (λ_ hj=>hj.elim) (λ_ hj=>hj.elim)
theorem LH.gl(k:LH wc W F h rg st ga me co){bg:Nat}(hg:Gl bg wc)(hb:bg<=wc.heap.size):Gl bg W/\bg<=W.heap.size/\∀ j,F j->bg<=j:=⟨hg.on (k.low.mono hb),Nat.le_trans hb k.low.size,λj hj=>Nat.le_trans hb (k.ge j hj)⟩
end
structure RowF{α:Type}(enc:α->List Value)(W:World)(F:Nat->Prop)(A:Option Addr)(n c:Nat)(l:List α):Prop where
 sl:SlE enc 1 W A n l
 cap:n<=c/\c<=9223372036854775807
 far:∀ a,A=some a->¬ F a.block
 lt:∀ a,A=some a->a.block<W.heap.size
theorem RowF.kx{α:Type}{enc:α->List Value}{W W':World}{F:Nat->Prop}{A:Option Addr}{n c:Nat}{l:List α}(r:RowF enc W F A n c l)(k:Kx F W W'):RowF enc W' F A n c l:=
 ⟨⟨r.sl.1,r.sl.2.kx k λa _ ha=>r.far a ha⟩,r.cap,r.far,λa ha=>Nat.lt_of_lt_of_le (r.lt a ha) k.size⟩
theorem RowF.below{α:Type}{enc:α->List Value}{W W':World}{F:Nat->Prop}{A:Option Addr}{n c:Nat}{l:List α}(r:RowF enc W F A n c l)(k:Below W.heap.size W W'):RowF enc W' F A n c l:=
 ⟨r.sl.below k,r.cap,r.far,λa ha=>Nat.lt_of_lt_of_le (r.lt a ha) k.size⟩
theorem RowF.to{α:Type}{enc:α->List Value}{W W':World}{F G:Nat->Prop}{A:Option Addr}{n c:Nat}{l:List α}(r:RowF enc W F A n c l){S:Nat->Prop}(k:Kx S W W')(hS:∀ a,A=some a->¬ S a.block)(hG:∀ j,j<W.heap.size->G j->F j):RowF enc W' G A n c l:=
 ⟨⟨r.sl.1,r.sl.2.kx k λa _ ha=>hS a ha⟩,r.cap,λa ha hg=>r.far a ha (hG _ (r.lt a ha) hg),λa ha=>Nat.lt_of_lt_of_le (r.lt a ha) k.size⟩
theorem sl_lt{α:Type}{enc:α->List Value}{W:World}{A:Option Addr}{n:Nat}{l:List α}(h:SlE enc 1 W A n l)(hn:0<n):∀ a,A=some a->a.block<W.heap.size:=λa ha=>by
 obtain⟨b,o,hA,hb,-⟩:=h.2.2 hn
 rw[ha] at hA
 cases hA
 exact hb
theorem ring_str(N T P:Nat):((⟨#[114,105,110,103,32]⟩++⟨(Lib.itoa (N:Int)).toArray⟩++⟨#[32,50,32,48,32,50,32]⟩++⟨(Lib.itoa (T:Int)).toArray⟩++⟨#[32]⟩++⟨(Lib.itoa (P:Int)).toArray⟩++⟨#[32,49,48,48]⟩:ByteArray)).data.toList=linN ringW [N,2,0,2,T,P,100]:=by
 have i2:Lib.itoa 2=[50]:=by decide +kernel
 have i0:Lib.itoa 0=[48]:=by decide +kernel
 have i100:Lib.itoa 100=[49,48,48]:=by decide +kernel
 simp only[ba_app,linN,ringW,List.flatMap_cons,List.flatMap_nil,List.append_nil]
 rw[show ((2:Nat):Int)=2 from rfl,show ((0:Nat):Int)=0 from rfl,show ((100:Nat):Int)=100 from rfl,i2,i0,i100]
 simp
theorem scale_str(b:Nat):((⟨#[115,99,97,108,101,32]⟩++⟨(Lib.itoa (b:Int)).toArray⟩++⟨#[32,49,50]⟩:ByteArray)).data.toList=linN scaleW [b,12]:=by
 have i12:Lib.itoa 12=[49,50]:=by decide +kernel
 simp only[ba_app,linN,scaleW,List.flatMap_cons,List.flatMap_nil,List.append_nil]
 rw[show ((12:Nat):Int)=12 from rfl,i12]
 simp
theorem course_str(x y:Nat):((⟨#[99,111,117,114,115,101,32]⟩++⟨(Lib.itoa (x:Int)).toArray⟩++⟨#[32]⟩++⟨(Lib.itoa (y:Int)).toArray⟩++⟨#[32,54,48,48,48,48,32,49]⟩:ByteArray)).data.toList=linN courseW [x,y,60000,1]:=by
 have i6:Lib.itoa 60000=[54,48,48,48,48]:=by decide +kernel
 have i1:Lib.itoa 1=[49]:=by decide +kernel
 simp only[ba_app,linN,courseW,List.flatMap_cons,List.flatMap_nil,List.append_nil]
 rw[show ((60000:Nat):Int)=60000 from rfl,show ((1:Nat):Int)=1 from rfl,i6,i1]
 simp
theorem gauges_str:(⟨#[103,97,117,103,101,115,32,53,48,48,32,52,48,48]⟩:ByteArray).data.toList=linN gaugesW [500,400]:=by decide +kernel
theorem metal_str:(⟨#[109,101,116,97,108,32,55,56,48,48,32,50,48,48,48,32,50,50,48,48]⟩:ByteArray).data.toList=linN metalW [7800,2000,2200]:=by decide +kernel
theorem string_str:(⟨#[115,116,114,105,110,103,32,56,48,32,51]⟩:ByteArray).data.toList=linN stringW [80,3]:=by decide +kernel
theorem temper_str:(⟨#[116,101,109,112,101,114]⟩:ByteArray).data.toList=linN temperW []:=by decide +kernel
theorem wrap_small{a b:Int}(h:a=b)(h1 : -1000000000<=b)(h2:b<=1000000000):wrap64 a=b:=by subst h;unfold wrap64;omega
def rgT(N T P:Nat):Option (Rn×List Int×List Int):=some (⟨(N:Int),2,0,2,(T:Int),(P:Int),100⟩,List.replicate N (1:Int),List.replicate N (1:Int))
theorem rgT_ok{N T P:Nat}(h1:4<=N)(h2:N<=7)(hT:T<=2*N)(hP:P<=7):rgOk ⟨(N:Int),2,0,2,(T:Int),(P:Int),100⟩ (List.replicate N (1:Int)) (List.replicate N (1:Int))=true:=by
 have h:=rgOk_of (ringT_ok h1 h2 hT hP)
 simp only[ringT] at h
 exact h
theorem LH.said{wc W:World}{F:Nat->Prop}{h:Nat}{rg rg':Option (Rn×List Int×List Int)}{st ga st' ga':List Int}{me me':List Mtl}{co co':List Crs}(k:LH wc W F h rg st ga me co){t0:List UInt8}{s:ByteArray}
 (hc:Calls Tryz.prog 7 #[.pointer (some ⟨h,0,none⟩),.string s] W λe w'=>∃ t,e=.returned (.string ⟨t.toArray⟩)/\TQ W F h rg' st' ga' me' co' t0 t w') :
 Calls Tryz.prog 7 #[.pointer (some ⟨h,0,none⟩),.string s] W λe w'=>∃ z:ByteArray,e=.returned (.string z)/\z.data.toList=t0/\LH wc w' F h rg' st' ga' me' co'/\Kx F W w':=by
 refine hc.mono ?_
 rintro e w' ⟨t,rfl,q⟩
 obtain⟨rfl,h1,h2⟩:=k.line q
 exact⟨_,rfl,rfl,h1,h2⟩
section
variable{wc W:World}{F:Nat->Prop}{h bg:Nat}{rg:Option (Rn×List Int×List Int)}{st ga:List Int}{me:List Mtl}{co:List Crs}{s:ByteArray}(k:LH wc W F h rg st ga me co)(hg:Gl bg wc)(hb:bg<=wc.heap.size)
include k hg hb
theorem LH.ring{N T P:Nat}(hs:s.data.toList=linN ringW [N,2,0,2,T,P,100])(h1:4<=N)(h2:N<=7)(hT:T<=2*N)(hP:P<=7) :
 Calls Tryz.prog 7 #[.pointer (some ⟨h,0,none⟩),.string s] W λe w'=>∃ z:ByteArray,e=.returned (.string z)/\z.data.toList=[]/\LH wc w' F h (rgT N T P) st ga me co/\Kx F W w':=by
 obtain⟨g1,g2,g3⟩:=k.gl hg hb
 exact k.said (tline_ring W F h rg st ga me co k.ht k.up s bg g1 g2 g3 N T P hs (by omega) (by omega) (by omega) (rgT_ok h1 h2 hT hP))
theorem LH.temper(hs:s.data.toList=linN temperW []){N T P:Nat}(h1:4<=N)(h2:N<=7)(hT:T<=2*N)(hP:P<=7)(hrg:rg=rgT N T P){st':List Int}{cs:Int}(hbest:(ringT N T P).Best st' cs) :
 Calls Tryz.prog 7 #[.pointer (some ⟨h,0,none⟩),.string s] W λe w'=>∃ z:ByteArray,e=.returned (.string z)/\z.data.toList=linesL [rowL stepsW st',rowL costW [cs]]/\LH wc w' F h rg st' ga me co/\Kx F W w':=by
 obtain⟨g1,g2,g3⟩:=k.gl hg hb
 obtain⟨-,b2,b3⟩:=ringT_best h2 hP hbest
 exact k.said (tline_temper W F h rg st ga me co k.ht k.up s bg g1 g2 g3 hs (ringT N T P) (ringT_ok h1 h2 hT hP) hrg st' cs hbest (λx hx=>by have:=b2 x hx;unfold i64B;omega) (by unfold i64B;omega))
theorem LH.scale{nb:Nat}(hs:s.data.toList=linN scaleW [nb,12])(hn:nb<1000000)(hst:1<=st.length){M:List Nat}(hM:∀ x∈M,nb<=x/\x<2*nb)(hMl:M.length=st.length)(hst9:st.length<=9)
 (hsc:∀ (W:World) (A:Option Addr) (n c:Nat),SlE intE 1 W A n st->n<=c->c<=9223372036854775807->Calls Tryz.prog 11 #[.int .u64 (nb:Nat),.slice A n c,.int .i64 12] W λe w'=>∃ LA lc,e=.returned (.tuple #[.slice LA M.length lc,.int .i64 0])/\M.length<=lc/\lc<=9223372036854775807/\SlE u64E 1 w' LA M.length M/\(∀ a,LA=some a->W.heap.size<=a.block)/\Below W.heap.size W w') :
 Calls Tryz.prog 7 #[.pointer (some ⟨h,0,none⟩),.string s] W λe w'=>∃ z:ByteArray,e=.returned (.string z)/\z.data.toList=linesL [rowL freqW (natL M)]/\LH wc w' F h rg st ga me co/\Kx F W w':=by
 obtain⟨g1,g2,g3⟩:=k.gl hg hb
 refine k.said (tline_scale W F h rg st ga me co k.ht s bg g1 g2 g3 nb hs (by omega) hst M (λx hx=>by have:=hM x hx;omega) (by omega) λW' A n c h1 h2 h3=>(hsc W' A n c h1 h2 h3).mono ?_)
 rintro e w' ⟨LA,lc,q1,-,-,q2,-,q3⟩
 exact⟨LA,lc,q1,q2,q3⟩
theorem LH.gauges(hs:s.data.toList=linN gaugesW [500,400]) :
 Calls Tryz.prog 7 #[.pointer (some ⟨h,0,none⟩),.string s] W λe w'=>∃ z:ByteArray,e=.returned (.string z)/\z.data.toList=[]/\LH wc w' F h rg st [500,400] me co/\Kx F W w':=by
 obtain⟨g1,g2,g3⟩:=k.gl hg hb
 exact k.said (tline_gauges W F h rg st ga me co k.ht k.up s bg g1 g2 g3 [500,400] hs (λn hn=>by simp only[List.mem_cons,List.not_mem_nil,or_false] at hn;omega) (by decide) (by decide))
theorem LH.metal(hs:s.data.toList=linN metalW [7800,2000,2200])(hme:me=[]) :
 Calls Tryz.prog 7 #[.pointer (some ⟨h,0,none⟩),.string s] W λe w'=>∃ z:ByteArray,e=.returned (.string z)/\z.data.toList=[]/\LH wc w' F h rg st ga [⟨7800,[2000,2200]⟩] co/\Kx F W w':=by
 obtain⟨g1,g2,g3⟩:=k.gl hg hb
 exact k.said (tline_metal W F h rg st ga me co k.ht k.up s bg g1 g2 g3 hme 7800 2000 2200 hs (by decide))
theorem LH.course{x y:Nat}(hs:s.data.toList=linN courseW [x,y,60000,1])(hx:x<1000000)(hy:y<1000000)(hco:co.length<96) :
 Calls Tryz.prog 7 #[.pointer (some ⟨h,0,none⟩),.string s] W λe w'=>∃ z:ByteArray,e=.returned (.string z)/\z.data.toList=[]/\LH wc w' F h rg st ga me (co++[⟨x,y,60000,1⟩])/\Kx F W w':=by
 obtain⟨g1,g2,g3⟩:=k.gl hg hb
 exact k.said (tline_course W F h rg st ga me co k.ht k.up s bg g1 g2 g3 x y 60000 1 hs (by omega) hco)
end
theorem LH.string{wc W:World}{F:Nat->Prop}{h bg:Nat}{rg:Option (Rn×List Int×List Int)}{st:List Int}{co:List Crs}{s:ByteArray}(k:LH wc W F h rg st [500,400] [⟨7800,[2000,2200]⟩] co)(hg:Gl bg wc)(hb:bg<=wc.heap.size)(hs:s.data.toList=linN stringW [80,3])(hc:∀ y∈co,CrT y)(h1:1<=co.length)(h6:co.length<=96) :
 Calls Tryz.prog 7 #[.pointer (some ⟨h,0,none⟩),.string s] W λe w'=>∃ z:ByteArray,e=.returned (.string z)/\z.data.toList=chooseL (scT co) 1 2/\LH wc w' F h rg st [500,400] [⟨7800,[2000,2200]⟩] co/\Kx F W w':=by
 obtain⟨g1,g2,g3⟩:=k.gl hg hb
 exact k.said (tline_string W F h rg st [500,400] [⟨7800,[2000,2200]⟩] co k.ht s bg g1 g2 g3 80 3 hs (by decide) (by decide) (scT_ok hc h1 h6) (crT_inR hc) (λm hm=>by rw[List.mem_singleton] at hm;subst hm;decide))
theorem list_op(wd:ByteArray)(A:Option Addr)(n c:Nat)(l:List Int)(w:World)(h:SlE intE 1 w A n l)(hn:n<=1000)(hw:wd.size<=1000000)(hl:∀ x∈l,0<=x/\x<4294967296) :
 Calls Tryz.prog 10 #[.string wd,.slice A n c] w λe w'=>∃ z:ByteArray,e=.returned (.string z)/\z.data.toList=rowL wd.data.toList l++[10]/\Below w.heap.size w w':=
 (rlist_any wd A n c l w h hn hw hl).mono λ_ _ q=>⟨_,q.1,rfl,q.2⟩
theorem sizes_op(wd:ByteArray)(A:Option Addr)(n c:Nat)(l:List Nat)(w:World)(h:SlE u64E 1 w A n l)(hn:n<=1000)(hw:wd.size<=1000000)(hl:∀ x∈l,x<4294967296) :
 Calls Tryz.prog 12 #[.string wd,.slice A n c] w λe w'=>∃ z:ByteArray,e=.returned (.string z)/\z.data.toList=rowL wd.data.toList (natL l)++[10]/\Below w.heap.size w w':=
 (rsizes_any wd A n c l w h hn hw hl).mono λ_ _ q=>⟨_,q.1,rfl,q.2⟩
structure LS(W:World)(F:Nat->Prop)(lo sb:Nat)(A:Option Addr)(i c:Nat)(co:List Crs):Prop where
 box:W.heap[sb+3]?=some (.cells #[.slice A i c,.slice (some ⟨sb+1,0,none⟩) 1 1,.slice (some ⟨sb+2,0,none⟩) 2 2,.int .i64 80,.int .i64 3] 45 (0,0))
 mt:W.heap[sb+1]?=some (.cells #[.int .i64 7800,.slice (some ⟨sb,0,none⟩) 2 2] 41 (0,0))
 sg:W.heap[sb]?=some (.cells #[.int .i64 2000,.int .i64 2200] 3 (0,0))
 ga:W.heap[sb+2]?=some (.cells #[.int .i64 500,.int .i64 400] 3 (0,0))
 row:W.ownsRow lo 47 4 (.slice A i c) i (co.flatMap crsE)
 len:i=co.length
 lo:sb+4<=lo
 lt:sb+3<W.heap.size
 far:∀ j,sb<=j->j<sb+4->¬ F j
 off:∀ g,(Value.slice A i c).ownBlock=some g->¬ F g
section
variable{W W':World}{F:Nat->Prop}{lo sb:Nat}{A:Option Addr}{i c:Nat}{co:List Crs}
theorem LS.kx(k:LS W F lo sb A i c co)(hk:Kx F W W'):LS W' F lo sb A i c co:=by
 have hb:∀ j,sb<=j->j<sb+4->W'.heap[j]?=W.heap[j]?:=λj h1 h2=>hk.block j (by have:=k.lt;omega) (k.far j h1 h2)
 exact⟨(hb _ (by omega) (by omega)).trans k.box,(hb _ (by omega) (by omega)).trans k.mt,(hb _ (by omega) (by omega)).trans k.sg,(hb _ (by omega) (by omega)).trans k.ga,own_heap k.row λg hg=>hk.block g (k.row.lt g hg).2 (k.off g hg),k.len,k.lo,Nat.lt_of_lt_of_le k.lt hk.size,k.far,k.off⟩
theorem LS.below(k:LS W F lo sb A i c co)(hb:Below W.heap.size W W'):LS W' F lo sb A i c co:=k.kx (kx_of_below hb)
theorem LS.sc(k:LS W F lo sb A i c co):ScM W A i c (some ⟨sb+1,0,none⟩) 1 1 (some ⟨sb+2,0,none⟩) 2 2 (scT co):=by
 have hlt:=k.lt
 have sle:∀ (b x y:Nat) (t:TypeId) ,b<W.heap.size->W.heap[b]?=some (.cells #[.int .i64 (x:Int),.int .i64 (y:Int)] t (0,0))->SlE intE 1 W (some ⟨b,0,none⟩) 2 [(x:Int),(y:Int)]:=λb x y t hb hx=>⟨rfl,rfl,λ_=>⟨b,0,rfl,hb,λj u hu=>by
  rw[cell_of_row _ _ _ _ _ (0,0) hx]
  match j,hu with
  |0,hu=>exact hu
  |1,hu=>exact hu
  |j+2,hu=>simp[intE] at hu⟩⟩
 have hcap:=own_caps k.row
 refine⟨SlE.of_own k.row k.len,⟨rfl,λ_=>⟨sb+1,0,rfl,by omega,λj r hr=>?_⟩⟩,sle (sb+2) 500 400 _ (by omega) k.ga,Nat.le_trans hcap.1 hcap.2,by decide,by decide⟩
 match j,hr with
 |0,hr =>
  cases hr
  exact⟨some ⟨sb,0,none⟩,2,by rw[cell_of_row _ _ _ _ _ (0,0) k.mt];rfl,by rw[cell_of_row _ _ _ _ _ (0,0) k.mt];rfl,sle sb 2000 2200 _ (by omega) k.sg,by decide⟩
 |j+1,hr=>simp[scT] at hr
end
theorem LS.box2{W W1 W2:World}{F:Nat->Prop}{lo sb:Nat}{A:Option Addr}{i c:Nat}{co:List Crs}(k:LS W F lo sb A i c co)(h1:Below W.heap.size W W1)(hg:W1.grownBy W2 (Value.slice A i c).ownBlock) :
 W2.heap[sb+3]?=some (.cells #[.slice A i c,.slice (some ⟨sb+1,0,none⟩) 1 1,.slice (some ⟨sb+2,0,none⟩) 2 2,.int .i64 80,.int .i64 3] 45 (0,0)):=by
 have hlo4:=k.lo
 have k2:Kx (λj=>(Value.slice A i c).ownBlock=some j) W W2:=(kx_of_below h1).grown hg λj e=>.inl e
 exact (k2.block _ k.lt λe=>by have:=own_ge k.row e;omega).trans k.box
theorem LS.push{wc W W1 W2:World}{F:Nat->Prop}{lo sb h:Nat}{A A':Option Addr}{i c c':Nat}{co:List Crs}{x:Crs}{rg:Option (Rn×List Int×List Int)}{st ga:List Int}{me:List Mtl}{co':List Crs}(k:LS W F lo sb A i c co)(kh:LH wc W F h rg st ga me co')(hlo:wc.heap.size<=sb)(h1:Below W.heap.size W W1)(hg:W1.grownBy W2 (Value.slice A i c).ownBlock)
 (ho:W2.ownsRow lo 47 4 (.slice A' (i+1) c') (i+1) (co.flatMap crsE++crsE x)) (hl:(Value.slice A' (i+1) c').ownBlock=(Value.slice A i c).ownBlock\/(Value.slice A' (i+1) c').ownBlock=some W1.heap.size) :
 ∃ G,LH wc (W2.setCell ⟨sb+3,0,none⟩ (.slice A' (i+1) c')) G h rg st ga me co'/\LS (W2.setCell ⟨sb+3,0,none⟩ (.slice A' (i+1) c')) G lo sb A' (i+1) c' (co++[x])/\(∀ j,j<W.heap.size->G j->F j)/\Kx (λj=>lo<=j\/j=sb+3) W (W2.setCell ⟨sb+3,0,none⟩ (.slice A' (i+1) c'))/\∀ j,W.heap.size<=j->j<W1.heap.size->(W2.setCell ⟨sb+3,0,none⟩ (.slice A' (i+1) c')).heap[j]?=W1.heap[j]?:=by
 obtain⟨V,hV⟩:∃ V,W2.setCell ⟨sb+3,0,none⟩ (.slice A' (i+1) c')=V:=⟨_,rfl⟩
 have hlo4:=k.lo
 have hlt:=k.lt
 have hge:∀ g,(Value.slice A i c).ownBlock=some g->lo<=g:=λg e=>own_ge k.row e
 have k2:Kx (λj=>(Value.slice A i c).ownBlock=some j) W W2:=(kx_of_below h1).grown hg λj e=>.inl e
 have k3:Kx (λj=>(Value.slice A i c).ownBlock=some j\/j=sb+3) W V:=by
  rw[← hV]
  exact (k2.mono λj e=>.inl e).trans (kx_put W2 (sb+3) 0 _) λj _ e=>.inr e
 obtain⟨G,g1,g2,g3⟩:=kh.own k3 (λj e=>e.elim (λe=>k.off j e) (λe=>k.far j (by omega) (by omega))) (λj e=>e.elim (λe=>by have:=hge j e;omega) (λe=>by omega))
 have hne:∀ j,sb<=j->j<sb+3->V.heap[j]?=W.heap[j]?:=λj q1 q2=>k3.block j (by omega) λe=>e.elim (λe=>by have:=hge j e;omega) (λe=>by omega)
 have hX2:W2.heap[sb+3]?=W.heap[sb+3]?:=k2.block _ hlt λe=>by have:=hge _ e;omega
 have hbx:V.heap[sb+3]?=some (.cells #[.slice A' (i+1) c',.slice (some ⟨sb+1,0,none⟩) 1 1,.slice (some ⟨sb+2,0,none⟩) 2 2,.int .i64 80,.int .i64 3] 45 (0,0)):=by
  rw[← hV]
  exact hset (i:=0) (v:=.slice A' (i+1) c') (hX2.trans k.box)
 have hov:V.ownsRow lo 47 4 (.slice A' (i+1) c') (i+1) ((co++[x]).flatMap crsE):=by
  rw[← hV,List.flatMap_append,show [x].flatMap crsE=crsE x from by simp]
  exact own_setH ho (hX2.trans k.box) (by decide)
 rw[hV]
 refine⟨G,g1,⟨hbx,(hne _ (by omega) (by omega)).trans k.mt,(hne _ (by omega) (by omega)).trans k.sg,(hne _ (by omega) (by omega)).trans k.ga,hov,by rw[List.length_append,List.length_singleton,← k.len],k.lo,Nat.lt_of_lt_of_le hlt k3.size,λj q1 q2 hG=>k.far j q1 q2 (g2 j (by omega) hG),λg e hG=>?_⟩,g2,k3.mono λj e=>e.imp_left (hge j),λj q1 q2=>?_⟩
 rotate_left
 ·rw[← hV]
  exact (hset_ne (by omega)).trans (hg.block j q2 λe=>by have:=(k.row.lt j e.symm).2;omega)
 rcases hl with hl|hl
 ·rw[hl] at e
  exact k.off g e (g2 g (k.row.lt g e).2 hG)
 ·rw[hl] at e
  obtain rfl:=Option.some.inj e
  refine g3 _ h1.size ?_ hG
  have:=(hov.lt _ hl).2
  exact this
theorem rbang6_any(w:World):Calls Tryz.prog 14 #[.int .i64 6] w λe w'=>∃ z:ByteArray,e=.returned (.string z)/\z.data.toList=bangL 6/\Below w.heap.size w w':=by
 refine calls_cps ?_
 intro R hR
 have HT:=zh (rtxt_any 6 (by decide) w)
 have e6:Lib.itoa ((6:Nat):Int)=[54]:=by decide +kernel
 have e62:bangL 6=[33,32,54,10]:=by decide +kernel
 rw[e6] at HT
 rw[e62] at hR
 go_enter Tryz.func14,Tryz.ntmps14
 go_wp2_with fail
 refine HT.out.mono ?_
 rintro e w1 ⟨rfl,hb1⟩
 have hf:=hR.out (.returned (.string ⟨#[33,32,54,10]⟩)) w1 ⟨_,rfl,rfl,hb1⟩
 have HF:=zh hf
 clear hf hb1 hR HT
 go_wp2_with fail
 exact HF.out
theorem LS.fresh{wc W:World}{F:Nat->Prop}{h:Nat}{rg:Option (Rn×List Int×List Int)}{st ga:List Int}{me:List Mtl}{co':List Crs}(k:LH wc W F h rg st ga me co'){W1 W2 W3 W4:World}(e1:W.alloc (.cells #[.int .i64 2000,.int .i64 2200] 3)=W1)(e2:W1.alloc (.cells #[.int .i64 7800,.slice (some ⟨W.heap.size,0,none⟩) 2 2] 41)=W2)(e3:W2.alloc (.cells #[.int .i64 500,.int .i64 400] 3)=W3)
 (e4:W3.alloc (.cells #[.slice none 0 0,.slice (some ⟨W.heap.size+1,0,none⟩) 1 1,.slice (some ⟨W.heap.size+2,0,none⟩) 2 2,.int .i64 80,.int .i64 3] 45)=W4) :
 ∃ G,LH wc W4 G h rg st ga me co'/\LS W4 G (W.heap.size+4) W.heap.size none 0 0 []/\(∀ j,j<W.heap.size->G j->F j)/\Below W.heap.size W W4:=by
 have s1:W1.heap.size=W.heap.size+1:=by rw[← e1];simp
 have s2:W2.heap.size=W.heap.size+2:=by rw[← e2];simp[s1]
 have s3:W3.heap.size=W.heap.size+3:=by rw[← e3];simp[s2]
 have s4:W4.heap.size=W.heap.size+4:=by rw[← e4];simp[s3]
 have b1:Below W.heap.size W W1:=e1 ▸ below_new W _
 have b2:Below W1.heap.size W1 W2:=e2 ▸ below_new W1 _
 have b3:Below W2.heap.size W2 W3:=e3 ▸ below_new W2 _
 have b4:Below W3.heap.size W3 W4:=e4 ▸ below_new W3 _
 have c1:W1.heap[W.heap.size]?=some (.cells #[.int .i64 2000,.int .i64 2200] 3 (0,0)):=by rw[← e1];exact heap_alloc_new W _
 have c2:W2.heap[W.heap.size+1]?=some (.cells #[.int .i64 7800,.slice (some ⟨W.heap.size,0,none⟩) 2 2] 41 (0,0)):=by rw[← e2,← s1];exact heap_alloc_new W1 _
 have c3:W3.heap[W.heap.size+2]?=some (.cells #[.int .i64 500,.int .i64 400] 3 (0,0)):=by rw[← e3,← s2];exact heap_alloc_new W2 _
 have c4:W4.heap[W.heap.size+3]?=some (.cells #[.slice none 0 0,.slice (some ⟨W.heap.size+1,0,none⟩) 1 1,.slice (some ⟨W.heap.size+2,0,none⟩) 2 2,.int .i64 80,.int .i64 3] 45 (0,0)):=by rw[← e4,← s3];exact heap_alloc_new W3 _
 have b34:=b3.trans (b4.mono b3.size)
 have b24:=b2.trans (b34.mono b2.size)
 have b14:=b1.trans (b24.mono b1.size)
 obtain⟨G,g1,g2,g3⟩:=k.new b14
 exact⟨G,g1,⟨c4,(b34.block _ (by omega)).trans c2,(b24.block _ (by omega)).trans c1,(b4.block _ (by omega)).trans c3,World.ownsRow_nil _ _ _ _,rfl,Nat.le_refl _,by omega,λj q1 q2=>g3 j q1 (by omega),λg hg=>by simp[Value.ownBlock] at hg⟩,g2,b14⟩
section
variable{W:World}{F:Nat->Prop}{lo sb:Nat}{A:Option Addr}{i c:Nat}{co:List Crs}(k:LS W F lo sb A i c co)(hc:∀ y∈co,CrT y)(h1:1<=co.length)(h6:co.length<=96)
include k hc h1 h6
theorem LS.best:Calls Tryz.prog 13 #[.agg #[.slice A i c,.slice (some ⟨sb+1,0,none⟩) 1 1,.slice (some ⟨sb+2,0,none⟩) 2 2,.int .i64 80,.int .i64 3]] W λe w' =>
 ((chooseL (scT co) 1 2 = bangL 6 ∧ e = .returned (.tuple #[.slice none 0 0, .int .i64 0, .int .i64 6])) ∨ ∃ (P : Option Addr) (pc : Nat), e = .returned (.tuple #[.slice P co.length pc, .int .i64 (bestC (scT co) 1 2), .int .i64 0]) ∧ chooseL (scT co) 1 2 = linesL [picksL (bestG (scT co) 1 2) 2 co.length, rowL costW [bestC (scT co) 1 2], rowL pullW [bestU (scT co) 1 2]] ∧
   SlE pkE 2 w' P co.length ((List.range co.length).map λi=>(bestG (scT co) 1 2 i/2,bestG (scT co) 1 2 i%2))/\(∀ i,i<co.length->bestG (scT co) 1 2 i<1*2/\prN (scT co) 2 i (bestG (scT co) 1 2 i)≠-1/\(i+1<co.length->folB 2 (bestG (scT co) 1 2 i) (bestG (scT co) 1 2 (i+1))=true))/\(chgN (bestG (scT co) 1 2) (co.length-1):Int)<=3)/\Below W.heap.size W w':=by
 refine (wbest_any A i c (some ⟨sb+1,0,none⟩) 1 1 (some ⟨sb+2,0,none⟩) 2 2 (scT co) W k.sc (crT_inR hc)).mono ?_
 rintro e w' ⟨⟨hf,-⟩|⟨-,hn,rfl⟩|⟨-,hs,⟨P,pc,rfl,hP⟩,hG,hch⟩,hb⟩
 ·rw[scT_ok hc h1 h6] at hf
  cases hf
 ·exact⟨.inl ⟨by unfold chooseL;rw[if_pos hn],rfl⟩,hb⟩
 ·exact⟨.inr ⟨P,pc,rfl,by unfold chooseL;rw[if_neg hs];rfl,hP,hG,hch⟩,hb⟩
theorem LS.pullG{P:Option Addr}{pc:Nat}(g:Nat->Nat)(hP:SlE pkE 2 W P co.length ((List.range co.length).map λi=>(g i/2,g i%2)))(hG:∀ i,i<co.length->g i<1*2) :
 Calls Tryz.prog 15 #[.agg #[.slice A i c,.slice (some ⟨sb+1,0,none⟩) 1 1,.slice (some ⟨sb+2,0,none⟩) 2 2,.int .i64 80,.int .i64 3],.slice P co.length pc] W λe w'=>e=.returned (.tuple #[.int .i64 (sumI ((List.range co.length).map λi=>tgP (scT co) i (g i/2,g i%2))),.int .i64 0])/\Below W.heap.size W w':=by
 have hr:∀ p∈(List.range co.length).map λi=>(g i/2,g i%2),p.1<1/\p.2<2:=λp hp=>by
  obtain⟨i,hi,rfl⟩:=List.mem_map.1 hp
  have:=hG i (List.mem_range.1 hi)
  dsimp only
  omega
 have hu:sumI ((List.range co.length).map λi=>tgP (scT co) i (((List.range co.length).map λi=>(g i/2,g i%2)).getD i (0,0)))=sumI ((List.range co.length).map λi=>tgP (scT co) i (g i/2,g i%2)):=by
  refine congrArg sumI (List.map_congr_left λi hi=>?_)
  have hi:=List.mem_range.1 hi
  rw[List.getD_eq_getElem?_getD,List.getElem?_map,List.getElem?_range hi]
  rfl
 have hf:fitC (scB (scT co)) co.length i=0:=by rw[scT_ok hc h1 h6,k.len];simp[fitC]
 refine (wpull_any A i c (some ⟨sb+1,0,none⟩) 1 1 (some ⟨sb+2,0,none⟩) 2 2 (scT co) P co.length pc _ W k.sc hP hr (by omega) (crT_inR hc)).mono ?_
 rintro e w' ⟨rfl,hb⟩
 rw[if_pos hf,hu]
 exact⟨rfl,hb⟩
theorem LS.pull{P:Option Addr}{pc:Nat}(hP:SlE pkE 2 W P co.length ((List.range co.length).map λi=>(bestG (scT co) 1 2 i/2,bestG (scT co) 1 2 i%2)))(hG:∀ i,i<co.length->bestG (scT co) 1 2 i<1*2) :
 Calls Tryz.prog 15 #[.agg #[.slice A i c,.slice (some ⟨sb+1,0,none⟩) 1 1,.slice (some ⟨sb+2,0,none⟩) 2 2,.int .i64 80,.int .i64 3],.slice P co.length pc] W λe w'=>e=.returned (.tuple #[.int .i64 (bestU (scT co) 1 2),.int .i64 0])/\Below W.heap.size W w':=by
 unfold bestU
 exact k.pullG hc h1 h6 (bestG (scT co) 1 2) hP hG
theorem LS.cost{P:Option Addr}{pc:Nat}(hP:SlE pkE 2 W P co.length ((List.range co.length).map λi=>(bestG (scT co) 1 2 i/2,bestG (scT co) 1 2 i%2)))(hG:∀ i,i<co.length->bestG (scT co) 1 2 i<1*2/\prN (scT co) 2 i (bestG (scT co) 1 2 i)≠-1/\(i+1<co.length->folB 2 (bestG (scT co) 1 2 i) (bestG (scT co) 1 2 (i+1))=true))(hch:(chgN (bestG (scT co) 1 2) (co.length-1):Int)<=3) :
 Calls Tryz.prog 16 #[.agg #[.slice A i c,.slice (some ⟨sb+1,0,none⟩) 1 1,.slice (some ⟨sb+2,0,none⟩) 2 2,.int .i64 80,.int .i64 3],.slice P co.length pc] W λe w'=>e=.returned (.tuple #[.int .i64 (bestC (scT co) 1 2),.int .i64 0])/\Below W.heap.size W w':=by
 obtain rfl:=k.len
 exact wcost_any A co.length c (some ⟨sb+1,0,none⟩) 1 1 (some ⟨sb+2,0,none⟩) 2 2 (scT co) P pc (bestG (scT co) 1 2) W k.sc (scT_ok hc h1 h6) (crT_inR hc) hP hG hch
end
end
end
end Go.Proofs.YtjibohkeapdalaaGreatDoor
