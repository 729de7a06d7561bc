/-
  The references' numbers of one limb and their texts: trim, Of, Over, Text, List; conditions: the numbers are below 2^32. The references' Over by ten, Text of one limb, the layer's Text and List; conditions: the numbers are below 2^32. The layer's references: Text, List, First, Lines; conditions: sizes; the numbers are below 2^32. The layer's references: Lines, Words; conditions: sizes. The layer's reference Words; condition: a size.
-/
import Derived.Test.YtjibohkeapdalaaGreatDoorAf
import Derived.Test.YtjibohkeapdalaaGreatDoorAe
namespace Go.Proofs.YtjibohkeapdalaaGreatDoor
set_option maxHeartbeats 4000000
set_option maxRecDepth 8000
section
section
open Go.RowKit
def u32E(c:Nat):List Value:=[.int .u32 (c:Int)]
theorem u32E_len(c:Nat):(u32E c).length=1:=rfl
theorem infoU32:(Tryz.prog.info? 185).map (λi=>(i.zero,i.size,i.bytes))=some (some (.int .u32 0),1,4):=by kernel_rfl
theorem elemN0:ElemOk Tryz.prog 97 185 1 4:=ElemOk.of (z:=.int .u32 0) Tryz.underlying97 infoU32 rfl (by omega)
theorem u32_at{w:World}{A:Option Addr}{n k:Nat}{l:List Nat}(h:SlE u32E 1 w A n l)(hk:k<n):∃ b o v,A=some ⟨b,o,none⟩/\b<w.heap.size/\l[k]?=some v/\w.cell? ⟨b,o+k,none⟩=some (.int .u32 (v:Int)):=by
 obtain⟨b,o,x,hA,hb,hx,hc⟩:=h.at_ u32E_len hk
 exact⟨b,o,x,hA,hb,hx,by simpa using hc 0 _ rfl⟩
theorem ntrim_any(A:Option Addr)(n c:Nat)(l:List Nat)(w:World)(h:SlE u32E 1 w A n l)(hn:n<=1000000) :
 Calls Tryz.prog 69 #[.slice A n c] w λe w'=>∃ A' c' k,e=.returned (.slice A' k c')/\SlE u32E 1 w' A' k (l.take k)/\k<=l.length/\(∀ j v,k<=j->l[j]?=some v->v=0)/\(∀ v,0<k->l[k-1]?=some v->v≠0)/\Below w.heap.size w w':=by
 refine calls_cps ?_
 intro R hR
 have Hr:=zh hR.out
 have HX:=zh h
 have Hn:=zh h.1
 clear hR h
 go_enter Tryz.func69,Tryz.ntmps69
 go_wp2_with fail
 go_loopw [3] (λs3 wr=>∃ k:Nat,k<=n/\s3=.int .i64 (k:Int)/\Hid (∀ j v,k<=j->l[j]?=some v->v=0)/\w=wr) (λs3 _=>(intOf s3).toNat)
 case atStart=>exact⟨n,Nat.le_refl _,rfl,zh (λj v hj hv=>by have:=(List.getElem?_eq_some_iff.1 hv).1;have:=Hn.out;omega),rfl⟩
 case round =>
  obtain⟨k,hk,rfl,Hz,rfl⟩:=hrel
  have end_:(∀ v,0<k->l[k-1]?=some v->v≠0)->Hid (∀ (A':Option Addr) (c':Nat) w',SlE u32E 1 w' A' k (l.take k)->Below w.heap.size w w'->R (.returned (.slice A' k c')) w'):=λhnz=>zh λA' c' w' hx hb=>Hr.out _ _ ⟨A',c',k,rfl,hx,by have:=Hn.out;omega,Hz.out,hnz,hb⟩
  by_cases h0:0<k
  ·obtain⟨k1,rfl⟩:∃ k1,k=k1+1:=⟨k-1,by omega⟩
   obtain⟨b,o,v,rfl,hb,hv,q0⟩:=u32_at HX.out (k:=k1) (by omega)
   have i1:(0:Int)<((k1+1:Nat):Int):=by omega
   have i2:IntKind.i64.wrap (((k1+1:Nat):Int)-1)=(k1:Int):=by
    rw[show ((k1+1:Nat):Int)-1=(k1:Int) by omega]
    exact IntWalk.i64_in _ (by omega)
   by_cases hz:v=0
   ·subst hz
    have Hz2:=zh (show ∀ j v,k1<=j->l[j]?=some v->v=0 from λj v hj hjv=>by
     by_cases hje:j=k1
     ·subst hje
      rw[hv] at hjv
      exact (Option.some.inj hjv).symm
     ·exact Hz.out j v (by omega) hjv)
    clear hv Hz end_
    go_wp2_with fail
    exact⟨⟨k1,by omega,by go_num,Hz2,trivial⟩,by simp[intOf]<;>omega⟩
   ·have HEnd:=end_ (λv' _ hv'=>by
     rw[show k1+1-1=k1 by omega,hv] at hv'
     cases hv'
     exact hz)
    have i3:((v:Int)==0)=false:=by rw[beq_eq_false_iff_ne];omega
    clear hv Hz end_ hz
    go_wp2_with fail
    go_loopw [4,5] (λs4 s5 wr=>∃ (j:Nat) (A':Option Addr) (c':Nat),j<=(k1+1)/\s5=.int .i64 (j:Int)/\s4=.slice A' j c'/\Hid (wr.ownsRow w.heap.size 185 1 (.slice A' j c') j ((l.take j).flatMap u32E))/\Hid (Below w.heap.size w wr)) (λ_ s5 _=>(k1+1)-(intOf s5).toNat)
    case atStart=>exact⟨0,_,_,Nat.zero_le _,rfl,rfl,zh (by rw[List.take_zero];exact own_newAt w #[] 185 1 0 w.heap.size rfl (Nat.le_refl _) (by unfold maxLen;omega) rfl),zh (below_new w _)⟩
    case round =>
     obtain⟨j,A',c',hj,rfl,rfl,Ho,Hb⟩:=hrel
     by_cases hjl:j<(k1+1)
     ·obtain⟨b',o',v',e',hb',hv',q1⟩:=u32_at (HX.out.below Hb.out) (k:=j) (by omega)
      cases e'
      have j1:(j:Int)<(((k1+1):Nat):Int):=by omega
      have Hv':=zh hv'
      clear hv'
      go_wp2_with (at_builtin;refine wpList_app rfl (.tmp 26) (.tmp 31) _ rfl elemN0 w.heap.size _ _ _ rfl (Ho.out.alloc _) _ _ _ _ rfl (Sl.newAt _ _ _ 1 1 rfl rfl) (by simp[Value.oneCell']) (by unfold maxLen;omega) (by omega) (by have:=Hb.out.size;simp;omega) ?_;intro A5 c5 w5 ho5 hg5 hp5;have HO5:=zh ho5;have HG5:=zh hg5;clear ho5 hg5 hp5)
      have hlow:Below w.heap.size w w5:=below_own (Hb.out.alloc Hb.out.size _) (Ho.out.alloc _) (Nat.le_refl _) (by have:=Hb.out.size;simp;omega) HG5.out
      refine⟨⟨j+1,hjl,by omega,A5,c5,⟨rfl,rfl,rfl⟩,zh ?_,zh hlow⟩,by simp[intOf]<;>omega⟩
      rw[List.take_add_one,Hv'.out,List.flatMap_append]
      exact HO5.out
     ·have hjk:j=(k1+1):=by omega
      subst hjk
      have j1:¬ (((k1+1):Nat):Int)<(((k1+1):Nat):Int):=by omega
      have hx:=SlE.of_own Ho.out (by rw[List.length_take];have:=Hn.out;omega)
      have hf:=HEnd.out A' c' wr hx Hb.out
      have HF:=zh hf
      clear hf hx Ho Hb Hr HEnd
      go_wp2
      exact HF.out
  ·have hk0:k=0:=by omega
   subst hk0
   have HEnd:=end_ (λv' h _=>absurd h (by decide))
   have i1:¬ (0:Int)<((0:Nat):Int):=by decide
   clear end_ h0 Hz
   go_wp2_with fail
   refine wp_loop_rounds 1 ?_
   rw[rounds_succ]
   have hx:=own_newAt w #[] 185 1 0 w.heap.size rfl (Nat.le_refl _) (by unfold maxLen;omega) rfl
   have hf:=HEnd.out (some ⟨w.heap.size,0,none⟩) 0 _ (by rw[List.take_zero];exact SlE.nil _ _) (below_new w (.cells #[] 185))
   have HF:=zh hf
   clear hf hx Hr HEnd
   go_wp2
   exact HF.out
def limb(V:Nat):List Nat:=if V=0 then [] else [V]
theorem nof_any(V:Nat)(hV:V<4294967296)(w:World):Calls Tryz.prog 27 #[.int .u64 (V:Int)] w λe w'=>∃ A' c',e=.returned (.slice A' (limb V).length c')/\SlE u32E 1 w' A' (limb V).length (limb V)/\Below w.heap.size w w':=by
 refine calls_cps ?_
 intro R hR
 have HB:=zh (below_new w (.cells #[.int .u32 (V:Int),.int .u32 0] 185))
 have HT:=zh (ntrim_any (some ⟨w.heap.size,0,none⟩) 2 2 [V,0] (w.alloc (.cells #[.int .u32 (V:Int),.int .u32 0] 185)) ⟨rfl,by have h:=Sl.new w #[.int .u32 (V:Int),.int .u32 0] 185 1 2 rfl;exact h⟩ (by omega))
 have e1:(V:Int)%4294967296=(V:Int):=by omega
 have e2:(V:Int)/4294967296=0:=by omega
 have e3:(V:Int).tmod 4294967296=(V:Int):=by rw[Int.tmod_eq_emod_of_nonneg (by omega)];exact e1
 have e4:(V:Int).tdiv 4294967296=0:=by rw[Int.tdiv_eq_ediv_of_nonneg (by omega)];exact e2
 have i1:(V:Int)<4294967296:=by omega
 go_enter Tryz.func27,Tryz.ntmps27
 go_wp2_with fail
 refine HT.out.mono ?_
 rintro e w2 ⟨A',c',k,rfl,hx,hk,hz,hnz,hb2⟩
 have hkl:k=(limb V).length/\[V,0].take k=limb V:=by
  unfold limb
  simp only[List.length_cons,List.length_nil] at hk
  rcases k with _|_|_|k
  ·have:=hz 0 V (Nat.le_refl _) rfl
   rw[if_pos this]
   exact⟨rfl,rfl⟩
  ·have:=hnz V (by decide) rfl
   rw[if_neg this]
   exact⟨rfl,rfl⟩
  ·exact absurd rfl (hnz 0 (by decide) rfl)
  ·omega
 obtain⟨rfl,h2⟩:=hkl
 rw[h2] at hx
 have hf:=hR.out _ _ ⟨A',c',rfl,hx,HB.out.trans (hb2.mono HB.out.size)⟩
 have HF:=zh hf
 clear hR hf hx hz hnz hb2 h2 e1 e2 e3 e4 hk
 go_wp2
 exact HF.out
end
end
section
section
open Go.RowKit
theorem made_one(v:Value):madeCells #[v] 1=#[v]:=by
 simp[madeCells]
 exact⟨0,rfl,by simp⟩
theorem run_mkN(w:World):(Instr.makeSlice 97 (.int .i64 1) (.int .i64 1)).run Tryz.prog w=.ok (.slice (some ⟨w.heap.size,0,none⟩) 1 1) (w.alloc (.cells #[.int .u32 0] 185)):=by
 have h:=run_make_row' 97 185 (.int .u32 0) 4 Tryz.underlying97 infoU32 rfl .i64 .i64 1 (by omega) (by omega) w
 rw[made_one] at h
 exact h
theorem limb_one{V:Nat}(h:V≠0):limb V=[V]:=if_neg h
theorem trim_one{q k:Nat}(hk:k<=[q].length)(hz:∀ j v,k<=j->[q][j]?=some v->v=0)(hnz:∀ v,0<k->[q][k-1]?=some v->v≠0):k=(limb q).length/\[q].take k=limb q:=by
 unfold limb
 simp only[List.length_cons,List.length_nil] at hk
 rcases k with _|_|k
 ·have:=hz 0 q (Nat.le_refl _) rfl
  rw[if_pos this]
  exact⟨rfl,rfl⟩
 ·have:=hnz q (by decide) rfl
  rw[if_neg this]
  exact⟨rfl,rfl⟩
 ·omega
theorem nover_any(V:Nat)(hV:V<4294967296)(A:Option Addr)(c:Nat)(w:World)(h:SlE u32E 1 w A 1 [V]):Calls Tryz.prog 68 #[.slice A 1 c,.int .u32 10] w λe w'=>∃ A' c',e=.returned (.tuple #[.slice A' (limb (V/10)).length c',.int .u32 ((V%10:Nat):Int)])/\SlE u32E 1 w' A' (limb (V/10)).length (limb (V/10))/\Below w.heap.size w w':=by
 refine calls_cps ?_
 intro R hR
 have hmk:=run_mkN
 obtain⟨q,hq⟩:∃ q,V/10=q:=⟨_,rfl⟩
 obtain⟨r,hr⟩:∃ r,V%10=r:=⟨_,rfl⟩
 rw[hq,hr] at hR
 have HR:=zh hR.out
 obtain⟨w1,hw1⟩:∃ w1,w.alloc (.cells #[.int .u32 0] 185)=w1:=⟨_,rfl⟩
 have hbl:=below_new w (.cells #[.int .u32 0] 185)
 have hbx:=heap_alloc_new w (.cells #[.int .u32 0] 185)
 rw[hw1] at hbl hbx
 obtain⟨b,o,v,rfl,hb,hv,q0⟩:=u32_at (h.below hbl) (k:=0) (by omega)
 simp only[List.getElem?_cons_zero,Option.some.injEq] at hv
 subst hv
 rw[Nat.add_zero] at q0
 have t0:w1.cell? ⟨w.heap.size,0,none⟩=some (.int .u32 0):=by rw[cell_of_row _ _ 0 _ _ (0,0) hbx];rfl
 have tf:w1.frozen? ⟨w.heap.size,0,none⟩=false:=by simp[World.frozen?,hbx]
 obtain⟨w2,hw2⟩:∃ w2,w1.setCell ⟨w.heap.size,0,none⟩ (.int .u32 (q:Int))=w2:=⟨_,rfl⟩
 have h2:=hset (i:=0) (v:=.int .u32 (q:Int)) hbx
 have hb2:Below w.heap.size w w2:=by
  rw[← hw2]
  exact⟨hbl.os,hbl.tape,hbl.output,by have:=hbl.size;simpa[World.setCell] using this,λj hj=>(hset_ne (by omega)).trans (hbl.block j hj)⟩
 rw[hw2] at h2
 have HT:=zh (ntrim_any (some ⟨w.heap.size,0,none⟩) 1 1 [q] w2 (SlE.of_own (base:=0) (e:=185) (c:=1) ⟨rfl,.inr ⟨w.heap.size,1,_,rfl,Nat.zero_le _,h2,Nat.le_refl _,by unfold maxLen;omega,rfl,rfl⟩⟩ rfl) (by omega))
 have HB2:=zh hb2
 have HW1:=zh hw1
 have HW2:=zh hw2
 have d1:((V:Int)).tdiv 10=(q:Int):=by rw[Int.tdiv_eq_ediv_of_nonneg (by omega)];omega
 have d2:((V:Int)).tmod 10=(r:Int):=by rw[Int.tmod_eq_emod_of_nonneg (by omega)];omega
 have d3:((V:Int))/10=(q:Int):=by omega
 have d4:((V:Int))%10=(r:Int):=by omega
 have i1:(V:Int)<4294967296:=by omega
 have i2:(q:Int)<4294967296:=by omega
 have i3:(r:Int)<4294967296:=by omega
 clear hR hq hr h hbl hbx hw1 hw2 h2 hb2
 go_enter Tryz.func68,Tryz.ntmps68
 go_wp2_with fail
 rw[HW1.out]
 refine wp_loop_rounds 2 ?_
 rw[rounds_succ]
 go_wp2_with fail
 rw[HW2.out,rounds_succ]
 go_wp2_with fail
 refine HT.out.mono ?_
 rintro e w3 ⟨A',c',k,rfl,hx,hk,hz,hnz,hb3⟩
 obtain⟨rfl,h2⟩:=trim_one hk hz hnz
 rw[h2] at hx
 have hf:=HR.out _ _ ⟨A',c',rfl,hx,HB2.out.trans (hb3.mono HB2.out.size)⟩
 have HF:=zh hf
 clear HR hf hx hz hnz hb3 h2 hk
 go_wp2
 exact HF.out
def digP(U:Nat):List UInt8:=if U=0 then [] else Lib.decDigits U
theorem digP_step{U:Nat}(h:U≠0):digP U=digP (U/10)++[UInt8.ofNat (48+U%10)]:=by
 unfold digP
 rw[if_neg h,Lib.decDigits]
 by_cases h1:U<10
 ·rw[dif_pos h1,if_pos (by omega),show U%10=U by omega]
  rfl
 ·rw[dif_neg h1,if_neg (by omega)]
theorem digP_len{U:Nat}(h:U<4294967296):(digP U).length<=12:=by
 unfold digP
 split
 ·simp
 ·exact (digits_len U (by omega)).2
theorem ntext_any(V:Nat)(hV:V<4294967296)(A:Option Addr)(c:Nat)(w:World)(h:SlE u32E 1 w A (limb V).length (limb V)):Calls Tryz.prog 26 #[.slice A (limb V).length c] w λe w'=>e=.returned (.string ⟨(Lib.decDigits V).toArray⟩)/\Below w.heap.size w w':=by
 refine calls_cps ?_
 intro R hR
 by_cases h0:V=0
 ·subst h0
  have hf:=hR.out (.returned (.string ⟨#[48]⟩)) w ⟨by rw[Lib.decDigits];rfl,Below.refl _ _⟩
  have HF:=zh hf
  clear hR hf h
  go_enter Tryz.func26,Tryz.ntmps26
  go_wp2
  exact HF.out
 ·have Hr:=zh (λ(s:ByteArray) w' (hs:s.data.toList=digP V) hb=>hR.out (.returned (.string s)) w' ⟨by rw[ba_of hs];unfold digP;rw[if_neg h0],hb⟩)
  have HX:=zh h
  have H0:=zh h0
  have hl:(limb V).length=1:=by rw[limb_one h0];rfl
  have Hl:=zh hl
  rw[hl]
  have i0:((1:Int)==0)=false:=by decide
  clear hR h hl h0
  go_enter Tryz.func26,Tryz.ntmps26
  go_wp2_with fail
  go_loopw [0,3] (λs0 s3 wr=>∃ (U n c':Nat) (s:ByteArray) (A':Option Addr),U<4294967296/\s0=.slice A' n c'/\s3=.string s/\Hid (n=(limb U).length)/\Hid (SlE u32E 1 wr A' n (limb U))/\Hid (digP U++s.data.toList=digP V)/\Hid (Below w.heap.size w wr)) (λs0 s3 _=>20-(match s3 with | .string s=>s.size|_=>0))
  case atStart=>exact⟨V,1,c,⟨#[]⟩,A,hV,rfl,rfl,zh Hl.out.symm,zh (by have:=HX.out;rw[Hl.out] at this;exact this),zh (by simp),zh (Below.refl _ _)⟩
  case round =>
   obtain⟨U,n,c',s,A',hU,rfl,rfl,Hn,Hx,Hs,Hb⟩:=hrel
   by_cases hU0:U=0
   ·subst hU0
    have hn0:n=0:=Hn.out
    subst hn0
    have hf:=Hr.out s wr (by rw[← Hs.out];rfl) Hb.out
    have HF:=zh hf
    clear Hr hf Hs Hb Hx
    go_wp2
    exact HF.out
   ·have hn1:n=1:=by rw[Hn.out,limb_one hU0];rfl
    subst hn1
    have hsl:s.size+1<=12:=by
     have h1:=congrArg List.length Hs.out
     have h2:=digP_len hV
     rw[List.length_append,digP_step hU0,List.length_append,List.length_singleton,← ba_size] at h1
     omega
    have HO:=zh (nover_any U hU A' c' wr (by have:=Hx.out;rw[limb_one hU0] at this;exact this))
    have HD:=zh (digP_step hU0)
    obtain⟨r,hr⟩:∃ r,U%10=r:=⟨_,rfl⟩
    obtain⟨q,hq⟩:∃ q,U/10=q:=⟨_,rfl⟩
    rw[hq,hr] at HO HD
    have hr10:r<10:=by omega
    have hq2:q<4294967296:=by omega
    have j1:48+(r:Int)<4294967296:=by omega
    have j2:48+(r:Int)<256:=by omega
    have j3:(48+(r:Int))%256=48+(r:Int):=by omega
    have j4:(48+(r:Int))%4294967296=48+(r:Int):=by omega
    have j5:¬ 9223372036854775807<1+s.size:=by omega
    clear hr hq hU0
    go_wp2_with fail
    refine HO.out.mono ?_
    rintro e w2 ⟨A2,c2,rfl,hx2,hb2⟩
    have HX2:=zh hx2
    have HB2:=zh (Hb.out.trans (hb2.mono Hb.out.size))
    clear hx2 hb2
    obtain⟨D,hD⟩:∃ D,UInt8.ofNat (48+r)=D:=⟨_,rfl⟩
    have hDn:(D.toNat:Int)=48+(r:Int):=by
     rw[← hD,dig_toNat hr10]
     omega
    have hcv:=run_convert_bytes_back (P:=Tryz.prog) (w2.alloc (.cells #[.int .u8 (48+(r:Int))] 5)) 156 9 5 ⟨w2.heap.size,0,none⟩ 1 [D] Tryz.underlying156 Tryz.underlying5 Tryz.underlying9 (λj hj=>by
     have hj0:j=0:=by simpa using hj
     subst hj0
     show (w2.alloc _).cell? ⟨w2.heap.size,0+0,none⟩=_
     rw[cell_of_row _ _ 0 _ _ (0,0) (heap_alloc_new w2 _)]
     show some (Value.int .u8 (48+(r:Int)))=some (Value.int .u8 (D.toNat:Int))
     rw[hDn])
    simp only[List.length_singleton] at hcv
    rw[hD] at HD
    have j5':¬ 9223372036854775807<(⟨[D].toArray⟩:ByteArray).size+s.size:=by rw[ba_size];show ¬ _<1+s.size;omega
    clear hD hDn
    go_wp2_with fail
    refine⟨⟨q,(limb q).length,c2,⟨[D].toArray⟩++s,A2,hq2,rfl,rfl,zh rfl,zh (HX2.out.alloc _),zh ?_,zh (HB2.out.alloc HB2.out.size _)⟩,?_⟩
    ·rw[← Hs.out,HD.out,ba_app,List.append_assoc]
    ·show 20-(⟨[D].toArray⟩++s:ByteArray).size<20-s.size
     rw[ba_size,ba_app,List.length_append,← ba_size s]
     show 20-(1+s.size)<_
     omega
end
end
section
section
open Go.RowKit
theorem rtxt_any(V:Nat)(hV:V<4294967296)(w:World):Calls Tryz.prog 8 #[.int .i64 (V:Int)] w λe w'=>e=.returned (.string ⟨(Lib.itoa (V:Int)).toArray⟩)/\Below w.heap.size w w':=by
 refine calls_cps ?_
 intro R hR
 rw[itoa_nat] at hR
 have Hr:=zh hR.out
 have HO:=zh (nof_any V hV w)
 have i1:¬ (V:Int)<0:=by omega
 have i2:(V:Int)<4294967296:=by omega
 clear hR
 go_enter Tryz.func8,Tryz.ntmps8
 go_wp2_with fail
 refine HO.out.mono ?_
 rintro e w1 ⟨A',c',rfl,hx,hb⟩
 have HT:=zh (ntext_any V hV A' c' w1 hx)
 have HB:=zh hb
 clear hx hb
 go_wp2_with fail
 refine HT.out.mono ?_
 rintro e w2 ⟨rfl,hb2⟩
 have hf:=Hr.out _ _ ⟨rfl,HB.out.trans (hb2.mono HB.out.size)⟩
 have HF:=zh hf
 clear hf hb2 Hr
 go_wp2
 exact HF.out
theorem rlist_any(wd:ByteArray)(A:Option Addr)(n c:Nat)(l:List Int)(w:World)(h:SlE intE 1 w A n l)(hn:n<=1000)(hw:wd.size<=1000000)(hl:∀ x∈l,0<=x/\x<4294967296) :
 Calls Tryz.prog 10 #[.string wd,.slice A n c] w λe w'=>e=.returned (.string ⟨(rowL wd.data.toList l++[10]).toArray⟩)/\Below w.heap.size w w':=by
 refine calls_cps ?_
 intro R hR
 have HX:=zh h
 have HL:=zh hl
 have Hr:=zh (λ(s:ByteArray) w' (hs:s.data.toList=rowL wd.data.toList l++[10]) hb=>hR.out (.returned (.string s)) w' ⟨by rw[ba_of hs],hb⟩)
 have Hn:=zh h.1
 clear hR h hl
 go_enter Tryz.func10,Tryz.ntmps10
 go_wp2_with fail
 go_loopw [0,5] (λs0 s5 wr=>∃ (k:Nat) (s:ByteArray),k<=n/\s5=.int .i64 (k:Int)/\s0=.string s/\s.size<=wd.size+22*k/\Hid (s.data.toList=rowL wd.data.toList (l.take k))/\Hid (Below w.heap.size w wr)) (λ_ s5 _=>n-(intOf s5).toNat)
 case atStart=>exact⟨0,wd,Nat.zero_le _,rfl,rfl,by omega,zh (by simp[rowL]),zh (Below.refl _ _)⟩
 case round =>
  obtain⟨k,s,hk,rfl,rfl,hsz,Hs,Hb⟩:=hrel
  by_cases hlt:k<n
  ·obtain⟨b0,o,x,rfl,hb0,hx,q0⟩:=(HX.out.below Hb.out).at1 hlt
   obtain⟨x1,x2⟩:=HL.out x (List.mem_of_getElem? hx)
   obtain⟨X,rfl⟩:∃ X:Nat,x=X:=⟨x.toNat,by omega⟩
   have i1:(k:Int)<(n:Int):=by omega
   have Hx:=zh hx
   have hil:=Lib.itoa_length_le (X:Int) (by omega) (by omega)
   have z1:¬ 9223372036854775807<1+(Lib.itoa (X:Int)).length:=by omega
   have z2:¬ 9223372036854775807<s.size+(1+(Lib.itoa (X:Int)).length):=by omega
   have HF:=zh (rtxt_any X (by omega) wr)
   clear hx
   go_wp2_with fail
   refine HF.out.mono ?_
   rintro e w2 ⟨rfl,hb2⟩
   have HB2:=zh hb2
   clear hb2 q0
   go_wp2_with fail
   refine⟨⟨k+1,_,hlt,by go_num,rfl,by rw[row_size];omega,zh ?_,zh (Hb.out.trans (HB2.out.mono Hb.out.size))⟩,by simp[intOf]<;>omega⟩
   rw[rowL_take Hx.out,← Hs.out,ba_app,ba_app]
   rfl
  ·have hkn:k=n:=by omega
   subst hkn
   have i1:¬ (k:Int)<(k:Int):=by omega
   have z1:¬ 9223372036854775807<s.size+1:=by omega
   have hf:=Hr.out (s++⟨#[10]⟩) wr (by rw[ba_app,Hs.out,List.take_of_length_le (by rw[← Hn.out];exact Nat.le_refl _)]) Hb.out
   have HF:=zh hf
   clear Hr hf Hs Hb
   go_wp2
   exact HF.out
end
end
end Go.Proofs.YtjibohkeapdalaaGreatDoor
