/-
  Contracts of temper.based, temper.Beats and the third reference's Beats: all answer by one plain function; each states its condition. Contracts of slices.Sort at uint64, temper.Scale and the third reference's Scale; each states its condition.
-/
import Derived.Test.YtjibohkeapdalaaGreatDoorCj
import Derived.Test.YtjibohkeapdalaaGreatDoorCg
import Derived.Deep.DeepCutAuto
namespace Go.Proofs.YtjibohkeapdalaaGreatDoor
set_option maxHeartbeats 8000000
set_option maxRecDepth 16000
section
section
section
open Go.RowKit
theorem own_caps{W:World}{base e sz n c:Nat}{A:Option Addr}{xs:List Value}(h:W.ownsRow base e sz (.slice A n c) n xs):n<=c/\c<=9223372036854775807:=by
 obtain⟨A2,c2,e,h1,h2,_⟩:=own_slice h
 injection e with _ _ e3
 unfold maxLen at h2
 omega
def fqV(base:Nat)(t:Tn):Nat:=if t.freqN base<9223372036854775808 then t.freqN base else 0
theorem fqV_lt(base:Nat)(t:Tn):fqV base t<9223372036854775808:=by unfold fqV;split<;>omega
theorem freq_tup(base:Nat)(t:Tn):∃ ce:Int,freqRet base t=.tuple #[.int .u64 (fqV base t:Nat),.int .i64 ce]:=by
 unfold freqRet fqV
 split
 ·exact⟨0,rfl⟩
 ·exact⟨5,rfl⟩
def toldO(f:List Tn->List Int->Option (List Nat))(base:Nat)(l:List Int)(u:Int):Except Int (List Nat):=
 match tonesF u tn0 l.dropLast with
 |none=>.error 5
 |some L=>if base=0\/1152921504606846976<=base then .error 1 else match f (tn0 :: L) l with
  |none=>.error 5
  |some M=>.ok M
theorem elemU64:ElemOk Tryz.prog 35 38 1 8:=ElemOk.of (z:=.int .u64 0) Tryz.underlying35 (by kernel_rfl) rfl (by omega)
theorem own_nilU(w:World)(b:Nat):w.ownsRow b 38 1 (.slice none 0 0) 0 ([].flatMap u64E):=⟨rfl,.inl ⟨rfl,rfl⟩⟩
theorem tonesF_len{u:Int}{l:List Int}:∀ {x:Tn} {L:List Tn},tonesF u x l=some L->L.length=l.length:=by
 induction l with
 |nil=>intro x L h;simp only[tonesF,Option.some.injEq] at h;subst h;rfl
 |cons s l ih =>
  intro x L h
  simp only[tonesF] at h
  split at h
  ·rename_i y hy
   cases e:tonesF u y l with
   |none=>rw[e] at h;cases h
   |some M =>
    rw[e] at h
    simp only[Option.map_some,Option.some.injEq] at h
    subst h
    simp[ih e]
  ·cases h
theorem tonesF_ok{u:Int}{l:List Int}:∀ {x:Tn} {L:List Tn},tonesF u x l=some L->x.Ok->∀ t∈x :: L,t.Ok:=by
 induction l with
 |nil =>
  intro x L h h2 t ht
  simp only[tonesF,Option.some.injEq] at h
  subst h
  simp only[List.mem_cons,List.not_mem_nil,or_false] at ht
  subst ht
  exact h2
 |cons s l ih =>
  intro x L h h2 t ht
  simp only[tonesF] at h
  split at h
  ·rename_i y hy
   cases e:tonesF u y l with
   |none=>rw[e] at h;cases h
   |some M =>
    rw[e] at h
    simp only[Option.map_some,Option.some.injEq] at h
    subst h
    rcases List.mem_cons.1 ht with rfl|ht
    ·exact h2
    ·exact ih e (stepT_ok hy) t ht
  ·cases h
def BasedP(w:World)(base:Nat)(l:List Int)(u:Int)(e:Ending)(w':World):Prop:=
 Below w.heap.size w w'/\((rightB l u=false/\e=.returned (.tuple #[.slice none 0 0,.int .i64 1]))\/
  (rightB l u=true/\tonesF u tn0 l.dropLast=none/\e=.returned (.tuple #[.slice none 0 0,.int .i64 5]))\/
  (rightB l u=true/\(∃ L,tonesF u tn0 l.dropLast=some L)/\(base=0\/1152921504606846976<=base)/\e=.returned (.tuple #[.slice none 0 0,.int .i64 1]))\/
  (∃ L A n c,rightB l u=true/\tonesF u tn0 l.dropLast=some L/\(0<base/\base<1152921504606846976)/\n=L.length+1/\e=.returned (.tuple #[.slice A n c,.int .i64 0])/\w'.ownsRow w.heap.size 115 4 (.slice A n c) n ((tn0 :: L).flatMap tnE)))
theorem based_any(base:Nat)(A:Option Addr)(n c:Nat)(l:List Int)(u:Int)(w:World)(hS:SlE intE 1 w A n l)(hnc:n<=c)(hc:c<=9223372036854775807)(_hb:base<18446744073709551616) :
 Calls Tryz.prog 33 #[.int .u64 (base:Nat),.slice A n c,.int .i64 u] w (BasedP w base l u):=by
 refine calls_cps ?_
 intro R hR
 have Hton:=zh (tones_any A n c l u w hS hnc hc)
 have HR:=zh hR
 clear hR hS
 go_enter Tryz.func33,Tryz.ntmps33
 go_wp2_with fail
 refine Hton.out.mono ?_
 rintro e w1 ⟨hb1,⟨hr,rfl⟩|⟨hr,hT,rfl⟩|⟨L,A2,n2,c2,hr,hL,hn2,rfl,ho⟩⟩
 ·have Hf:=zh (HR.out.out (.returned (.tuple #[.slice none 0 0,.int .i64 1])) w1 ⟨hb1,.inl ⟨hr,rfl⟩⟩)
  clear hr hb1
  go_wp2_with fail
  exact Hf.out
 ·have Hf:=zh (HR.out.out (.returned (.tuple #[.slice none 0 0,.int .i64 5])) w1 ⟨hb1,.inr (.inl ⟨hr,hT,rfl⟩)⟩)
  clear hr hT hb1
  go_wp2_with fail
  exact Hf.out
 ·by_cases h0:base=0
  ·have Hf:=zh (HR.out.out (.returned (.tuple #[.slice none 0 0,.int .i64 1])) w1 ⟨hb1,.inr (.inr (.inl ⟨hr,⟨L,hL⟩,.inl h0,rfl⟩))⟩)
   clear hr hL hb1 hn2 ho
   go_wp2_with fail
   exact Hf.out
  ·by_cases h1:1152921504606846976<=base
   ·have t1:decide ((1152921504606846976:Int)<=(base:Int))=true:=decide_eq_true (by omega)
    have t2:decide (1152921504606846976<=base)=true:=decide_eq_true h1
    have Hf:=zh (HR.out.out (.returned (.tuple #[.slice none 0 0,.int .i64 1])) w1 ⟨hb1,.inr (.inr (.inl ⟨hr,⟨L,hL⟩,.inr h1,rfl⟩))⟩)
    clear hr hL hb1 hn2 ho
    go_wp2_with fail
    exact Hf.out
   ·have t1:decide ((1152921504606846976:Int)<=(base:Int))=false:=decide_eq_false (by omega)
    have t2:decide (1152921504606846976<=base)=false:=decide_eq_false h1
    have Hf:=zh (HR.out.out (.returned (.tuple #[.slice A2 n2 c2,.int .i64 0])) w1 ⟨hb1,.inr (.inr (.inr ⟨L,A2,n2,c2,hr,hL,⟨by omega,by omega⟩,hn2,rfl,ho⟩))⟩)
    clear hr hL hb1 hn2 ho
    go_wp2_with fail
    exact Hf.out
end
end
end
section
section
section
open Go.RowKit
theorem pdqU_zero(g n c b lim:Nat)(d:Array Nat)(w:World)(hB:BlkV w g n d)(hb:b<=n)(hl:b<50)(hn:n<=100000)(hlim:lim<=64) :
 Calls Tryz.prog 86 #[.slice (some ⟨g,0,none⟩) n c,.int .i64 0,.int .i64 (b:Nat),.int .i64 (lim:Nat)] w (PdqP w g n 0 b d):=
 pdqU_any b g n c 0 b lim d w (by omega) hB (Nat.zero_le _) hb (by omega) hn hlim (.inl rfl)
theorem sortU_any(g n c:Nat)(d:Array Nat)(w:World)(hB:BlkV w g n d)(hn:n<50) :
 Calls Tryz.prog 35 #[.slice (some ⟨g,0,none⟩) n c] w (PdqP w g n 0 n d):=by
 refine calls_cps ?_
 intro R hR
 have hk:bitsN n<=6:=(bitsN_le_iff n 6).2 (by omega)
 have Hl:=zh (len_any n w (by omega))
 obtain⟨k,hke⟩:∃ k,bitsN n=k:=⟨_,rfl⟩
 rw[hke] at Hl hk
 have Hp:=zh (pdqU_zero g n c n k d w hB (Nat.le_refl _) hn (by omega) (by omega))
 have xi:IntKind.u64.wrap (n:Int)=(n:Int):=IntWalk.u64_in _ (by omega)
 have xi2:(n:Int)%18446744073709551616=(n:Int):=by omega
 have HR:=zh hR
 clear hR hB hke
 go_enter Tryz.func35,Tryz.ntmps35
 go_wp2_with (first
  |((with_reducible refine Hl.out.mono ?_);rintro e w' ⟨rfl,hw⟩;subst hw)
  |((with_reducible refine Hp.out.mono ?_);rintro e w2 ⟨d2,rfl,hB2,hp2,hs2,hk2⟩))
 have Hf:=zh (HR.out.out _ _ ⟨d2,rfl,hB2,hp2,hs2,hk2⟩)
 go_end0
 exact Hf.out
def sortL(l:List Nat):List Nat:=l.mergeSort (λx y => !ltN y x)
theorem ltN_anti(x y:Nat)(h1:ltN x y=false)(h2:ltN y x=false):x=y:=by
 unfold ltN at h1 h2
 simp at h1 h2
 omega
theorem sorted_eq{d d':Array Nat}{n:Nat}(hn:d.size=n)(hp:Sort.PermIn 0 n d d')(hs:Sort.SortedIn ltN 0 n d'):d'.toList=sortL d.toList:=by
 subst hn
 exact Sort.sorted_unique_holds swoN ltN_anti d d' hp hs
theorem getA(M:List Nat)(i:Nat)(h:i<M.length):M[i]?=some (M.toArray[i]!):=by
 rw[List.getElem?_eq_getElem h]
 simp[h]
theorem BlkV.of_own{W:World}{base g n c:Nat}{M:List Nat}(hM:∀ x∈M,x<18446744073709551616)(hn:M.length=n)(h:W.ownsRow base 38 1 (.slice (some ⟨g,0,none⟩) n c) n (M.flatMap u64E)):BlkV W g n M.toArray:=by
 rcases h.2 with⟨h',_⟩|⟨g',c',cur,h',_,hg,_,_,_,ht⟩
 ·simp at h'
 ·simp only[Value.slice.injEq,Option.some.injEq,Addr.mk.injEq,and_true,true_and] at h'
  obtain⟨rfl,rfl⟩:=h'
  refine⟨by simpa using hn,λi hi=>?_,cur,hg,λi hi=>?_⟩
  ·have:=getA M i (by omega)
   exact hM _ (List.mem_of_getElem? this)
  ·have h1:=congrArg (λl=>l[i]?) ht
   simp only[Nat.mul_one,List.getElem?_take,if_pos hi,Array.getElem?_toList] at h1
   rw[h1,flat_u64,List.getElem?_map,getA M i (by omega)]
   rfl
theorem BlkV.sle{W:World}{g n:Nat}{d:Array Nat}(h:BlkV W g n d):SlE u64E 1 W (some ⟨g,0,none⟩) n d.toList:=by
 refine⟨by rw[Array.length_toList];exact h.1.symm,by rw[flat_u64];simp[h.1],λhn=>⟨g,0,rfl,h.lt,λj u hu=>?_⟩⟩
 rw[flat_u64,List.getElem?_map,Array.getElem?_toList] at hu
 have hj:j<n:=by
  rcases Nat.lt_or_ge j n with hj|hj
  ·exact hj
  ·rw[Array.getElem?_eq_none (by rw[h.1];exact hj)] at hu
   cases hu
 rw[Array.getElem?_eq_getElem (by rw[h.1];exact hj)] at hu
 simp only[Option.map_some,Option.some.injEq] at hu
 rw[Nat.zero_add,h.cell hj,← hu,getElem!_pos d j (by rw[h.1];exact hj)]
theorem own_some{W:World}{base e n:Nat}{V:Value}{xs:List Value}(h:W.ownsRow base e 1 V n xs)(hn:0<n):∃ g c,V=.slice (some ⟨g,0,none⟩) n c/\base<=g/\n<=c/\c<=9223372036854775807:=by
 rcases h.2 with⟨h',h0⟩|⟨g',c',cur,h',hb,hg,h1,h2,_⟩
 ·omega
 ·exact⟨g',c',h',hb,h1,by unfold maxLen at h2;omega⟩
def OutR(w:World)(O:Except Int (List Nat))(e:Ending)(w':World):Prop:=
 Below w.heap.size w w'/\match O with
 | .error c=>e=.returned (.tuple #[.slice none 0 0,.int .i64 c])
 | .ok M=>∃ A n c,n=M.length/\n<=c/\c<=9223372036854775807/\e=.returned (.tuple #[.slice A n c,.int .i64 0])/\SlE u64E 1 w' A n M
def ToldR(f:List Tn->List Int->Option (List Nat))(w:World)(base:Nat)(l:List Int)(u:Int)(e:Ending)(w':World):Prop:=
 (rightB l u=false/\e=.returned (.tuple #[.slice none 0 0,.int .i64 1])/\Below w.heap.size w w')\/(rightB l u=true/\OutR w (toldO f base l u) e w')
def scaleF(base:Nat)(L:List Tn)(_l:List Int):Option (List Nat):=some (sortL (L.map (fqV base)))
end
section
open Go.RowKit
def NewR(b:Nat)(e:Ending):Prop:=∀ (A:Option Addr) (n c:Nat) (v:Value),e=.returned (.tuple #[.slice A n c,v])->∀ a,A=some a->b<=a.block
theorem newR_none(b:Nat)(u:Value):NewR b (.returned (.tuple #[.slice none 0 0,u])):=by
 intro A n c v h a ha
 subst ha
 simp at h
theorem newR_some{b n c:Nat}{V:Option Addr}{u:Value}(h:∀ a,V=some a->b<=a.block):NewR b (.returned (.tuple #[.slice V n c,u])):=by
 intro A n' c' v he a ha
 simp only[Ending.returned.injEq,Value.tuple.injEq,Array.mk.injEq,List.cons.injEq,Value.slice.injEq,and_true] at he
 exact h a (he.1.1.trans ha)
theorem scale_fresh(base:Nat)(A:Option Addr)(n c:Nat)(l:List Int)(u:Int)(w:World)(hS:SlE intE 1 w A n l)(hnc:n<=c)(hc:c<=9223372036854775807)(hb:base<18446744073709551616) :
 Calls Tryz.prog 11 #[.int .u64 (base:Nat),.slice A n c,.int .i64 u] w λe w'=>ToldR (scaleF base) w base l u e w'/\NewR w.heap.size e:=by
 refine calls_cps ?_
 intro R hR0
 have hR:=zh (show ∀ e w',ToldR (scaleF base) w base l u e w'->NewR w.heap.size e->R e w' from λe w' h1 h2=>hR0.out e w' ⟨h1,h2⟩)
 have HS:=zh hS
 have Hn:=zh hS.1
 have Hbas:=zh (based_any base A n c l u w hS hnc hc hb)
 have HR:=hR
 clear hR hR0 hS
 go_enter Tryz.func11,Tryz.ntmps11
 go_wp2_with fail
 refine Hbas.out.mono ?_
 rintro e w1 ⟨hb1,⟨hr,rfl⟩|⟨hr,hT,rfl⟩|⟨hr,⟨L,hL⟩,hbb,rfl⟩|⟨L,A2,n2,c2,hr,hL,hbb,hn2,rfl,ho⟩⟩
 ·have Hf:=zh (HR.out (.returned (.tuple #[.slice none 0 0,.int .i64 1])) w1 (.inl ⟨hr,rfl,hb1⟩) (newR_none _ _))
  clear hr hb1
  go_wp2_with fail
  exact Hf.out
 ·have Hf:=zh (HR.out (.returned (.tuple #[.slice none 0 0,.int .i64 5])) w1 (.inr ⟨hr,hb1,by unfold toldO;rw[hT]⟩) (newR_none _ _))
  clear hr hT hb1
  go_wp2_with fail
  exact Hf.out
 ·have Hf:=zh (HR.out (.returned (.tuple #[.slice none 0 0,.int .i64 1])) w1 (.inr ⟨hr,hb1,by unfold toldO;rw[hL];dsimp only;rw[if_pos hbb]⟩) (newR_none _ _))
  clear hr hL hbb hb1
  go_wp2_with fail
  exact Hf.out
 ·have hrs:=right_spec hr
  obtain⟨-,l1,l2,u1,u2⟩:=hrs
  rw[← Hn.out] at l1 l2
  have hlen:=tonesF_len hL
  rw[List.length_dropLast,← Hn.out] at hlen
  obtain rfl:n2=n:=by omega
  have HLn:=zh (show L.length+1=n2 by omega)
  have Hok:=zh (tonesF_ok hL tn0_ok)
  have HL2:=zh (show SlE tnE 4 w1 A2 n2 (tn0 :: L) from SlE.of_own ho (by rw[List.length_cons];omega))
  have Hb1:=zh hb1
  have hb0:0<base:=hbb.1
  have HR:=zh (show ∀ V n c w',n=(sortL ((tn0 :: L).map (fqV base))).length->n<=c->c<=9223372036854775807->SlE u64E 1 w' V n (sortL ((tn0 :: L).map (fqV base)))->Below w.heap.size w w'->(∀ a,V=some a->w.heap.size<=a.block)->R (.returned (.tuple #[.slice V n c,.int .i64 0])) w' from λV n c w' h1 h2 h3 h4 h5 h6=>HR.out _ w' (.inr ⟨hr,h5,by
   unfold toldO;rw[hL];dsimp only;rw[if_neg (by omega)]
   exact⟨V,n,c,h1,h2,h3,rfl,h4⟩⟩) (newR_some h6))
  obtain⟨M0,hM0⟩:∃ M,(tn0 :: L).map (fqV base)=M:=⟨_,rfl⟩
  rw[hM0] at HR
  have HM0:=zh hM0
  have hML:M0.length=n2:=by rw[← hM0,List.length_map,List.length_cons];omega
  have HML:=zh hML
  have HMs:=zh (show ∀ x∈M0,x<18446744073709551616 from λx hx=>by
   rw[← hM0] at hx
   obtain⟨t,_,rfl⟩:=List.mem_map.1 hx
   have:=fqV_lt base t
   omega)
  obtain⟨g,hg⟩:∃ g,w1.heap.size=g:=⟨_,rfl⟩
  have Hg:=zh hg
  clear hlen hL hr hb1 ho hn2 hg hbb hM0 hML
  go_wp2_with fail
  go_loopw [10,27,12,13,14] (λs10 s27 _ _ _ wr=>∃ (i c10:Nat) (A10:Option Addr),s10=.slice A10 i c10/\s27=.int .i64 (i:Nat)/\i<=n2/\Hid (wr.ownsRow g 38 1 (.slice A10 i c10) i ((M0.take i).flatMap u64E))/\Hid (Below g w1 wr)) (λ_ s27 _ _ _ _=>n2-(intOf s27).toNat)
  case atStart=>exact⟨0,0,none,rfl,rfl,Nat.zero_le _,zh (own_nilU w1 g),zh (by rw[← Hg.out];exact Below.refl _ _)⟩
  case round =>
   obtain⟨i,c10,A10,rfl,rfl,hi,HO,HW⟩:=hrel
   have hsz:g<=wr.heap.size:=by have:=HW.out.size;rw[Hg.out] at this;exact this
   have Hgw:=zh (λW' (hb:Below wr.heap.size wr W')=>show Below w1.heap.size w1 W' by rw[Hg.out];exact HW.out.trans (hb.mono hsz))
   by_cases hlt:i<n2
   ·have j1:(i:Int)<(n2:Int):=by omega
    have j0:(0:Int)<=(i:Int):=by omega
    obtain⟨bx,ox,x,rfl,hbx,hx,p0,p1,p2,p3⟩:=(HL2.out.below (Hgw.out wr (Below.refl _ _))).at4' (k:=i) hlt
    have hxo:=Hok.out x (List.mem_of_getElem? hx)
    have hfx:=λW=>freq_any base x W hb0 hb hxo
    obtain⟨cx,hcx⟩:=freq_tup base x
    rw[hcx] at hfx
    have hf1:=fqV_lt base x
    have hMi:M0[i]?=some (fqV base x):=by rw[← HM0.out,List.getElem?_map,hx];rfl
    obtain⟨f,hf⟩:∃ f,fqV base x=f:=⟨_,rfl⟩
    rw[hf] at hfx hf1 hMi
    obtain⟨x1,x2,x3,x4⟩:=x
    unfold Tn.val at hfx
    dsimp only at hfx p0 p1 p2 p3
    have Hfx:=zh hfx
    have HMi:=zh hMi
    clear hfx hx hxo hcx hf hMi
    go_upto_region 8 with fail
    have hA:=heap_alloc_new wr (.cells #[Value.int .i64 x1,.int .i64 x2,.int .i64 x3,.int .i64 x4] 115)
    have Hbx:=zh (below_new wr (.cells #[Value.int .i64 x1,.int .i64 x2,.int .i64 x3,.int .i64 x4] 115))
    obtain⟨WX,hWX⟩:∃ W,wr.alloc (.cells #[Value.int .i64 x1,.int .i64 x2,.int .i64 x3,.int .i64 x4] 115)=W:=⟨_,rfl⟩
    obtain⟨zx,hzx⟩:∃ z,wr.heap.size=z:=⟨_,rfl⟩
    rw[hWX] at hA Hbx ⊢
    rw[hzx] at hA Hbx hsz Hgw ⊢
    have Hzx:=zh hzx
    clear hWX hzx p0 p1 p2 p3
    obtain⟨r0,r1,r2,r3,-⟩:=cells4 hA
    clear hA
    go_upto_region 9 with ((with_reducible refine (Hfx.out _).mono ?_);rintro e w4 ⟨rfl,hb4⟩;have Hb4:=zh (Hbx.out.trans (hb4.mono (by rw[← Hzx.out];exact Hbx.out.size)));clear hb4)
    have Hgb:=zh (show Below g w1 w4 from HW.out.trans (Hb4.out.mono hsz))
    have hsz4:g<=w4.heap.size:=Nat.le_trans (by rw[Hzx.out];exact hsz) Hb4.out.size
    have HO4:=zh (ownsRow_below HO.out (by rw[Hzx.out];exact Hb4.out))
    clear r0 r1 r2 r3 Hfx
    go_wp2_with (at_builtin;refine wpList_app rfl (.tmp 37) (.tmp 39) _ rfl elemU64 g _ _ _ rfl (ownsRow_below HO4.out (below_new w4 _)) _ _ _ _ rfl (Sl.new w4 _ _ 1 1 rfl) (by simp[Value.oneCell']) (by unfold maxLen;omega) (by omega) (by simp;omega) ?_;intro A8 c8 w5 ho5 hg5 _)
    have hk5:=grown_kx (ownsRow_below HO4.out (below_new w4 _)) hg5
    have hb5:Below g w1 w5:=Kx.low (Hgb.out.alloc hsz4 _) hk5 (λj hj=>hj) (by simp;omega)
    have hrow:w5.ownsRow g 38 1 (.slice A8 (i+1) c8) (i+1) ((M0.take (i+1)).flatMap u64E):=by
     rw[List.take_add_one,HMi.out,List.flatMap_append];exact ho5
    have HF:=zh (And.intro hrow hb5)
    clear hrow hb5 hk5 hg5 ho5
    go_wp2_with fail
    exact⟨⟨i+1,c8,A8,rfl,by go_num,by omega,zh HF.out.1,zh HF.out.2⟩,by simp[intOf];omega⟩
   ·obtain rfl:n2=i:=by omega
    have ho:=HO.out
    rw[List.take_of_length_le (by rw[HML.out];exact Nat.le_refl _)] at ho
    obtain⟨g2,c2',hv,hgg,hc1,hc2⟩:=own_some ho (by omega)
    injection hv with hv1 hv2 hv3
    subst hv1 hv3
    have HB:=zh (BlkV.of_own HMs.out HML.out ho)
    have Hs:=zh (sortU_any g2 n2 c10 M0.toArray wr HB.out (by omega))
    have Hgg:=zh hgg
    clear ho hgg
    go_wp2_with ((with_reducible refine Hs.out.mono ?_);rintro e w6 ⟨d6,rfl,hB6,hp6,hs6,hk6⟩)
    have he:d6.toList=sortL M0:=sorted_eq (d:=M0.toArray) (by simpa using HML.out) hp6 hs6
    have hsl:=hB6.sle
    rw[he] at hsl
    have Hf:=zh (HR.out _ n2 c10 w6 hsl.1 hc1 hc2 hsl (Hb1.out.trans ((Kx.low HW.out hk6 (λj hj=>by rw[hj];exact Hgg.out) hsz).mono (by rw[← Hg.out];exact Hb1.out.size))) (λa ha=>by cases ha;exact Nat.le_trans (by rw[← Hg.out];exact Hb1.out.size) Hgg.out))
    clear hsl he hB6 hp6 hs6 hk6
    first|exact Hf.out|(go_ret2;exact Hf.out)
end
end
end
end Go.Proofs.YtjibohkeapdalaaGreatDoor
