/-
  balances.lots: strings.Compare, cmp.Or, its closure, slices.SortFunc over lots, the range over the balances; no condition but those that each theorem states. Lots in order: places are compared as texts; the sort's contract at lots; conditions: those that each theorem states. balances.lots, Book.Lots: all balances in order; conditions: those that each theorem states. cursor.take, cursor.number, decode where there is nothing left; Open on a new disk; conditions: those that each theorem states.
-/
import Derived.Test.YtjibohkeapdalaaGreatDoorAc
import Derived.Test.YtjibohkeapdalaaGreatDoorAd
import Derived.Shelf.Small.Strs
import Derived.Shelf.SlSortCmp.NoneTotal
import Derived.Maps.RangeWalk
namespace Go.Proofs.YtjibohkeapdalaaGreatDoor
set_option maxHeartbeats 4000000
set_option maxRecDepth 8000
section
section
open Go.RowKit Go.Shelf Go.Maps Go.Lib Go.Sort
theorem compare_any(a b:ByteArray)(w:World):Calls Tryz.prog 380 #[.string a,.string b] w λe w'=>e=.returned (.int .i64 (Lib.compareBytes a.data.toList b.data.toList))/\w=w':=
 (Any.strings_Compare cmpSLays a b w).mono λ_ _ h=>⟨h.1,h.2.symm⟩
theorem or_any(w:World)(A:Option Addr)(c:Nat)(x y:Int)(hX:SlE intE 1 w A 2 [x,y]):Calls Tryz.prog 379 #[.slice A 2 c] w λe w'=>e=.returned (.int .i64 (if x=0 then y else x))/\w=w':=by
 refine calls_cps ?_
 intro R hR
 have Hr:=zh (show ∀ v,v=(if x=0 then y else x)->R (.returned (.int .i64 v)) w from λv hv=>hR.out _ _ ⟨by rw[hv],rfl⟩)
 obtain⟨b,o,x',rfl,hb,hx,q0⟩:=hX.at1 (k:=0) (by omega)
 obtain⟨b',o',y',e',hb',hy,q1⟩:=hX.at1 (k:=1) (by omega)
 cases e'
 simp only[List.getElem?_cons_zero,List.getElem?_cons_succ,Option.some.injEq] at hx hy
 subst hx
 subst hy
 rw[Nat.add_zero] at q0
 clear hX hR
 go_enter Tryz.func379,Tryz.ntmps379
 go_wp2_with fail
 go_loopw [8] (λs8 wr=>∃ k:Nat,k<=2/\s8=.int .i64 (k:Int)/\wr=w/\Hid (1<=k->x=0)/\Hid (2<=k->y=0)) (λs8 _=>2-(intOf s8).toNat)
 case atStart=>exact⟨0,by omega,rfl,rfl,zh (by omega),zh (by omega)⟩
 case round =>
  obtain⟨k,hk,rfl,rfl,H1,H2⟩:=hrel
  obtain rfl|rfl|rfl:k=0\/k=1\/k=2:=by omega
  ·by_cases hz:x=0
   ·subst hz
    go_wp2_with fail
    refine⟨⟨1,by omega,by go_num,trivial,zh (by simp),zh (by omega)⟩,by simp[intOf]<;>omega⟩
   ·have z1:(x != 0)=true:=by rw[bne_iff_ne];exact hz
    have HF:=zh (Hr.out x (by rw[if_neg hz]))
    clear Hr hz
    go_wp2
    exact HF.out
  ·have hx0:=H1.out (by omega)
   subst hx0
   by_cases hz:y=0
   ·subst hz
    go_wp2_with fail
    refine⟨⟨2,by omega,by go_num,trivial,zh (by simp),zh (by simp)⟩,by simp[intOf]<;>omega⟩
   ·have z1:(y != 0)=true:=by rw[bne_iff_ne];exact hz
    have HF:=zh (Hr.out y (by rw[if_pos rfl]))
    clear Hr hz
    go_wp2
    exact HF.out
  ·have HF:=zh (Hr.out 0 (by rw[if_pos (H1.out (by omega)),H2.out (by omega)]))
   clear Hr
   go_wp2
   exact HF.out
abbrev Lot:=ByteArray×ByteArray×Int
def lotE(x:Lot):List Value:=[.string x.1,.string x.2.1,.int .i64 x.2.2]
theorem lotE_len(x:Lot):(lotE x).length=3:=rfl
def cfL(x y:Lot):Int:=if Lib.compareBytes x.1.data.toList y.1.data.toList=0 then Lib.compareBytes x.2.1.data.toList y.2.1.data.toList else Lib.compareBytes x.1.data.toList y.1.data.toList
theorem closL_any(x y:Lot)(W:World):Calls Tryz.prog 378 #[.agg #[.string x.1,.string x.2.1,.int .i64 x.2.2],.agg #[.string y.1,.string y.2.1,.int .i64 y.2.2]] W λe w'=>e=.returned (.int .i64 (cfL x y))/\∃ q os',w'=grow (W.drewN q) os':=by
 refine calls_cps ?_
 intro R hR
 obtain⟨a,i,n⟩:=x
 obtain⟨b,j,m⟩:=y
 have HC1:=zh (λW=>compare_any a b W)
 have HC2:=zh (λW=>compare_any i j W)
 unfold cfL at hR
 dsimp only at hR ⊢
 obtain⟨p,hp⟩:∃ p,Lib.compareBytes a.data.toList b.data.toList=p:=⟨_,rfl⟩
 obtain⟨q,hq⟩:∃ q,Lib.compareBytes i.data.toList j.data.toList=q:=⟨_,rfl⟩
 rw[hp] at HC1 hR
 rw[hq] at HC2 hR
 clear hp hq
 go_enter Tryz.func378,Tryz.ntmps378
 go_upto_region 1 with fail
 have b0:=heap_alloc_new W (.cells #[.string a,.string i,.int .i64 n] 400)
 have b1:=heap_alloc_new (W.alloc (.cells #[.string a,.string i,.int .i64 n] 400)) (.cells #[.string b,.string j,.int .i64 m] 400)
 have b2:=(heap_alloc_old (W.alloc (.cells #[.string a,.string i,.int .i64 n] 400)) (.cells #[.string b,.string j,.int .i64 m] 400) (show W.heap.size<_ by simp)).trans b0
 obtain⟨W2,hW2⟩:∃ W2,(W.alloc (.cells #[.string a,.string i,.int .i64 n] 400)).alloc (.cells #[.string b,.string j,.int .i64 m] 400)=W2:=⟨_,rfl⟩
 rw[World.size_alloc] at b1
 rw[hW2] at b1 b2 ⊢
 have HW2:=zh hW2
 have u0:W2.cell? ⟨W.heap.size,0,none⟩=some (.string a):=by rw[cell_of_row _ _ 0 _ _ (0,0) b2];rfl
 have u1:W2.cell? ⟨W.heap.size,1,none⟩=some (.string i):=by rw[cell_of_row _ _ 1 _ _ (0,0) b2];rfl
 have u2:W2.cell? ⟨W.heap.size+1,0,none⟩=some (.string b):=by rw[cell_of_row _ _ 0 _ _ (0,0) b1];rfl
 have u3:W2.cell? ⟨W.heap.size+1,1,none⟩=some (.string j):=by rw[cell_of_row _ _ 1 _ _ (0,0) b1];rfl
 clear b0 b1 b2 hW2
 refine wp_region_still_tail 10 (by kernel_rfl) (by kernel_rfl) ?_
 simp only[List.take_succ_cons,List.take_zero,List.drop_succ_cons,List.drop_zero]
 still_step
 still_step
 still_step
 still_step
 still_call ((HC1.out _).mono λ_ _ h=>⟨h.1,h.2.symm⟩)
 still_step
 still_step
 still_step
 still_step
 still_call ((HC2.out _).mono λ_ _ h=>⟨h.1,h.2.symm⟩)
 refine wpStill_nil ?_
 change wpList _ _ _ _ _ W2.drew
 clear u0 u1 u2 u3
 go_wp2_with fail
 have HO:=zh (or_any _ _ 2 p q ⟨rfl,(Sl.new W2 #[.int .i64 p,.int .i64 q] 3 1 2 rfl).drew⟩)
 obtain⟨r,hr⟩:∃ r,(if p=0 then q else p)=r:=⟨_,rfl⟩
 rw[hr] at HO hR
 clear hr
 refine HO.out.mono ?_
 rintro e w' ⟨rfl,rfl⟩
 go_wp2
 refine hR.out _ _ ⟨rfl,1,#[.cells #[.string a,.string i,.int .i64 n] 400,.cells #[.string b,.string j,.int .i64 m] 400,.cells #[.int .i64 p,.int .i64 q] 3],?_⟩
 rw[← HW2.out,alloc_eq_grow,alloc_eq_grow,alloc_eq_grow,grow_grow,grow_grow]
 rfl
theorem lotLays(blk off size:Nat)(w:World):CmpLays Tryz.prog 378 #[] lotE 3 cfL blk off size w:=λ_ _ _ _ x y=>closL_any x y _
theorem isAggLot:∀ w,(isAgg 400).run Tryz.prog w=.ok true w:=λ_=>by kernel_rfl
theorem sizeLot:∀ w,(Go.sizeOf 400).run Tryz.prog w=.ok 3 w:=λ_=>by kernel_rfl
end
end
section
section
open Go.RowKit Go.Shelf Go.Maps Go.Lib Go.Sort
theorem cb_neg:∀ (a b:List UInt8),Lib.compareBytes a b = -Lib.compareBytes b a
 |[],[]=>rfl
 |[],_ :: _=>rfl
 |_ :: _,[]=>rfl
 |a :: l,b :: r=>by
  unfold Lib.compareBytes
  have:=cb_neg l r
  by_cases h1:a<b
  ·have h2:¬ b<a:=by rw[UInt8.lt_iff_toNat_lt] at *;omega
   simp[h1,h2]
  ·by_cases h2:b<a
   ·simp[h1,h2]
   ·simp[h1,h2,this]
theorem cb_zero:∀ (a b:List UInt8),Lib.compareBytes a b=0->a=b
 |[],[],_=>rfl
 |[],_ :: _,h=>by simp[Lib.compareBytes] at h
 |_ :: _,[],h=>by simp[Lib.compareBytes] at h
 |a :: l,b :: r,h=>by
  unfold Lib.compareBytes at h
  by_cases h1:a<b
  ·simp[h1] at h
  ·by_cases h2:b<a
   ·simp[h1,h2] at h
   ·simp[h1,h2] at h
    have e:a=b:=by
     rw[UInt8.lt_iff_toNat_lt] at h1 h2
     exact UInt8.toNat_inj.1 (by omega)
    rw[e,cb_zero l r h]
theorem cb_trans:∀ (a b c:List UInt8),Lib.compareBytes a b<0->Lib.compareBytes b c<0->Lib.compareBytes a c<0
 |[],[],_,h,_=>by simp[Lib.compareBytes] at h
 |[],_ :: _,[],_,h=>by simp[Lib.compareBytes] at h
 |[],_ :: _,_ :: _,_,_=>by simp[Lib.compareBytes]
 |_ :: _,[],_,h,_=>by simp[Lib.compareBytes] at h
 |_ :: _,_ :: _,[],_,h=>by simp[Lib.compareBytes] at h
 |a :: l,b :: r,c :: s,h,h'=>by
  unfold Lib.compareBytes at h h' ⊢
  have ih:=cb_trans l r s
  by_cases h1:a<b
  ·by_cases h2:b<c
   ·have h3:a<c:=by rw[UInt8.lt_iff_toNat_lt] at *;omega
    simp[h3]
   ·by_cases h4:c<b
    ·simp[h2,h4] at h'
    ·have h3:a<c:=by rw[UInt8.lt_iff_toNat_lt] at *;omega
     simp[h3]
  ·by_cases h5:b<a
   ·simp[h1,h5] at h
   ·simp[h1,h5] at h
    by_cases h2:b<c
    ·have h3:a<c:=by rw[UInt8.lt_iff_toNat_lt] at *;omega
     simp[h3]
    ·by_cases h4:c<b
     ·simp[h2,h4] at h'
     ·simp[h2,h4] at h'
      have h3:¬ a<c:=by rw[UInt8.lt_iff_toNat_lt] at *;omega
      have h6:¬ c<a:=by rw[UInt8.lt_iff_toNat_lt] at *;omega
      simp[h3,h6,ih h h']
theorem cf_neg(x y:Lot):cfL x y = -cfL y x:=by
 unfold cfL
 have h1:=cb_neg x.1.data.toList y.1.data.toList
 have h2:=cb_neg x.2.1.data.toList y.2.1.data.toList
 by_cases h:Lib.compareBytes x.1.data.toList y.1.data.toList=0
 ·rw[if_pos h,if_pos (by omega)]
  exact h2
 ·rw[if_neg h,if_neg (by omega)]
  exact h1
theorem cf_trans(x y z:Lot)(h:cfL x y<0)(h':cfL y z<0):cfL x z<0:=by
 unfold cfL at h h' ⊢
 by_cases h1:Lib.compareBytes x.1.data.toList y.1.data.toList=0
 ·rw[if_pos h1] at h
  have e:=cb_zero _ _ h1
  rw[e]
  by_cases h2:Lib.compareBytes y.1.data.toList z.1.data.toList=0
  ·rw[if_pos h2] at h' ⊢
   exact cb_trans _ _ _ h h'
  ·rw[if_neg h2] at h' ⊢
   exact h'
 ·rw[if_neg h1] at h
  by_cases h2:Lib.compareBytes y.1.data.toList z.1.data.toList=0
  ·rw[← cb_zero _ _ h2,if_neg h1]
   exact h
  ·rw[if_neg h2] at h'
   have h3:=cb_trans _ _ _ h h'
   rw[if_neg (by omega)]
   exact h3
theorem cf_zero(x y:Lot)(h:cfL x y=0):(x.1,x.2.1)=(y.1,y.2.1):=by
 unfold cfL at h
 by_cases h1:Lib.compareBytes x.1.data.toList y.1.data.toList=0
 ·rw[if_pos h1] at h
  have e1:=cb_zero _ _ h1
  have e2:=cb_zero _ _ h
  rw[ByteArray.ext (Array.toList_inj.1 e1),ByteArray.ext (Array.toList_inj.1 e2)]
 ·rw[if_neg h1] at h
  exact absurd h h1
theorem cf_of_eq(x y z:Lot)(h:(x.1,x.2.1)=(y.1,y.2.1)):cfL x z=cfL y z:=by
 unfold cfL
 injection h with h1 h2
 rw[h1,h2]
theorem swoL:SWO (ltOf cfL) where
 irrefl x:=by
  have:=cf_neg x x
  unfold ltOf
  simp
  omega
 trans x y z h1 h2:=by
  unfold ltOf at *
  simp at *
  exact cf_trans x y z h1 h2
 ntrans x y z h1 h2:=by
  unfold ltOf at *
  simp at *
  have n1:=cf_neg x y
  have n2:=cf_neg y z
  have n3:=cf_neg x z
  by_cases e1:cfL x y=0
  ·rw[cf_of_eq x y z (cf_zero _ _ e1)]
   exact h2
  ·by_cases e2:cfL y z=0
   ·have:=cf_of_eq y z x (cf_zero _ _ e2)
    omega
   ·have:=cf_trans z y x (by omega) (by omega)
    omega
theorem row_heap{W:World}{B g c sz m:Nat}{e:TypeId}{xs:List Value}(h:W.ownsRow B e sz (.slice (some ⟨g,0,none⟩) m c) m xs):B<=g/\g<W.heap.size/\∃ cur,W.heap[g]?=some (.cells cur e (0,0))/\m<=c/\c<=maxLen:=by
 rcases h.2 with⟨h',_⟩|⟨g',c',cur,h',hb,hg,hn,hc,_⟩
 ·simp at h'
 ·simp only[Value.slice.injEq,Option.some.injEq,Addr.mk.injEq,and_true,true_and] at h'
  obtain⟨rfl,rfl⟩:=h'
  exact⟨hb,(Array.getElem?_eq_some_iff.1 hg).1,cur,hg,hn,hc⟩
instance:Inhabited Lot:=⟨(ByteArray.empty,ByteArray.empty,0)⟩
theorem lot_flat(L:List Lot)(t:Nat)(h:t<L.length*3):(flatK lotE 3 L.toArray)[t]?=(L.flatMap lotE)[t]?:=by
 have hd:t/3<L.length:=by omega
 have e:=flat_get (enc:=lotE) (sz:=3) lotE_len L (t/3) (t%3) L[t/3] (List.getElem?_eq_getElem hd) (Nat.mod_lt _ (by omega))
 have e2:t/3*3+t%3=t:=by omega
 rw[e2] at e
 rw[e]
 have h1:=get_flatK lotE 3 L.toArray t (by simpa using h)
 have hs:t<(flatK lotE 3 L.toArray).size:=by simpa using h
 rw[getElem!_pos _ t hs] at h1
 rw[Array.getElem?_eq_getElem hs,h1]
 have hL:L.toArray[t/3]! = L[t/3]:=by simp[hd]
 rw[hL,getElem!_pos _ (t%3) (by rw[lotE_len];exact Nat.mod_lt _ (by omega)),List.getElem?_eq_getElem (by rw[lotE_len];exact Nat.mod_lt _ (by omega))]
theorem lsort_any(A:Option Addr)(n c base:Nat)(L:List Lot)(W:World)(ho:W.ownsRow base 400 3 (.slice A n c) n (L.flatMap lotE))(hn:n=L.length)(hs:n<=1000000) :
 Calls Tryz.prog 377 #[.slice A n c,.func (.func 378) #[] #[]] W λe W'=>e=.returned (.tuple #[])/\∃ L':List Lot,L'.Perm L/\L'.Pairwise (λx y=>cfL x y<=0)/\SlE lotE 3 W' A n L'/\Kx (λj=>base<=j) W W':=by
 subst hn
 rcases A with _|⟨g,o,sub⟩
 ·have h0:L=[]:=by
   rcases ho.2 with⟨h',h2⟩|⟨g',c',cur,h',_⟩
   ·simp only[Value.slice.injEq,true_and] at h'
    exact List.length_eq_zero_iff.1 h'.1
   ·simp at h'
  subst h0
  refine (AnyF.slices_SortFunc_none sortFLays none c (.func (.func 378) #[] #[]) W).mono ?_
  rintro e W' ⟨rfl,rfl⟩
  exact⟨rfl,[],List.Perm.refl _,List.Pairwise.nil,SlE.nil _ _,Kx.refl _ _⟩
 ·have hg:o=0/\sub=none:=by
   rcases ho.2 with⟨h',h2⟩|⟨g',c',cur,h',_⟩
   ·simp at h'
   ·simp only[Value.slice.injEq,Option.some.injEq,Addr.mk.injEq] at h'
    exact⟨h'.1.2.1,h'.1.2.2⟩
  obtain⟨rfl,rfl⟩:=hg
  obtain⟨hb,hgl,cur,_,hnc,hcm⟩:=row_heap ho
  have hH:HoldsK lotE 3 W g 0 L.toArray:=λj hj=>by
   have hj':j<L.length*3:=by simpa using hj
   rw[Nat.zero_add]
   refine⟨?_,ho.frozenAt j⟩
   rw[ho.cellAt j hj',← lot_flat L j hj',Array.getElem?_eq_getElem hj,getElem!_pos _ j hj]
   rfl
  have hsz:L.toArray.size=L.length:=by simp
  have hc:=AnyQ.slices_SortFunc sortFLays 3 isAggLot sizeLot lotE lotE_len (λx v hv=>by
   simp only[lotE,List.mem_cons,List.not_mem_nil,or_false] at hv
   rcases hv with rfl|rfl|rfl<;>rfl) cfL swoL 378 #[] g 0 c L.toArray W (enters_of Tryz.func378 (by kernel_rfl) rfl) (lotLays g 0 _ W) hH hgl (by rw[hsz];omega)
  rw[hsz] at hc
  refine hc.mono ?_
  rintro e W' ⟨rfl,d',q,os,⟨p1,p2,p3⟩,hsrt,rfl⟩
  rw[hsz] at p1
  have hH2:HoldsK lotE 3 (sortWorldK lotE 3 W g 0 q d' os) g 0 d':=by
   refine holdsK_grow lotE 3 _ os g 0 d' (by rw[size_putRowK];exact hgl) (holdsK_putRowK lotE 3 _ g 0 L.toArray d' (holdsK_ahead lotE 3 W q g 0 _ hH) (by rw[hsz];exact p1))
  have hgs:W.heap.size<=(sortWorldK lotE 3 W g 0 q d' os).heap.size:=by
   simp only[sortWorldK,grow,Array.size_append,size_putRowK]
   show W.heap.size<=W.heap.size+_
   omega
  refine⟨rfl,d'.toList,?_,?_,⟨by simpa using p1.symm,by rw[flat_length lotE_len,Array.length_toList,p1],λhn=>⟨g,0,rfl,by omega,λj u hu=>?_⟩⟩,⟨rfl,rfl,rfl,hgs,λj hj hn=>?_⟩⟩
  ·rw[← p1,Array.extract_size,p1,← hsz,Array.extract_size] at p3
   exact p3
  ·rw[List.pairwise_iff_getElem]
   intro i j hi hj hij
   have hi':i<d'.size:=by simpa using hi
   have hj':j<d'.size:=by simpa using hj
   have h:=hsrt i j (Nat.zero_le _) hij (by omega)
   rw[getElem!_pos _ i hi',getElem!_pos _ j hj'] at h
   unfold ltOf at h
   simp at h
   have:=cf_neg d'[i] d'[j]
   simp only[Array.getElem_toList]
   omega
  ·have hj:j<d'.toList.length*3:=by
    have:=(List.getElem?_eq_some_iff.1 hu).1
    rwa [flat_length lotE_len] at this
   have e:=lot_flat d'.toList j hj
   rw[hu] at e
   obtain⟨hjs,he⟩:=Array.getElem?_eq_some_iff.1 e
   have h:=(hH2 j hjs).1
   rw[getElem!_pos _ j hjs] at h
   rw[h]
   exact congrArg some he
  ·have hne:g≠j:=λe=>hn (e ▸ hb)
   simp only[sortWorldK,grow]
   rw[Array.getElem?_append_left (by rw[size_putRowK];exact hj)]
   simp[putRowK,putRow,mapBlock,Array.getElem?_modify,hne,Sort.ahead]
end
end
section
section
open Go.RowKit Go.Shelf Go.Maps
structure LotsOf(f:Pl->Int)(L:List Lot):Prop where
 all:∀ x∈L,PlZ (x.1,x.2.1)/\x.2.2=f (x.1,x.2.1)/\x.2.2≠0
 every:∀ p,PlZ p->f p≠0->(p.1,p.2,f p)∈L
 once:(L.map λx=>(x.1,x.2.1)).Nodup
structure LotsTo(f:Pl->Int)(D:DataW Unit)(left:Lit->Bool)(L:List Lot):Prop where
 all:∀ x∈L,PlZ (x.1,x.2.1)/\x.2.2=f (x.1,x.2.1)/\x.2.2≠0/\left (keyL (x.1,x.2.1))=false
 every:∀ p,PlZ p->f p≠0->left (keyL p)=false->(p.1,p.2,f p)∈L
 once:(L.map λx=>(x.1,x.2.1)).Nodup
 has:∀ kl,left kl=true->Maps.has D kl=true
theorem sk_self(p:Pl):(keyL p).sameKey (keyL p)=true:=by
 unfold keyL
 simp[Lit.sameKey]
theorem sk_ne{p q:Pl}(h:keyL p≠keyL q):(keyL p).sameKey (keyL q)=false:=by
 unfold keyL at *
 simp only[Lit.sameKey,beq_eq_false_iff_ne]
 intro e
 exact h (by rw[e])
theorem LotsTo.start{f:Pl->Int}{D:DataW Unit}(h:∀ p,PlZ p->Maps.has D (keyL p)=decide (f p≠0)):LotsTo f D (Maps.has D) []:=
 ⟨λx hx=>(by cases hx),λp hp hf hl=>by rw[h p hp] at hl;simp at hl;exact absurd hl hf,List.nodup_nil,λ_ h=>h⟩
theorem LotsTo.step{f:Pl->Int}{D:DataW Unit}{left:Lit->Bool}{L:List Lot}(h:LotsTo f D left L){p:Pl}(hp:PlZ p)(hf:f p≠0)(hl:left (keyL p)=true):LotsTo f D (λz=>left z && !z.sameKey (keyL p)) (L++[(p.1,p.2,f p)]):=by
 refine⟨λx hx=>?_,λq hq hfq hlq=>?_,?_,λkl hk=>h.has kl ?_⟩
 ·rcases List.mem_append.1 hx with hx|hx
  ·obtain⟨a,b,c,d⟩:=h.all x hx
   exact⟨a,b,c,by rw[d];rfl⟩
  ·rw[List.mem_singleton] at hx
   subst hx
   exact⟨hp,rfl,hf,by rw[sk_self];simp⟩
 ·by_cases e:q=p
  ·subst e
   exact List.mem_append.2 (.inr (List.mem_singleton.2 rfl))
  ·refine List.mem_append.2 (.inl (h.every q hq hfq ?_))
   rw[sk_ne (λe2=>e (key_inj hq hp e2))] at hlq
   simpa using hlq
 ·rw[List.map_append,List.nodup_append]
  refine⟨h.once,by simp,λa ha b hb=>?_⟩
  rw[List.map_singleton,List.mem_singleton] at hb
  obtain⟨x,hx,rfl⟩:=List.mem_map.1 ha
  intro e
  obtain⟨_,_,_,d⟩:=h.all x hx
  rw[e,hb] at d
  rw[hl] at d
  cases d
 ·rw[Bool.and_eq_true] at hk
  exact hk.1
theorem LotsTo.fin{f:Pl->Int}{D:DataW Unit}{left:Lit->Bool}{L:List Lot}(h:LotsTo f D left L)(hl:∀ kl,left kl=false):LotsOf f L:=
 ⟨λx hx=>let ⟨a,b,c,_⟩:=h.all x hx;⟨a,b,c⟩,λp hp hf=>h.every p hp hf (hl _),h.once⟩
theorem LotsOf.perm{f:Pl->Int}{L L':List Lot}(h:LotsOf f L)(hp:L'.Perm L):LotsOf f L':=
 ⟨λx hx=>h.all x (hp.mem_iff.1 hx),λp h1 h2=>hp.mem_iff.2 (h.every p h1 h2),((hp.map _).nodup_iff).2 h.once⟩
theorem infoLot:(Tryz.prog.info? 400).map (λi=>(i.zero,i.size,i.bytes))=some (some (.agg #[.string ByteArray.empty,.string ByteArray.empty,.int .i64 0]),3,40):=by kernel_rfl
theorem elemLot:ElemOk Tryz.prog 396 400 3 40:=ElemOk.of (z:=.agg #[.string ByteArray.empty,.string ByteArray.empty,.int .i64 0]) Tryz.underlying396 infoLot rfl (by omega)
theorem lot_one(L:List Lot):∀ u∈L.flatMap lotE,u.oneCell'=true:=by
 intro u hu
 obtain⟨x,_,hx⟩:=List.mem_flatMap.1 hu
 simp only[lotE,List.mem_cons,List.not_mem_nil,or_false] at hx
 rcases hx with rfl|rfl|rfl<;>rfl
theorem key_val{v:Value}{p:Pl}(hp:PlZ p)(h:keyOf Tryz.prog 268 v=some (keyL p)):v=keyV p:=plLaw0.inj h (key_of hp)
theorem own_drew{W:World}{B e sz n:Nat}{v:Value}{xs:List Value}(h:W.ownsRow B e sz v n xs):W.drew.ownsRow B e sz v n xs:=h
theorem stop{p:Prop}(h:Hid p):p:=h.out
theorem own_ne_base{W:World}{B e sz n g:Nat}{v:Value}{xs:List Value}(h:W.ownsRow B e sz v n xs)(hg:g<B):v.ownBlock=none\/v.ownBlock≠some g:=by
 cases hv:v.ownBlock with
 |none=>exact .inl rfl
 |some j=>exact .inr (λe=>by injection e with e;have:=own_ge h hv;omega)
theorem lots_any(w:World)(b n:Nat)(f:Pl->Int)(h:BalZ w b n f)(hn:n<=1000000) :
 Calls Tryz.prog 345 #[.map (some b)] w λe w'=>∃ (A:Option Addr) (c:Nat) (L:List Lot),e=.returned (.slice A L.length c)/\LotsOf f L/\L.Pairwise (λx y=>cfL x y<=0)/\L.length<=n/\SlE lotE 3 w' A L.length L/\(∀ a,A=some a->w.heap.size<=a.block)/\Below w.heap.size w w':=by
 refine calls_cps ?_
 intro R hR
 obtain⟨D,hD,hZ,hY⟩:=h
 have hsize:=hD.1.size_le
 have hlt:=hD.lt
 have Hown:=zh hD.1
 have HD2:=zh hD.2
 have HZ:=zh hZ
 have HY:=zh hY
 clear hD hZ hY
 go_enter Tryz.func345,Tryz.ntmps345
 go_wp2_with (at_range;refine wpList_range_own _ rfl _ 161 rfl 268 3 plLaw plT1 _ b n D rfl Hown.out ?_;intro w0 hrg0 hg0 hs0)
 go_frame
 have Hrg0:=zh hrg0
 have Hg0:=zh hg0
 have Hs0:=zh hs0
 clear hrg0 hg0 hs0
 go_loopw [3] (λs3 wr=>∃ (left:Lit->Bool) (cnt m:Nat) (A':Option Addr) (c':Nat),s3=.slice A' m c'/\m+cnt<=n/\Hid (wr.ranges Tryz.prog 268 (plainElem Tryz.prog 3) b w.heap.size n D left cnt)/\Hid (Below w.heap.size w wr)/\Hid (w.heap.size+1<=wr.heap.size)/\
  Hid (∃ L:List Lot,m=L.length/\LotsTo f D left L/\wr.ownsRow (w.heap.size+1) 400 3 (.slice A' m c') m (L.flatMap lotE)))
  (λ_ wr=>wr.rangeLeft b w.heap.size)
 case atStart =>
  exact⟨_,_,0,none,0,rfl,by omega,Hrg0,zh ⟨Hg0.out.os,Hg0.out.tape,Hg0.out.output,Hg0.out.size,λj hj=>Hg0.out.block j hj (by simp)⟩,zh (by rw[Hs0.out];exact Nat.le_refl _),zh ⟨[],rfl,LotsTo.start HZ.out,World.ownsRow_nil _ _ _ _⟩⟩
 case round =>
  obtain⟨left,cnt,m,A',c',rfl,hmn,Hrg,Hb,Hsz,HL⟩:=hrel
  go_wp2_with (at_next;refine wpList_next_ranges _ rfl _ rfl 268 plLaw (plainElem Tryz.prog 3) id id (λkey kl _=>⟨key,rfl⟩) (λv y _=>⟨v,rfl⟩) b w.heap.size n _ _ _ rfl Hrg.out ?_ ?_)
  ·intro _ hl0
   have Hl0:=zh hl0
   obtain⟨L,hm,hto,ho⟩:=HL.out
   have HLo:=zh (hto.fin Hl0.out)
   have HS:=zh (lsort_any A' m c' (w.heap.size+1) L wr ho hm (by omega))
   have Hm:=zh hm
   have HNew:=zh (show ∀ a,A'=some a->w.heap.size<=a.block from λa ha=>by
    subst ha
    have:=own_ge ho (g:=a.block) rfl
    omega)
   clear hl0 hto ho hm
   go_wp2_with fail
   refine HS.out.mono ?_
   rintro e w2 ⟨rfl,L',hp,hs,hx,hk⟩
   have Hp:=zh hp
   have Hs:=zh hs
   have Hx:=zh hx
   have Hk:=zh hk
   clear hp hs hx hk
   go_wp2
   have hl:m=L'.length:=by rw[Hm.out];exact Hp.out.length_eq.symm
   refine hR.out _ _ ⟨A',c',L',by rw[hl];rfl,HLo.out.perm Hp.out,Hs.out,by omega,by rw[← hl];exact Hx.out,HNew.out,Hk.out.low Hb.out (λj hj=>by omega) (by have:=Hsz.out;omega)⟩
  ·intro x c kl y ys w1 cnt1 hkey hlx hRy hat hrg1 hlt1 hg1 hs1 hen
   obtain⟨L,hm,hto,ho⟩:=HL.out
   obtain⟨p,hp,rfl⟩:=HY.out kl (hto.has kl hlx)
   have hx:x=keyV p:=key_val hp hkey
   subst hx
   obtain⟨q,hc,hy,_⟩:=plainElem_int_inv Tryz.underlying3 hRy
   have hq:q=f p:=by
    have h1:=HD2.out p hp
    injection hy with hy _
    rw[hat,hy] at h1
    unfold i64D at h1
    simpa using h1
   have hf:f p≠0:=by
    have h1:=HZ.out p hp
    rw[hto.has _ hlx] at h1
    simpa using h1.symm
   have hc':c=.int .i64 (f p):=by rw[← hq];exact hc
   subst hc'
   have HTo:=zh (hto.step hp hf hlx)
   have HO:=zh (ho.kept hg1 (own_ne_base ho (by omega)))
   have HRg:=zh hrg1
   have hb1:Below w.heap.size w w1:=⟨hg1.os.trans Hb.out.os,hg1.tape.trans Hb.out.tape,hg1.output.trans Hb.out.output,by have:=hg1.size;have:=Hb.out.size;omega,λj hj=>(hg1.block j (Nat.lt_of_lt_of_le hj Hb.out.size) (λe=>by injection e with e;omega)).trans (Hb.out.block j hj)⟩
   have HB1:=zh hb1
   have Hs1:=zh hs1
   have Hlt1:=zh hlt1
   have Hm:=zh hm
   clear hto ho hkey hlx hRy hat hrg1 hlt1 hg1 hs1 hc hy hq hf hb1 hm
   obtain⟨a,i⟩:=p
   simp only[keyV] at hen ⊢
   have hbx:=cells2 (heap_alloc_new w1 (.cells #[.string a,.string i] 268))
   obtain⟨c0,c1,-⟩:=hbx
   go_upto_region 5 with fail
   go_wp2_with (at_builtin;refine stop ?_)
   refine zh ?_
   refine wpList_app rfl (.tmp 13) (.tmp 20) _ rfl elemLot (w.heap.size+1) _ _ _ rfl ((HO.out.alloc _).alloc _) _ _ _ _ rfl (Sl.newAt _ _ _ 3 1 rfl (by simp)) (lot_one [(a,i,f (a,i))]) (by unfold maxLen;omega) (by omega) (by simp;have:=HB1.out.size;have:=Hs1.out;have:=Hsz.out;omega) ?_
   intro A2 c2 w2 ho2 hg2 _
   have HO2:=zh ho2
   have HG2:=zh hg2
   clear ho2 hg2
   go_wp2_with fail
   obtain⟨ob,hob⟩:∃ ob,(Value.slice A' m c').ownBlock=ob:=⟨_,rfl⟩
   have hge:∀ g,ob=some g->w.heap.size+1<=g:=λg hg=>own_ge HO.out (hob.trans hg)
   have hg2:=HG2.out
   change World.grownBy _ _ (Value.slice A' m c').ownBlock at hg2
   rw[hob] at hg2
   have hrg2:=((HRg.out.alloc (.cells #[.string a,.string i] 268)).alloc (.cells #[.string a,.string i,.int .i64 (f (a,i))] 400)).kept hg2 (λe=>by have:=hge _ e.symm;omega) (λe=>by have:=hge _ e.symm;omega)
   have hk2:Kx (λj=>w.heap.size+1<=j) w1 w2:=(((Kx.refl _ w1).below (below_new w1 _)).below (below_new _ _)).grown hg2 (λj hj=>.inl (hge j hj))
   refine⟨⟨_,cnt1,m+1,A2,c2,rfl,by have:=Hlt1.out;omega,zh hrg2,zh (hk2.low HB1.out (λj hj=>by omega) HB1.out.size),zh (by have:=hk2.size;have:=Hs1.out;have:=Hsz.out;omega),zh ⟨_,by rw[List.length_append,List.length_singleton,Hm.out],HTo.out,?_⟩⟩,?_⟩
   ·rw[List.flatMap_append]
    have h2:=HO2.out
    simpa[lotE] using h2
   ·rw[hrg2.left_eq,Hrg.out.left_eq]
    exact Hlt1.out
theorem blots_any(w:World)(F:Nat->Prop)(a dk:Nat)(b:Bk)(h:Bok w F a dk b)(hn:b.E.length<=10000) :
 Calls Tryz.prog 285 #[.pointer (some ⟨a,0,none⟩)] w λe w'=>∃ (A:Option Addr) (c:Nat) (L:List Lot),e=.returned (.slice A L.length c)/\LotsOf (balE b.E) L/\L.Pairwise (λx y=>cfL x y<=0)/\L.length<=1000000/\SlE lotE 3 w' A L.length L/\(∀ a,A=some a->w.heap.size<=a.block)/\Below w.heap.size w w':=by
 refine calls_cps ?_
 intro R hR
 obtain⟨A,c,mb,n,c0,c1,c2,c3,-,-,HN,HB,-,-⟩:=h.cells
 have HL:=zh (lots_any w mb n (balE b.E) HB.out (by have:=HN.out;omega))
 have Hn:=zh (show n<=1000000 by have:=HN.out;omega)
 clear h
 go_enter Tryz.func285,Tryz.ntmps285
 go_wp2_with fail
 refine HL.out.mono ?_
 rintro e w' ⟨A',c',L,rfl,h1,h2,h3,h4,h6,h5⟩
 have H6:=zh h6
 have H1:=zh h1
 have H2:=zh h2
 have H3:=zh h3
 have H4:=zh h4
 have H5:=zh h5
 clear h1 h2 h3 h4 h5 h6
 go_wp2
 exact hR.out _ _ ⟨A',c',L,rfl,H1.out,H2.out,by have:=H3.out;have:=Hn.out;omega,H4.out,H6.out,H5.out⟩
end
end
section
section
open Go.RowKit Go.Shelf Go.Maps
theorem infoBy0:(Tryz.prog.info? 5).map (λi=>(i.zero,i.size,i.bytes))=some (some (.int .u8 0),1,1):=by kernel_rfl
theorem run_mkB(m:Nat)(hm:m<=1000)(w:World):(Instr.makeSlice 156 (.int .i64 (m:Int)) (.int .i64 (m:Int))).run Tryz.prog w=.ok (.slice (some ⟨w.heap.size,0,none⟩) m m) (w.alloc (.cells (madeCells #[.int .u8 0] m) 5)):=
 run_make_row' 156 5 (.int .u8 0) 1 Tryz.underlying156 infoBy0 rfl .i64 .i64 m (by omega) (by omega) w
abbrev zeroB(n:Nat):Obj:=.cells (madeCells #[.int .u8 0] n) 5
theorem zero_cell(w:World)(b n:Nat)(hb:w.heap[b]?=some (zeroB n))(j:Nat)(hj:j<n):w.cell? ⟨b,j,none⟩=some (.int .u8 0):=by
 rw[cell_of_row _ _ j _ _ (0,0) hb]
 simp[madeCells,hj,Nat.mod_one]
theorem set_below{w w':World}{b k:Nat}{v:Value}(h:Below b w w')(hk:b<=k):Below b w (w'.setCell ⟨k,1,none⟩ v):=
 ⟨h.os,h.tape,h.output,by have:=h.size;simpa[World.setCell] using this,λj hj=>(hset_ne (by omega)).trans (h.block j hj)⟩
theorem take2_any(w:World)(k:Nat)(A:Option Addr)(c:Nat)(o:Bool)(h:w.heap[k]?=some (.cells #[.slice A 0 c,.bool o] 259 (0,0))) :
 Calls Tryz.prog 118 #[.pointer (some ⟨k,0,none⟩),.int .i64 2] w λe w'=>e=.returned (.slice (some ⟨w.heap.size,0,none⟩) 2 2)/\w'=(w.setCell ⟨k,1,none⟩ (.bool true)).alloc (zeroB 2):=by
 refine calls_cps ?_
 intro R hR
 obtain⟨c0,c1,f0⟩:=cells2 h
 have f1:=f0 1
 have hmk:∀ w:World,(Instr.makeSlice 156 (.int .i64 2) (.int .i64 2)).run Tryz.prog w=.ok (.slice (some ⟨w.heap.size,0,none⟩) 2 2) (w.alloc (zeroB 2)):=run_mkB 2 (by omega)
 clear h f0
 cases o
 all_goals
  go_enter Tryz.func118,Tryz.ntmps118
  go_wp2
  exact hR.out _ _ ⟨by simp,rfl⟩
theorem take4_any(w:World)(k:Nat)(A:Option Addr)(c:Nat)(o:Bool)(h:w.heap[k]?=some (.cells #[.slice A 0 c,.bool o] 259 (0,0))) :
 Calls Tryz.prog 118 #[.pointer (some ⟨k,0,none⟩),.int .i64 4] w λe w'=>e=.returned (.slice (some ⟨w.heap.size,0,none⟩) 4 4)/\w'=(w.setCell ⟨k,1,none⟩ (.bool true)).alloc (zeroB 4):=by
 refine calls_cps ?_
 intro R hR
 obtain⟨c0,c1,f0⟩:=cells2 h
 have f1:=f0 1
 have hmk:∀ w:World,(Instr.makeSlice 156 (.int .i64 4) (.int .i64 4)).run Tryz.prog w=.ok (.slice (some ⟨w.heap.size,0,none⟩) 4 4) (w.alloc (zeroB 4)):=run_mkB 4 (by omega)
 clear h f0
 cases o
 all_goals
  go_enter Tryz.func118,Tryz.ntmps118
  go_wp2
  exact hR.out _ _ ⟨by simp,rfl⟩
theorem take0_any(w:World)(k:Nat)(A:Option Addr)(c:Nat)(o:Bool)(h:w.heap[k]?=some (.cells #[.slice A 0 c,.bool o] 259 (0,0)))(ho:o=true) :
 Calls Tryz.prog 118 #[.pointer (some ⟨k,0,none⟩),.int .i64 0] w λe w'=>e=.returned (.slice (some ⟨w.heap.size,0,none⟩) 0 0)/\w'=(w.setCell ⟨k,1,none⟩ (.bool true)).alloc (zeroB 0):=by
 refine calls_cps ?_
 intro R hR
 obtain⟨c0,c1,f0⟩:=cells2 h
 have f1:=f0 1
 have hmk:∀ w:World,(Instr.makeSlice 156 (.int .i64 0) (.int .i64 0)).run Tryz.prog w=.ok (.slice (some ⟨w.heap.size,0,none⟩) 0 0) (w.alloc (zeroB 0)):=run_mkB 0 (by omega)
 clear h f0
 subst ho
 go_enter Tryz.func118,Tryz.ntmps118
 go_wp2
 exact hR.out _ _ ⟨by simp[],rfl⟩
theorem number2_any(w:World)(k:Nat)(A:Option Addr)(c:Nat)(o:Bool)(h:w.heap[k]?=some (.cells #[.slice A 0 c,.bool o] 259 (0,0))) :
 Calls Tryz.prog 117 #[.pointer (some ⟨k,0,none⟩),.int .i64 2] w λe w'=>e=.returned (.int .i64 0)/\w'=(w.setCell ⟨k,1,none⟩ (.bool true)).alloc (zeroB 2):=by
 refine calls_cps ?_
 intro R hR
 have HT:=zh (take2_any w k A c o h)
 have Hr:=zh (hR.out (.returned (.int .i64 0)) ((w.setCell ⟨k,1,none⟩ (.bool true)).alloc (zeroB 2)) ⟨rfl,rfl⟩)
 have Hz:=zh (heap_alloc_new (w.setCell ⟨k,1,none⟩ (.bool true)) (zeroB 2))
 have hsz:(w.setCell ⟨k,1,none⟩ (.bool true)).heap.size=w.heap.size:=by simp[World.setCell]
 rw[hsz] at Hz
 obtain⟨W2,hW2⟩:∃ W2,(w.setCell ⟨k,1,none⟩ (.bool true)).alloc (zeroB 2)=W2:=⟨_,rfl⟩
 rw[hW2] at Hr Hz HT
 obtain⟨g,hg⟩:∃ g,w.heap.size=g:=⟨_,rfl⟩
 rw[hg] at Hz HT
 clear hR h hsz hW2 hg
 go_enter Tryz.func117,Tryz.ntmps117
 go_wp2_with (go_at_call 118;(with_reducible refine HT.out.mono ?_);rintro e w' ⟨rfl,rfl⟩)
 go_loopw [5,12] (λs5 s12 wr=>∃ j:Nat,j<=2/\s5=.int .i64 0/\s12=.int .i64 (j:Int)/\Hid (wr=w')) (λ_ s12 _=>2-(intOf s12).toNat)
 case atStart=>exact⟨0,by omega,rfl,rfl,zh rfl⟩
 case round =>
  obtain⟨j,hj,rfl,rfl,Hw⟩:=hrel
  by_cases hlt:j<2
  ·have q0:=zero_cell wr g 2 (by have h:=Hw.out;rw[h];exact Hz.out) j hlt
   have i1:(j:Int)<2:=by omega
   go_wp2_with fail
   exact⟨⟨j+1,hlt,by go_num,by go_num,Hw⟩,by simp[intOf]<;>omega⟩
  ·have hjn:j=2:=by omega
   subst hjn
   have hr:=Hr.out
   rw[← Hw.out] at hr
   have HF:=zh hr
   clear Hr hr
   go_wp2
   exact HF.out
theorem number4_any(w:World)(k:Nat)(A:Option Addr)(c:Nat)(o:Bool)(h:w.heap[k]?=some (.cells #[.slice A 0 c,.bool o] 259 (0,0))) :
 Calls Tryz.prog 117 #[.pointer (some ⟨k,0,none⟩),.int .i64 4] w λe w'=>e=.returned (.int .i64 0)/\w'=(w.setCell ⟨k,1,none⟩ (.bool true)).alloc (zeroB 4):=by
 refine calls_cps ?_
 intro R hR
 have HT:=zh (take4_any w k A c o h)
 have Hr:=zh (hR.out (.returned (.int .i64 0)) ((w.setCell ⟨k,1,none⟩ (.bool true)).alloc (zeroB 4)) ⟨rfl,rfl⟩)
 have Hz:=zh (heap_alloc_new (w.setCell ⟨k,1,none⟩ (.bool true)) (zeroB 4))
 have hsz:(w.setCell ⟨k,1,none⟩ (.bool true)).heap.size=w.heap.size:=by simp[World.setCell]
 rw[hsz] at Hz
 obtain⟨W2,hW2⟩:∃ W2,(w.setCell ⟨k,1,none⟩ (.bool true)).alloc (zeroB 4)=W2:=⟨_,rfl⟩
 rw[hW2] at Hr Hz HT
 obtain⟨g,hg⟩:∃ g,w.heap.size=g:=⟨_,rfl⟩
 rw[hg] at Hz HT
 clear hR h hsz hW2 hg
 go_enter Tryz.func117,Tryz.ntmps117
 go_wp2_with (go_at_call 118;(with_reducible refine HT.out.mono ?_);rintro e w' ⟨rfl,rfl⟩)
 go_loopw [5,12] (λs5 s12 wr=>∃ j:Nat,j<=4/\s5=.int .i64 0/\s12=.int .i64 (j:Int)/\Hid (wr=w')) (λ_ s12 _=>4-(intOf s12).toNat)
 case atStart=>exact⟨0,by omega,rfl,rfl,zh rfl⟩
 case round =>
  obtain⟨j,hj,rfl,rfl,Hw⟩:=hrel
  by_cases hlt:j<4
  ·have q0:=zero_cell wr g 4 (by have h:=Hw.out;rw[h];exact Hz.out) j hlt
   have i1:(j:Int)<4:=by omega
   go_wp2_with fail
   exact⟨⟨j+1,hlt,by go_num,by go_num,Hw⟩,by simp[intOf]<;>omega⟩
  ·have hjn:j=4:=by omega
   subst hjn
   have hr:=Hr.out
   rw[← Hw.out] at hr
   have HF:=zh hr
   clear Hr hr
   go_wp2
   exact HF.out
theorem cur_next{w:World}{k n:Nat}{A:Option Addr}{c:Nat}{o:Bool}(h:w.heap[k]?=some (.cells #[.slice A 0 c,.bool o] 259 (0,0))) :
 ((w.setCell ⟨k,1,none⟩ (.bool true)).alloc (zeroB n)).heap[k]?=some (.cells #[.slice A 0 c,.bool true] 259 (0,0)):=by
 have hs:=hset (i:=1) (v:=.bool true) h
 rw[heap_alloc_old _ _ (Array.getElem?_eq_some_iff.1 hs).1,hs]
 rfl
theorem decode0_any(w:World)(A:Option Addr)(c:Nat):Calls Tryz.prog 56 #[.slice A 0 c] w λe w'=>e=.returned (.tuple #[.slice none 0 0,.int .i64 0])/\Below w.heap.size w w':=by
 refine calls_cps ?_
 intro R hR
 have h0:=heap_alloc_new w (.cells #[.slice A 0 c,.bool false] 259)
 have b0:=below_new w (.cells #[.slice A 0 c,.bool false] 259)
 obtain⟨k,hk⟩:∃ k,w.heap.size=k:=⟨_,rfl⟩
 have HK:=zh hk
 rw[hk] at h0 b0
 have H0:=zh h0
 have HB0:=zh b0
 clear h0 b0 hk
 go_enter Tryz.func56,Tryz.ntmps56
 go_wp2_with fail
 rw[HK.out]
 refine (number2_any _ k A c false H0.out).mono ?_
 rintro e w1 ⟨rfl,hw1⟩
 have H1:=zh (show w1.heap[k]?=_ from hw1 ▸ cur_next (n:=2) H0.out)
 have HB1:=zh (show Below k w w1 from hw1 ▸ (set_below HB0.out (Nat.le_refl k)).alloc (by simp[World.setCell];have:=HK.out;omega) (zeroB 2))
 clear hw1 H0 HB0
 go_wp2_with fail
 refine (number4_any _ k A c true H1.out).mono ?_
 rintro e w2 ⟨rfl,hw2⟩
 have H2:=zh (show w2.heap[k]?=_ from hw2 ▸ cur_next (n:=4) H1.out)
 have HB2:=zh (show Below k w w2 from hw2 ▸ (set_below HB1.out (Nat.le_refl k)).alloc (by have:=HB1.out.size;have:=HK.out;simp[World.setCell];omega) (zeroB 4))
 clear hw2 H1 HB1
 go_wp2_with fail
 refine (take0_any _ k A c true H2.out rfl).mono ?_
 rintro e w3 ⟨rfl,hw3⟩
 have H3:=zh (show w3.heap[k]?=_ from hw3 ▸ cur_next (n:=0) H2.out)
 have HB3:=zh (show Below k w w3 from hw3 ▸ (set_below HB2.out (Nat.le_refl k)).alloc (by have:=HB2.out.size;have:=HK.out;simp[World.setCell];omega) (zeroB 0))
 clear hw3 H2 HB2
 obtain⟨c0,c1,-⟩:=cells2 H3.out
 go_wp2
 exact hR.out _ _ ⟨rfl,by rw[HK.out];exact HB3.out⟩
theorem bal_new(w:World):BalZ (w.alloc (.map #[] 0)) w.heap.size 0 (balE []):=
 ⟨.map [],⟨World.ownsMap_made w _ _ _,λp _=>rfl⟩,λp _=>rfl,λkl h=>by simp[Maps.has] at h⟩
theorem open0_any(w:World)(F:Nat->Prop)(dk:Nat)(hd:Dsk w F dk Dk.new)(hu:Up w F):Calls Tryz.prog 22 #[.pointer (some ⟨dk,0,none⟩)] w λe w'=>∃ a,w.heap.size<=a/\e=.returned (.tuple #[.pointer (some ⟨a,0,none⟩),.int .i64 0])/\Bd w' F a dk Dk.new ⟨[],false⟩/\Below w.heap.size w w':=by
 refine calls_cps ?_
 intro R hR
 have HD:=zh hd
 have HU:=zh hu
 have hr:=ready_any w F dk Dk.new hd
 obtain⟨_,_,A,c,h2,_,_⟩:=hd
 unfold dkC at h2
 simp only[Dk.new,List.length_nil] at h2 hr
 have hlt:=(Array.getElem?_eq_some_iff.1 h2).1
 have HR:=zh hr
 have hmm:=@run_makeMap Tryz.prog
 have H2:=zh h2
 have HW1:=zh (below_new w (.map #[] 0))
 obtain⟨W1,hW1⟩:∃ W1,w.alloc (.map #[] 0)=W1:=⟨_,rfl⟩
 have HB1:=zh (bal_new w)
 rw[hW1] at HW1 HB1
 have hs1:W1.heap.size=w.heap.size+1:=by rw[← hW1];simp
 obtain⟨W2,hW2⟩:∃ W2,W1.alloc (.cells #[.pointer (some ⟨dk,0,none⟩),.slice none 0 0,.map (some w.heap.size),.bool false] 164)=W2:=⟨_,rfl⟩
 have HW2:=zh (show Below w.heap.size w W2 from hW2 ▸ HW1.out.alloc (by omega) _)
 have hh2:=heap_alloc_new W1 (.cells #[.pointer (some ⟨dk,0,none⟩),.slice none 0 0,.map (some w.heap.size),.bool false] 164)
 rw[hW2,hs1] at hh2
 have HH:=zh hh2
 have HB2:=zh (HB1.out.keep (w:=W2) (by rw[← hW2];exact heap_alloc_old W1 _ HB1.out.lt))
 have HE1:=zh hW1
 have HE2:=zh hW2
 clear hu h2 hh2 hW1 hW2 hr
 go_enter Tryz.func22,Tryz.ntmps22
 go_wp2_with (go_at_call 55;(with_reducible refine HR.out.mono ?_);rintro e w' ⟨rfl,rfl⟩)
 rw[HE1.out,HE2.out]
 have hd2:=(HW2.out.block dk hlt).trans H2.out
 obtain⟨d0,d1,d2,d3,d4,-⟩:=hcell5 hd2
 have HD2:=zh hd2
 have Hlt2:=zh (Array.getElem?_eq_some_iff.1 hd2).1
 have HDec:=zh (λA' c'=>decode0_any W2 A' c')
 have HA:=zh (show A=none\/∃ g,A=some ⟨g,0,none⟩ from by
  obtain⟨_,_,A2,c2,k2,ho,_⟩:=HD.out
  unfold dkC at k2
  simp only[Dk.new,List.length_nil] at k2 ho
  rw[H2.out] at k2
  simp only[Option.some.injEq,Obj.cells.injEq,Array.mk.injEq,List.cons.injEq,Value.slice.injEq,and_true,true_and] at k2
  obtain⟨rfl,rfl⟩:=k2
  rcases ho.2 with⟨hv,_⟩|⟨g,_,_,hv,_⟩
  ·simp only[Value.slice.injEq] at hv
   exact .inl hv.1
  ·simp only[Value.slice.injEq] at hv
   exact .inr ⟨g,hv.1⟩)
 clear hd2 hmm hs1
 rcases HA.out with rfl|⟨g,rfl⟩
 all_goals
  refine wp_loop_rounds 1 ?_
  rw[rounds_succ]
  go_wp2_with (go_at_call 56;(with_reducible refine (HDec.out _ _).mono ?_);rintro e w3 ⟨rfl,hb3⟩;have HB3:=zh hb3;obtain⟨e0,e1,e2,e3,e4,-⟩:=hcell5 ((hb3.block dk Hlt2.out).trans HD2.out);clear hb3)
  have hb3:Below w.heap.size w w3:=HW2.out.trans (HB3.out.mono HW2.out.size)
  have hl:=(Array.getElem?_eq_some_iff.1 HH.out).1
  refine hR.out _ _ ⟨w.heap.size+1,by omega,rfl,⟨HD.out.below hb3,HU.out _ (by omega),none,0,w.heap.size,0,(HB3.out.block _ hl).trans HH.out,⟨[],World.ownsRow_nil _ _ _ _,λg hg=>by simp[Value.ownBlock] at hg,λi e he=>by simp at he⟩,HU.out _ (Nat.le_refl _),by simp,HB2.out.keep (HB3.out.block _ (by omega))⟩,hb3⟩
end
end
end Go.Proofs.YtjibohkeapdalaaGreatDoor
