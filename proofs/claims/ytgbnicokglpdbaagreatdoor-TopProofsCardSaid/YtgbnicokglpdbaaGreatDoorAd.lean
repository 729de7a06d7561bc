/-
balances; conditions: those of each theorem.
-/
import Derived.Test.YtgbnicokglpdbaaGreatDoorAb
import Derived.Test.YtgbnicokglpdbaaGreatDoorAc
import Derived.Shelf.SlSortCmp.NoneTotal
import Derived.Shelf.Small.Strs
namespace Go.Proofs.YtgbnicokglpdbaaGreatDoor
set_option maxHeartbeats 4000000
set_option maxRecDepth 8000
section
section
open Go.RowKit Go.Shelf Go.Maps Go.Lib Go.Sort
theorem qA(a b:ByteArray)(w:World):Calls Tryz.prog 324 #[.string a,.string b] w λe w'=>e=.returned (.int .i64 (Lib.compareBytes a.data.toList b.data.toList))/\w=w':=
 (Any.strings_Compare Ez a b w).mono λ_ _ h=>⟨h.1,h.2.symm⟩
theorem Jy(w:World)(A:Option Addr)(c:Nat)(x y:Int)(hX:ag ak 1 w A 2 [x,y]):Calls Tryz.prog 323 #[.slice A 2 c] w λe w'=>e=.returned (.int .i64 (if x=0 then y else x))/\w=w':=by
 refine ae ?_
 intro R hR
 have Hr:=zh (show ∀ v,v=(if x=0 then y else x)->R (.returned (.int .i64 v)) w from λv hv=>hR.out _ _ ⟨by rw[hv],rfl⟩)
 obtain⟨b,o,x',rfl,hb,hx,q0⟩:=hX.at1 (k:=0) (by omega)
 obtain⟨b',o',y',e',eF,hy,q1⟩:=hX.at1 (k:=1) (by omega)
 cases e'
 simp only[List.getElem?_cons_zero,List.getElem?_cons_succ,Option.some.injEq] at hx hy
 subst hx
 subst hy
 rw[Nat.add_zero] at q0
 clear hX hR
 go_enter Tryz.func323,Tryz.ntmps323
 go_wp2_with fail
 go_loopw [8] (λs8 wr=>∃ k:Nat,k<=2/\s8=.int .i64 (k:Int)/\wr=w/\Hid (1<=k->x=0)/\Hid (2<=k->y=0)) (λs8 _=>2-(intOf s8).toNat)
 case atStart=>exact⟨0,by omega,rfl,rfl,zh (by omega),zh (by omega)⟩
 obtain⟨k,hk,rfl,rfl,H1,H2⟩:=hrel
 obtain rfl|rfl|rfl:k=0\/k=1\/k=2:=by omega
 ·by_cases hz:x=0
  ·subst hz
   go_wp2_with fail
   refine⟨⟨1,by omega,by go_num,trivial,zh (by simp),zh (by omega)⟩,by simp[intOf]<;>omega⟩
  have z1:(x != 0)=true:=by rw[bne_iff_ne];exact hz
  have HF:=zh (Hr.out x (by rw[if_neg hz]))
  clear Hr hz
  go_wp2
  exact HF.out
 ·have eB:=H1.out (by omega)
  subst eB
  by_cases hz:y=0
  ·subst hz
   go_wp2_with fail
   refine⟨⟨2,by omega,by go_num,trivial,zh (by simp),zh (by simp)⟩,by simp[intOf]<;>omega⟩
  have z1:(y != 0)=true:=by rw[bne_iff_ne];exact hz
  have HF:=zh (Hr.out y (by rw[if_pos rfl]))
  clear Hr hz
  go_wp2
  exact HF.out
 have HF:=zh (Hr.out 0 (by rw[if_pos (H1.out (by omega)),H2.out (by omega)]))
 clear Hr
 go_wp2
 exact HF.out
abbrev fE:=ByteArray×ByteArray×Int
def dR(x:fE):List Value:=[.string x.1,.string x.2.1,.int .i64 x.2.2]
theorem iE(x:fE):(dR x).length=3:=rfl
def fv(x y:fE):Int:=if Lib.compareBytes x.1.data.toList y.1.data.toList=0 then Lib.compareBytes x.2.1.data.toList y.2.1.data.toList else Lib.compareBytes x.1.data.toList y.1.data.toList
theorem Cv(x y:fE)(W:World):Calls Tryz.prog 322 #[.agg #[.string x.1,.string x.2.1,.int .i64 x.2.2],.agg #[.string y.1,.string y.2.1,.int .i64 y.2.2]] W λe w'=>e=.returned (.int .i64 (fv x y))/\∃ q os',w'=grow (W.drewN q) os':=by
 refine ae ?_
 intro R hR
 obtain⟨a,i,n⟩:=x
 obtain⟨b,j,m⟩:=y
 have b8:=zh (λW=>qA a b W)
 have b9:=zh (λW=>qA i j W)
 unfold fv at hR
 dsimp only at hR ⊢
 obtain⟨p,hp⟩:∃ p,Lib.compareBytes a.data.toList b.data.toList=p:=⟨_,rfl⟩
 obtain⟨q,hq⟩:∃ q,Lib.compareBytes i.data.toList j.data.toList=q:=⟨_,rfl⟩
 rw[hp] at b8 hR
 rw[hq] at b9 hR
 clear hp hq
 go_enter Tryz.func322,Tryz.ntmps322
 go_upto_region 1 with fail
 have b0:=heap_alloc_new W (.cells #[.string a,.string i,.int .i64 n] 316)
 have b1:=heap_alloc_new (W.alloc (.cells #[.string a,.string i,.int .i64 n] 316)) (.cells #[.string b,.string j,.int .i64 m] 316)
 have b2:=(heap_alloc_old (W.alloc (.cells #[.string a,.string i,.int .i64 n] 316)) (.cells #[.string b,.string j,.int .i64 m] 316) (show W.heap.size<_ by simp)).trans b0
 obtain⟨W2,aa⟩:∃ W2,(W.alloc (.cells #[.string a,.string i,.int .i64 n] 316)).alloc (.cells #[.string b,.string j,.int .i64 m] 316)=W2:=⟨_,rfl⟩
 rw[World.size_alloc] at b1
 rw[aa] at b1 b2 ⊢
 have bj:=zh aa
 have u0:W2.cell? ⟨W.heap.size,0,none⟩=some (.string a):=by rw[cell_of_row _ _ 0 _ _ (0,0) b2];rfl
 have u1:W2.cell? ⟨W.heap.size,1,none⟩=some (.string i):=by rw[cell_of_row _ _ 1 _ _ (0,0) b2];rfl
 have u2:W2.cell? ⟨W.heap.size+1,0,none⟩=some (.string b):=by rw[cell_of_row _ _ 0 _ _ (0,0) b1];rfl
 have u3:W2.cell? ⟨W.heap.size+1,1,none⟩=some (.string j):=by rw[cell_of_row _ _ 1 _ _ (0,0) b1];rfl
 clear b0 b1 b2 aa
 refine wp_region_still_tail 10 (by kernel_rfl) (by kernel_rfl) ?_
 simp only[List.take_succ_cons,List.take_zero,List.drop_succ_cons,List.drop_zero]
 still_step
 still_step
 still_step
 still_step
 still_call ((b8.out _).mono λ_ _ h=>⟨h.1,h.2.symm⟩)
 still_step
 still_step
 still_step
 still_step
 still_call ((b9.out _).mono λ_ _ h=>⟨h.1,h.2.symm⟩)
 refine wpStill_nil ?_
 change wpList _ _ _ _ _ W2.drew
 clear u0 u1 u2 u3
 go_wp2_with fail
 have HO:=zh (Jy _ _ 2 p q ⟨rfl,(Sl.new W2 #[.int .i64 p,.int .i64 q] 3 1 2 rfl).drew⟩)
 obtain⟨r,hr⟩:∃ r,(if p=0 then q else p)=r:=⟨_,rfl⟩
 rw[hr] at HO hR
 clear hr
 refine HO.out.mono ?_
 rintro e w' ⟨rfl,rfl⟩
 go_wp2
 refine hR.out _ _ ⟨rfl,1,#[.cells #[.string a,.string i,.int .i64 n] 316,.cells #[.string b,.string j,.int .i64 m] 316,.cells #[.int .i64 p,.int .i64 q] 3],?_⟩
 rw[← bj.out,alloc_eq_grow,alloc_eq_grow,alloc_eq_grow,grow_grow,grow_grow]
 rfl
theorem In(blk off size:Nat)(w:World):CmpLays Tryz.prog 322 #[] dR 3 fv blk off size w:=λ_ _ _ _ x y=>Cv x y _
theorem E5:∀ w,(isAgg 316).run Tryz.prog w=.ok true w:=λ_=>by kernel_rfl
theorem IK:∀ w,(Go.sizeOf 316).run Tryz.prog w=.ok 3 w:=λ_=>by kernel_rfl
end
end
section
section
open Go.RowKit Go.Shelf Go.Maps Go.Lib Go.Sort
theorem wU:∀ (a b:List UInt8),Lib.compareBytes a b = -Lib.compareBytes b a
 |[],[]=>rfl
 |[],_ :: _=>rfl
 |_ :: _,[]=>rfl
 |a :: l,b :: r=>by
  unfold Lib.compareBytes
  have:=wU l r
  by_cases h1:a<b
  ·have h2:¬ b<a:=by rw[UInt8.lt_iff_toNat_lt] at *;omega
   simp[h1,h2]
  by_cases h2:b<a
  ·simp[h1,h2]
  simp[h1,h2,this]
theorem mV:∀ (a b:List UInt8),Lib.compareBytes a b=0->a=b
 |[],[],_=>rfl
 |[],_ :: _,h=>by simp[Lib.compareBytes] at h
 |_ :: _,[],h=>by simp[Lib.compareBytes] at h
 |a :: l,b :: r,h=>by
  unfold Lib.compareBytes at h
  by_cases h1:a<b
  ·simp[h1] at h
  by_cases h2:b<a
  ·simp[h1,h2] at h
  simp[h1,h2] at h
  have e:a=b:=by
   rw[UInt8.lt_iff_toNat_lt] at h1 h2
   exact UInt8.toNat_inj.1 (by omega)
  rw[e,mV l r h]
theorem qS:∀ (a b c:List UInt8),Lib.compareBytes a b<0->Lib.compareBytes b c<0->Lib.compareBytes a c<0
 |[],[],_,h,_=>by simp[Lib.compareBytes] at h
 |[],_ :: _,[],_,h=>by simp[Lib.compareBytes] at h
 |[],_ :: _,_ :: _,_,_=>by simp[Lib.compareBytes]
 |_ :: _,[],_,h,_=>by simp[Lib.compareBytes] at h
 |_ :: _,_ :: _,[],_,h=>by simp[Lib.compareBytes] at h
 |a :: l,b :: r,c :: s,h,h'=>by
  unfold Lib.compareBytes at h h' ⊢
  have ih:=qS l r s
  by_cases h1:a<b
  ·by_cases h2:b<c
   ·have h3:a<c:=by rw[UInt8.lt_iff_toNat_lt] at *;omega
    simp[h3]
   by_cases h4:c<b
   ·simp[h2,h4] at h'
   have h3:a<c:=by rw[UInt8.lt_iff_toNat_lt] at *;omega
   simp[h3]
  by_cases h5:b<a
  ·simp[h1,h5] at h
  simp[h1,h5] at h
  by_cases h2:b<c
  ·have h3:a<c:=by rw[UInt8.lt_iff_toNat_lt] at *;omega
   simp[h3]
  by_cases h4:c<b
  ·simp[h2,h4] at h'
  simp[h2,h4] at h'
  have h3:¬ a<c:=by rw[UInt8.lt_iff_toNat_lt] at *;omega
  have h6:¬ c<a:=by rw[UInt8.lt_iff_toNat_lt] at *;omega
  simp[h3,h6,ih h h']
theorem pk(x y:fE):fv x y = -fv y x:=by
 unfold fv
 have h1:=wU x.1.data.toList y.1.data.toList
 have h2:=wU x.2.1.data.toList y.2.1.data.toList
 by_cases h:Lib.compareBytes x.1.data.toList y.1.data.toList=0
 ·rw[if_pos h,if_pos (by omega)]
  exact h2
 rw[if_neg h,if_neg (by omega)]
 exact h1
theorem wW(x y z:fE)(h:fv x y<0)(h':fv y z<0):fv x z<0:=by
 unfold fv at h h' ⊢
 by_cases h1:Lib.compareBytes x.1.data.toList y.1.data.toList=0
 ·rw[if_pos h1] at h
  have e:=mV _ _ h1
  rw[e]
  by_cases h2:Lib.compareBytes y.1.data.toList z.1.data.toList=0
  ·rw[if_pos h2] at h' ⊢
   exact qS _ _ _ h h'
  rw[if_neg h2] at h' ⊢
  exact h'
 rw[if_neg h1] at h
 by_cases h2:Lib.compareBytes y.1.data.toList z.1.data.toList=0
 ·rw[← mV _ _ h2,if_neg h1]
  exact h
 rw[if_neg h2] at h'
 have h3:=qS _ _ _ h h'
 rw[if_neg (by omega)]
 exact h3
theorem zL(x y:fE)(h:fv x y=0):(x.1,x.2.1)=(y.1,y.2.1):=by
 unfold fv at h
 by_cases h1:Lib.compareBytes x.1.data.toList y.1.data.toList=0
 ·rw[if_pos h1] at h
  have e1:=mV _ _ h1
  have e2:=mV _ _ h
  rw[ByteArray.ext (Array.toList_inj.1 e1),ByteArray.ext (Array.toList_inj.1 e2)]
 rw[if_neg h1] at h
 exact absurd h h1
theorem wV(x y z:fE)(h:(x.1,x.2.1)=(y.1,y.2.1)):fv x z=fv y z:=by
 unfold fv
 injection h with h1 h2
 rw[h1,h2]
theorem Ky:SWO (ltOf fv) where
 irrefl x:=by
  have:=pk x x
  unfold ltOf
  simp
  omega
 trans x y z h1 h2:=by
  unfold ltOf at *
  simp at *
  exact wW x y z h1 h2
 ntrans x y z h1 h2:=by
  unfold ltOf at *
  simp at *
  have n1:=pk x y
  have n2:=pk y z
  have n3:=pk x z
  by_cases e1:fv x y=0
  ·rw[wV x y z (zL _ _ e1)]
   exact h2
  by_cases e2:fv y z=0
  ·have:=wV y z x (zL _ _ e2)
   omega
  have:=wW z y x (by omega) (by omega)
  omega
theorem F4{W:World}{B g c sz m:Nat}{e:TypeId}{xs:List Value}(h:W.ownsRow B e sz (.slice (some ⟨g,0,none⟩) m c) m xs):B<=g/\g<W.heap.size/\∃ cur,W.heap[g]?=some (.cells cur e (0,0))/\m<=c/\c<=maxLen:=by
 rcases h.2 with⟨h',_⟩|⟨g',c',cur,h',hb,hg,hn,hc,_⟩
 ·simp at h'
 simp only[Value.slice.injEq,Option.some.injEq,Addr.mk.injEq,and_true,true_and] at h'
 obtain⟨rfl,rfl⟩:=h'
 exact⟨hb,(Array.getElem?_eq_some_iff.1 hg).1,cur,hg,hn,hc⟩
instance:Inhabited fE:=⟨(ByteArray.empty,ByteArray.empty,0)⟩
theorem xH(L:List fE)(t:Nat)(h:t<L.length*3):(flatK dR 3 L.toArray)[t]?=(L.flatMap dR)[t]?:=by
 have hd:t/3<L.length:=by omega
 have e:=q8 (enc:=dR) (sz:=3) iE L (t/3) (t%3) L[t/3] (List.getElem?_eq_getElem hd) (Nat.mod_lt _ (by omega))
 have e2:t/3*3+t%3=t:=by omega
 rw[e2] at e
 rw[e]
 have h1:=get_flatK dR 3 L.toArray t (by simpa using h)
 have hs:t<(flatK dR 3 L.toArray).size:=by simpa using h
 rw[getElem!_pos _ t hs] at h1
 rw[Array.getElem?_eq_getElem hs,h1]
 have hL:L.toArray[t/3]! = L[t/3]:=by simp[hd]
 rw[hL,getElem!_pos _ (t%3) (by rw[iE];exact Nat.mod_lt _ (by omega)),List.getElem?_eq_getElem (by rw[iE];exact Nat.mod_lt _ (by omega))]
theorem C3(A:Option Addr)(n c base:Nat)(L:List fE)(W:World)(ho:W.ownsRow base 316 3 (.slice A n c) n (L.flatMap dR))(hn:n=L.length)(hs:n<=1000000) :
 Calls Tryz.prog 321 #[.slice A n c,.func (.func 322) #[] #[]] W λe W'=>e=.returned (.tuple #[])/\∃ L':List fE,L'.Perm L/\L'.Pairwise (λx y=>fv x y<=0)/\ag dR 3 W' A n L'/\Kx (λj=>base<=j) W W':=by
 subst hn
 rcases A with _|⟨g,o,sub⟩
 ·have h0:L=[]:=by
   rcases ho.2 with⟨h',h2⟩|⟨g',c',cur,h',_⟩
   ·simp only[Value.slice.injEq,true_and] at h'
    exact List.length_eq_zero_iff.1 h'.1
   simp at h'
  subst h0
  refine (AnyF.slices_SortFunc_none vJ none c (.func (.func 322) #[] #[]) W).mono ?_
  rintro e W' ⟨rfl,rfl⟩
  exact⟨rfl,[],List.Perm.refl _,List.Pairwise.nil,ag.nil _ _,Kx.refl _ _⟩
 have hg:o=0/\sub=none:=by
  rcases ho.2 with⟨h',h2⟩|⟨g',c',cur,h',_⟩
  ·simp at h'
  simp only[Value.slice.injEq,Option.some.injEq,Addr.mk.injEq] at h'
  exact⟨h'.1.2.1,h'.1.2.2⟩
 obtain⟨rfl,rfl⟩:=hg
 obtain⟨hb,cq,cur,_,e6,eI⟩:=F4 ho
 have hH:HoldsK dR 3 W g 0 L.toArray:=λj hj=>by
  have bt:j<L.length*3:=by simpa using hj
  rw[Nat.zero_add]
  refine⟨?_,ho.frozenAt j⟩
  rw[ho.cellAt j bt,← xH L j bt,Array.getElem?_eq_getElem hj,getElem!_pos _ j hj]
  rfl
 have am:L.toArray.size=L.length:=by simp
 have hc:=AnyQ.slices_SortFunc vJ 3 E5 IK dR iE (λx v hv=>by
  simp only[dR,List.mem_cons,List.not_mem_nil,or_false] at hv
  rcases hv with rfl|rfl|rfl<;>rfl) fv Ky 322 #[] g 0 c L.toArray W (enters_of Tryz.func322 (by kernel_rfl) rfl) (In g 0 _ W) hH cq (by rw[am];omega)
 rw[am] at hc
 refine hc.mono ?_
 rintro e W' ⟨rfl,d',q,os,⟨p1,p2,p3⟩,ev,rfl⟩
 rw[am] at p1
 have ec:HoldsK dR 3 (sortWorldK dR 3 W g 0 q d' os) g 0 d':=by
  refine holdsK_grow dR 3 _ os g 0 d' (by rw[size_putRowK];exact cq) (holdsK_putRowK dR 3 _ g 0 L.toArray d' (holdsK_ahead dR 3 W q g 0 _ hH) (by rw[am];exact p1))
 have en:W.heap.size<=(sortWorldK dR 3 W g 0 q d' os).heap.size:=by
  simp only[sortWorldK,grow,Array.size_append,size_putRowK]
  show W.heap.size<=W.heap.size+_
  omega
 refine⟨rfl,d'.toList,?_,?_,⟨by simpa using p1.symm,by rw[bU iE,Array.length_toList,p1],λhn=>⟨g,0,rfl,by omega,λj u hu=>?_⟩⟩,⟨rfl,rfl,rfl,en,λj hj hn=>?_⟩⟩
 ·rw[← p1,Array.extract_size,p1,← am,Array.extract_size] at p3
  exact p3
 ·rw[List.pairwise_iff_getElem]
  intro i j hi hj es
  have eo:i<d'.size:=by simpa using hi
  have bt:j<d'.size:=by simpa using hj
  have h:=ev i j (Nat.zero_le _) es (by omega)
  rw[getElem!_pos _ i eo,getElem!_pos _ j bt] at h
  unfold ltOf at h
  simp at h
  have:=pk d'[i] d'[j]
  simp only[Array.getElem_toList]
  omega
 ·have hj:j<d'.toList.length*3:=by
   have:=(List.getElem?_eq_some_iff.1 hu).1
   rwa [bU iE] at this
  have e:=xH d'.toList j hj
  rw[hu] at e
  obtain⟨cr,he⟩:=Array.getElem?_eq_some_iff.1 e
  have h:=(ec j cr).1
  rw[getElem!_pos _ j cr] at h
  rw[h]
  exact congrArg some he
 have eu:g≠j:=λe=>hn (e ▸ hb)
 simp only[sortWorldK,grow]
 rw[Array.getElem?_append_left (by rw[size_putRowK];exact hj)]
 simp[putRowK,putRow,mapBlock,Array.getElem?_modify,eu,Sort.ahead]
end
end
section
section
open Go.RowKit Go.Shelf Go.Maps
structure gx(f:Pl->Int)(L:List fE):Prop where
 all:∀ x∈L,gm (x.1,x.2.1)/\x.2.2=f (x.1,x.2.1)/\x.2.2≠0
 every:∀ p,gm p->f p≠0->(p.1,p.2,f p)∈L
 once:(L.map λx=>(x.1,x.2.1)).Nodup
structure jc(f:Pl->Int)(D:DataW Unit)(left:Lit->Bool)(L:List fE):Prop where
 all:∀ x∈L,gm (x.1,x.2.1)/\x.2.2=f (x.1,x.2.1)/\x.2.2≠0/\left (dQ (x.1,x.2.1))=false
 every:∀ p,gm p->f p≠0->left (dQ p)=false->(p.1,p.2,f p)∈L
 once:(L.map λx=>(x.1,x.2.1)).Nodup
 has:∀ kl,left kl=true->Maps.has D kl=true
theorem IM(p:Pl):(dQ p).sameKey (dQ p)=true:=by
 unfold dQ
 simp[Lit.sameKey]
theorem Kb{p q:Pl}(h:dQ p≠dQ q):(dQ p).sameKey (dQ q)=false:=by
 unfold dQ at *
 simp only[Lit.sameKey,beq_eq_false_iff_ne]
 intro e
 exact h (by rw[e])
theorem jc.start{f:Pl->Int}{D:DataW Unit}(h:∀ p,gm p->Maps.has D (dQ p)=decide (f p≠0)):jc f D (Maps.has D) []:=
 ⟨λx hx=>(by cases hx),λp hp hf hl=>by rw[h p hp] at hl;simp at hl;exact absurd hl hf,List.nodup_nil,λ_ h=>h⟩
theorem jc.step{f:Pl->Int}{D:DataW Unit}{left:Lit->Bool}{L:List fE}(h:jc f D left L){p:Pl}(hp:gm p)(hf:f p≠0)(hl:left (dQ p)=true):jc f D (λz=>left z && !z.sameKey (dQ p)) (L++[(p.1,p.2,f p)]):=by
 refine⟨λx hx=>?_,λq hq ej cC=>?_,?_,λkl hk=>h.has kl ?_⟩
 ·rcases List.mem_append.1 hx with hx|hx
  ·obtain⟨a,b,c,d⟩:=h.all x hx
   exact⟨a,b,c,by rw[d];rfl⟩
  rw[List.mem_singleton] at hx
  subst hx
  exact⟨hp,rfl,hf,by rw[IM];simp⟩
 ·by_cases e:q=p
  ·subst e
   exact List.mem_append.2 (.inr (List.mem_singleton.2 rfl))
  refine List.mem_append.2 (.inl (h.every q hq ej ?_))
  rw[Kb (λe2=>e (lI hq hp e2))] at cC
  simpa using cC
 ·rw[List.map_append,List.nodup_append]
  refine⟨h.once,by simp,λa ha b hb=>?_⟩
  rw[List.map_singleton,List.mem_singleton] at hb
  obtain⟨x,hx,rfl⟩:=List.mem_map.1 ha
  intro e
  obtain⟨_,_,_,d⟩:=h.all x hx
  rw[e,hb] at d
  rw[hl] at d
  cases d
 rw[Bool.and_eq_true] at hk
 exact hk.1
theorem jc.fin{f:Pl->Int}{D:DataW Unit}{left:Lit->Bool}{L:List fE}(h:jc f D left L)(hl:∀ kl,left kl=false):gx f L:=
 ⟨λx hx=>let ⟨a,b,c,_⟩:=h.all x hx;⟨a,b,c⟩,λp hp hf=>h.every p hp hf (hl _),h.once⟩
theorem gx.perm{f:Pl->Int}{L L':List fE}(h:gx f L)(hp:L'.Perm L):gx f L':=
 ⟨λx hx=>h.all x (hp.mem_iff.1 hx),λp h1 h2=>hp.mem_iff.2 (h.every p h1 h2),((hp.map _).nodup_iff).2 h.once⟩
theorem Ii:(Tryz.prog.info? 316).map (λi=>(i.zero,i.size,i.bytes))=some (some (.agg #[.string ByteArray.empty,.string ByteArray.empty,.int .i64 0]),3,40):=by kernel_rfl
theorem GX:au Tryz.prog 312 316 3 40:=au.of (z:=.agg #[.string ByteArray.empty,.string ByteArray.empty,.int .i64 0]) Tryz.underlying312 Ii rfl (by omega)
theorem Io(L:List fE):∀ u∈L.flatMap dR,u.oneCell'=true:=by
 intro u hu
 obtain⟨x,_,hx⟩:=List.mem_flatMap.1 hu
 simp only[dR,List.mem_cons,List.not_mem_nil,or_false] at hx
 rcases hx with rfl|rfl|rfl<;>rfl
theorem Im{v:Value}{p:Pl}(hp:gm p)(h:keyOf Tryz.prog 193 v=some (dQ p)):v=mO p:=sR.inj h (kz hp)
theorem Fy{W:World}{B e sz n:Nat}{v:Value}{xs:List Value}(h:W.ownsRow B e sz v n xs):W.drew.ownsRow B e sz v n xs:=h
theorem yt{p:Prop}(h:Hid p):p:=h.out
theorem yZ{W:World}{B e sz n g:Nat}{v:Value}{xs:List Value}(h:W.ownsRow B e sz v n xs)(hg:g<B):v.ownBlock=none\/v.ownBlock≠some g:=by
 cases hv:v.ownBlock with
 |none=>exact .inl rfl
 |some j=>exact .inr (λe=>by injection e with e;have:=lV h hv;omega)
theorem Fg(w:World)(b n:Nat)(f:Pl->Int)(h:dE w b n f)(hn:n<=1000000) :
 Calls Tryz.prog 272 #[.map (some b)] w λe w'=>∃ (A:Option Addr) (c:Nat) (L:List fE),e=.returned (.slice A L.length c)/\gx f L/\L.Pairwise (λx y=>fv x y<=0)/\L.length<=n/\ag dR 3 w' A L.length L/\(∀ a,A=some a->w.heap.size<=a.block)/\Below w.heap.size w w':=by
 refine ae ?_
 intro R hR
 obtain⟨D,hD,hZ,hY⟩:=h
 have e7:=hD.1.size_le
 have aF:=hD.lt
 have d5:=zh hD.1
 have bv:=zh hD.2
 have HZ:=zh hZ
 have HY:=zh hY
 clear hD hZ hY
 go_enter Tryz.func272,Tryz.ntmps272
 go_wp2_with (at_range;refine wpList_range_own _ rfl _ 106 rfl 193 3 ow rq _ b n D rfl d5.out ?_;intro w0 cS cp cV)
 go_frame
 have d6:=zh cS
 have bk:=zh cp
 have d7:=zh cV
 clear cS cp cV
 go_loopw [3] (λs3 wr=>∃ (left:Lit->Bool) (cnt m:Nat) (A':Option Addr) (c':Nat),s3=.slice A' m c'/\m+cnt<=n/\Hid (wr.ranges Tryz.prog 193 (plainElem Tryz.prog 3) b w.heap.size n D left cnt)/\Hid (Below w.heap.size w wr)/\Hid (w.heap.size+1<=wr.heap.size)/\
  Hid (∃ L:List fE,m=L.length/\jc f D left L/\wr.ownsRow (w.heap.size+1) 316 3 (.slice A' m c') m (L.flatMap dR)))
  (λ_ wr=>wr.rangeLeft b w.heap.size)
 case atStart =>
  exact⟨_,_,0,none,0,rfl,by omega,d6,zh ⟨bk.out.os,bk.out.tape,bk.out.output,bk.out.size,λj hj=>bk.out.block j hj (by simp)⟩,zh (by rw[d7.out];exact Nat.le_refl _),zh ⟨[],rfl,jc.start HZ.out,World.ownsRow_nil _ _ _ _⟩⟩
 obtain⟨left,cnt,m,A',c',rfl,e5,cd,Hb,bw,HL⟩:=hrel
 go_wp2_with (at_next;refine wpList_next_ranges _ rfl _ rfl 193 ow (plainElem Tryz.prog 3) id id (λkey kl _=>⟨key,rfl⟩) (λv y _=>⟨v,rfl⟩) b w.heap.size n _ _ _ rfl cd.out ?_ ?_)
 ·intro _ cA
  have dx:=zh cA
  obtain⟨L,hm,bc,ho⟩:=HL.out
  have c9:=zh (bc.fin dx.out)
  have HS:=zh (C3 A' m c' (w.heap.size+1) L wr ho hm (by omega))
  have Hm:=zh hm
  have dd:=zh (show ∀ a,A'=some a->w.heap.size<=a.block from λa ha=>by
   subst ha
   have:=lV ho (g:=a.block) rfl
   omega)
  clear cA bc ho hm
  go_wp2_with fail
  refine HS.out.mono ?_
  rintro e w2 ⟨rfl,L',hp,hs,hx,hk⟩
  have Hp:=zh hp
  have Hs:=zh hs
  have Hx:=zh hx
  have Hk:=zh hk
  clear hp hs hx hk
  go_wp2
  have hl:m=L'.length:=by rw[Hm.out];exact Hp.out.length_eq.symm
  refine hR.out _ _ ⟨A',c',L',by rw[hl];rfl,c9.out.perm Hp.out,Hs.out,by omega,by rw[← hl];exact Hx.out,dd.out,Hk.out.low Hb.out (λj hj=>by omega) (by have:=bw.out;omega)⟩
 intro x c kl y ys w1 cnt1 cx bu cj cl hrg1 cI a0 bm ei
 obtain⟨L,hm,bc,ho⟩:=HL.out
 obtain⟨p,hp,rfl⟩:=HY.out kl (bc.has kl bu)
 have hx:x=mO p:=Im hp cx
 subst hx
 obtain⟨q,hc,hy,_⟩:=plainElem_int_inv Tryz.underlying3 cj
 have hq:q=f p:=by
  have h1:=bv.out p hp
  injection hy with hy _
  rw[cl,hy] at h1
  unfold jL at h1
  simpa using h1
 have hf:f p≠0:=by
  have h1:=HZ.out p hp
  rw[bc.has _ bu] at h1
  simpa using h1.symm
 have eg:c=.int .i64 (f p):=by rw[← hq];exact hc
 subst eg
 have dt:=zh (bc.step hp hf bu)
 have HO:=zh (ho.kept a0 (yZ ho (by omega)))
 have ds:=zh hrg1
 have cn:Below w.heap.size w w1:=⟨a0.os.trans Hb.out.os,a0.tape.trans Hb.out.tape,a0.output.trans Hb.out.output,by have:=a0.size;have:=Hb.out.size;omega,λj hj=>(a0.block j (Nat.lt_of_lt_of_le hj Hb.out.size) (λe=>by injection e with e;omega)).trans (Hb.out.block j hj)⟩
 have ad:=zh cn
 have ci:=zh bm
 have cc:=zh cI
 have Hm:=zh hm
 clear bc ho cx bu cj cl hrg1 cI a0 bm hc hy hq hf cn hm
 obtain⟨a,i⟩:=p
 simp only[mO] at ei ⊢
 have hbx:=ap (heap_alloc_new w1 (.cells #[.string a,.string i] 193))
 obtain⟨c0,c1,-⟩:=hbx
 go_upto_region 5 with fail
 go_wp2_with (at_builtin;refine yt ?_)
 refine zh ?_
 refine ax rfl (.tmp 13) (.tmp 20) _ rfl GX (w.heap.size+1) _ _ _ rfl ((HO.out.alloc _).alloc _) _ _ _ _ rfl (Sl.newAt _ _ _ 3 1 rfl (by simp)) (Io [(a,i,f (a,i))]) (by unfold maxLen;omega) (by omega) (by simp;have:=ad.out.size;have:=ci.out;have:=bw.out;omega) ?_
 intro A2 c2 w2 cN a9 _
 have dq:=zh cN
 have c8:=zh a9
 clear cN a9
 go_wp2_with fail
 obtain⟨ob,cO⟩:∃ ob,(Value.slice A' m c').ownBlock=ob:=⟨_,rfl⟩
 have bD:∀ g,ob=some g->w.heap.size+1<=g:=λg hg=>lV HO.out (cO.trans hg)
 have a9:=c8.out
 change World.grownBy _ _ (Value.slice A' m c').ownBlock at a9
 rw[cO] at a9
 have cT:=((ds.out.alloc (.cells #[.string a,.string i] 193)).alloc (.cells #[.string a,.string i,.int .i64 (f (a,i))] 316)).kept a9 (λe=>by have:=bD _ e.symm;omega) (λe=>by have:=bD _ e.symm;omega)
 have ct:Kx (λj=>w.heap.size+1<=j) w1 w2:=(((Kx.refl _ w1).below (ab w1 _)).below (ab _ _)).grown a9 (λj hj=>.inl (bD j hj))
 refine⟨⟨_,cnt1,m+1,A2,c2,rfl,by have:=cc.out;omega,zh cT,zh (ct.low ad.out (λj hj=>by omega) ad.out.size),zh (by have:=ct.size;have:=ci.out;have:=bw.out;omega),zh ⟨_,by rw[List.length_append,List.length_singleton,Hm.out],dt.out,?_⟩⟩,?_⟩
 ·rw[List.flatMap_append]
  have h2:=dq.out
  simpa[dR] using h2
 rw[cT.left_eq,cd.out.left_eq]
 exact cc.out
theorem Cq(w:World)(F:Nat->Prop)(a dk:Nat)(b:Bk)(h:gj w F a dk b)(hn:b.E.length<=10000) :
 Calls Tryz.prog 211 #[.pointer (some ⟨a,0,none⟩)] w λe w'=>∃ (A:Option Addr) (c:Nat) (L:List fE),e=.returned (.slice A L.length c)/\gx (bM b.E) L/\L.Pairwise (λx y=>fv x y<=0)/\L.length<=1000000/\ag dR 3 w' A L.length L/\(∀ a,A=some a->w.heap.size<=a.block)/\Below w.heap.size w w':=by
 refine ae ?_
 intro R hR
 obtain⟨A,c,mb,n,c0,c1,c2,c3,-,-,HN,HB,-,-⟩:=h.cells
 have HL:=zh (Fg w mb n (bM b.E) HB.out (by have:=HN.out;omega))
 have Hn:=zh (show n<=1000000 by have:=HN.out;omega)
 clear h
 go_enter Tryz.func211,Tryz.ntmps211
 go_wp2_with fail
 refine HL.out.mono ?_
 rintro e w' ⟨A',c',L,rfl,h1,h2,h3,h4,h6,h5⟩
 have H6:=zh h6
 have H1:=zh h1
 have H2:=zh h2
 have H3:=zh h3
 have H4:=zh h4
 have H5:=zh h5
 clear h1 h2 h3 h4 h5 h6
 go_wp2
 exact hR.out _ _ ⟨A',c',L,rfl,H1.out,H2.out,by have:=H3.out;have:=Hn.out;omega,H4.out,H6.out,H5.out⟩
end
end
section
section
open Go.RowKit Go.Shelf Go.Maps
theorem Ig:(Tryz.prog.info? 5).map (λi=>(i.zero,i.size,i.bytes))=some (some (.int .u8 0),1,1):=by kernel_rfl
theorem uj(m:Nat)(hm:m<=1000)(w:World):(Instr.makeSlice 101 (.int .i64 (m:Int)) (.int .i64 (m:Int))).run Tryz.prog w=.ok (.slice (some ⟨w.heap.size,0,none⟩) m m) (w.alloc (.cells (madeCells #[.int .u8 0] m) 5)):=
 run_make_row' 101 5 (.int .u8 0) 1 Tryz.underlying101 Ig rfl .i64 .i64 m (by omega) (by omega) w
abbrev eD(n:Nat):Obj:=.cells (madeCells #[.int .u8 0] n) 5
theorem vR(w:World)(b n:Nat)(hb:w.heap[b]?=some (eD n))(j:Nat)(hj:j<n):w.cell? ⟨b,j,none⟩=some (.int .u8 0):=by
 rw[cell_of_row _ _ j _ _ (0,0) hb]
 simp[madeCells,hj,Nat.mod_one]
theorem pT{w w':World}{b k:Nat}{v:Value}(h:Below b w w')(hk:b<=k):Below b w (w'.setCell ⟨k,1,none⟩ v):=
 ⟨h.os,h.tape,h.output,by have:=h.size;simpa[World.setCell] using this,λj hj=>(al (by omega)).trans (h.block j hj)⟩
theorem DV(w:World)(k:Nat)(A:Option Addr)(c:Nat)(o:Bool)(h:w.heap[k]?=some (.cells #[.slice A 0 c,.bool o] 183 (0,0))) :
 Calls Tryz.prog 70 #[.pointer (some ⟨k,0,none⟩),.int .i64 2] w λe w'=>e=.returned (.slice (some ⟨w.heap.size,0,none⟩) 2 2)/\w'=(w.setCell ⟨k,1,none⟩ (.bool true)).alloc (eD 2):=by
 refine ae ?_
 intro R hR
 obtain⟨c0,c1,f0⟩:=ap h
 have f1:=f0 1
 have cL:∀ w:World,(Instr.makeSlice 101 (.int .i64 2) (.int .i64 2)).run Tryz.prog w=.ok (.slice (some ⟨w.heap.size,0,none⟩) 2 2) (w.alloc (eD 2)):=uj 2 (by omega)
 clear h f0
 cases o
 all_goals
  go_enter Tryz.func70,Tryz.ntmps70
  go_wp2
  exact hR.out _ _ ⟨by simp,rfl⟩
theorem DW(w:World)(k:Nat)(A:Option Addr)(c:Nat)(o:Bool)(h:w.heap[k]?=some (.cells #[.slice A 0 c,.bool o] 183 (0,0))) :
 Calls Tryz.prog 70 #[.pointer (some ⟨k,0,none⟩),.int .i64 4] w λe w'=>e=.returned (.slice (some ⟨w.heap.size,0,none⟩) 4 4)/\w'=(w.setCell ⟨k,1,none⟩ (.bool true)).alloc (eD 4):=by
 refine ae ?_
 intro R hR
 obtain⟨c0,c1,f0⟩:=ap h
 have f1:=f0 1
 have cL:∀ w:World,(Instr.makeSlice 101 (.int .i64 4) (.int .i64 4)).run Tryz.prog w=.ok (.slice (some ⟨w.heap.size,0,none⟩) 4 4) (w.alloc (eD 4)):=uj 4 (by omega)
 clear h f0
 cases o
 all_goals
  go_enter Tryz.func70,Tryz.ntmps70
  go_wp2
  exact hR.out _ _ ⟨by simp,rfl⟩
theorem DU(w:World)(k:Nat)(A:Option Addr)(c:Nat)(o:Bool)(h:w.heap[k]?=some (.cells #[.slice A 0 c,.bool o] 183 (0,0)))(ho:o=true) :
 Calls Tryz.prog 70 #[.pointer (some ⟨k,0,none⟩),.int .i64 0] w λe w'=>e=.returned (.slice (some ⟨w.heap.size,0,none⟩) 0 0)/\w'=(w.setCell ⟨k,1,none⟩ (.bool true)).alloc (eD 0):=by
 refine ae ?_
 intro R hR
 obtain⟨c0,c1,f0⟩:=ap h
 have f1:=f0 1
 have cL:∀ w:World,(Instr.makeSlice 101 (.int .i64 0) (.int .i64 0)).run Tryz.prog w=.ok (.slice (some ⟨w.heap.size,0,none⟩) 0 0) (w.alloc (eD 0)):=uj 0 (by omega)
 clear h f0
 subst ho
 go_enter Tryz.func70,Tryz.ntmps70
 go_wp2
 exact hR.out _ _ ⟨by simp[],rfl⟩
theorem yX(w:World)(k:Nat)(A:Option Addr)(c:Nat)(o:Bool)(h:w.heap[k]?=some (.cells #[.slice A 0 c,.bool o] 183 (0,0))) :
 Calls Tryz.prog 69 #[.pointer (some ⟨k,0,none⟩),.int .i64 2] w λe w'=>e=.returned (.int .i64 0)/\w'=(w.setCell ⟨k,1,none⟩ (.bool true)).alloc (eD 2):=by
 refine ae ?_
 intro R hR
 have HT:=zh (DV w k A c o h)
 have Hr:=zh (hR.out (.returned (.int .i64 0)) ((w.setCell ⟨k,1,none⟩ (.bool true)).alloc (eD 2)) ⟨rfl,rfl⟩)
 have Hz:=zh (heap_alloc_new (w.setCell ⟨k,1,none⟩ (.bool true)) (eD 2))
 have am:(w.setCell ⟨k,1,none⟩ (.bool true)).heap.size=w.heap.size:=by simp[World.setCell]
 rw[am] at Hz
 obtain⟨W2,aa⟩:∃ W2,(w.setCell ⟨k,1,none⟩ (.bool true)).alloc (eD 2)=W2:=⟨_,rfl⟩
 rw[aa] at Hr Hz HT
 obtain⟨g,hg⟩:∃ g,w.heap.size=g:=⟨_,rfl⟩
 rw[hg] at Hz HT
 clear hR h am aa hg
 go_enter Tryz.func69,Tryz.ntmps69
 go_wp2_with (go_at_call 70;(with_reducible refine HT.out.mono ?_);rintro e w' ⟨rfl,rfl⟩)
 go_loopw [5,12] (λs5 s12 wr=>∃ j:Nat,j<=2/\s5=.int .i64 0/\s12=.int .i64 (j:Int)/\Hid (wr=w')) (λ_ s12 _=>2-(intOf s12).toNat)
 case atStart=>exact⟨0,by omega,rfl,rfl,zh rfl⟩
 obtain⟨j,hj,rfl,rfl,Hw⟩:=hrel
 by_cases aF:j<2
 ·have q0:=vR wr g 2 (by have h:=Hw.out;rw[h];exact Hz.out) j aF
  have i1:(j:Int)<2:=by omega
  go_wp2_with fail
  exact⟨⟨j+1,aF,by go_num,by go_num,Hw⟩,by simp[intOf]<;>omega⟩
 have bI:j=2:=by omega
 subst bI
 have hr:=Hr.out
 rw[← Hw.out] at hr
 have HF:=zh hr
 clear Hr hr
 go_wp2
 exact HF.out
theorem yY(w:World)(k:Nat)(A:Option Addr)(c:Nat)(o:Bool)(h:w.heap[k]?=some (.cells #[.slice A 0 c,.bool o] 183 (0,0))) :
 Calls Tryz.prog 69 #[.pointer (some ⟨k,0,none⟩),.int .i64 4] w λe w'=>e=.returned (.int .i64 0)/\w'=(w.setCell ⟨k,1,none⟩ (.bool true)).alloc (eD 4):=by
 refine ae ?_
 intro R hR
 have HT:=zh (DW w k A c o h)
 have Hr:=zh (hR.out (.returned (.int .i64 0)) ((w.setCell ⟨k,1,none⟩ (.bool true)).alloc (eD 4)) ⟨rfl,rfl⟩)
 have Hz:=zh (heap_alloc_new (w.setCell ⟨k,1,none⟩ (.bool true)) (eD 4))
 have am:(w.setCell ⟨k,1,none⟩ (.bool true)).heap.size=w.heap.size:=by simp[World.setCell]
 rw[am] at Hz
 obtain⟨W2,aa⟩:∃ W2,(w.setCell ⟨k,1,none⟩ (.bool true)).alloc (eD 4)=W2:=⟨_,rfl⟩
 rw[aa] at Hr Hz HT
 obtain⟨g,hg⟩:∃ g,w.heap.size=g:=⟨_,rfl⟩
 rw[hg] at Hz HT
 clear hR h am aa hg
 go_enter Tryz.func69,Tryz.ntmps69
 go_wp2_with (go_at_call 70;(with_reducible refine HT.out.mono ?_);rintro e w' ⟨rfl,rfl⟩)
 go_loopw [5,12] (λs5 s12 wr=>∃ j:Nat,j<=4/\s5=.int .i64 0/\s12=.int .i64 (j:Int)/\Hid (wr=w')) (λ_ s12 _=>4-(intOf s12).toNat)
 case atStart=>exact⟨0,by omega,rfl,rfl,zh rfl⟩
 obtain⟨j,hj,rfl,rfl,Hw⟩:=hrel
 by_cases aF:j<4
 ·have q0:=vR wr g 4 (by have h:=Hw.out;rw[h];exact Hz.out) j aF
  have i1:(j:Int)<4:=by omega
  go_wp2_with fail
  exact⟨⟨j+1,aF,by go_num,by go_num,Hw⟩,by simp[intOf]<;>omega⟩
 have bI:j=4:=by omega
 subst bI
 have hr:=Hr.out
 rw[← Hw.out] at hr
 have HF:=zh hr
 clear Hr hr
 go_wp2
 exact HF.out
theorem qT{w:World}{k n:Nat}{A:Option Addr}{c:Nat}{o:Bool}(h:w.heap[k]?=some (.cells #[.slice A 0 c,.bool o] 183 (0,0))) :
 ((w.setCell ⟨k,1,none⟩ (.bool true)).alloc (eD n)).heap[k]?=some (.cells #[.slice A 0 c,.bool true] 183 (0,0)):=by
 have hs:=aA (i:=1) (v:=.bool true) h
 rw[heap_alloc_old _ _ (Array.getElem?_eq_some_iff.1 hs).1,hs]
 rfl
theorem yK(w:World)(A:Option Addr)(c:Nat):Calls Tryz.prog 31 #[.slice A 0 c] w λe w'=>e=.returned (.tuple #[.slice none 0 0,.int .i64 0])/\Below w.heap.size w w':=by
 refine ae ?_
 intro R hR
 have h0:=heap_alloc_new w (.cells #[.slice A 0 c,.bool false] 183)
 have b0:=ab w (.cells #[.slice A 0 c,.bool false] 183)
 obtain⟨k,hk⟩:∃ k,w.heap.size=k:=⟨_,rfl⟩
 have HK:=zh hk
 rw[hk] at h0 b0
 have H0:=zh h0
 have b7:=zh b0
 clear h0 b0 hk
 go_enter Tryz.func31,Tryz.ntmps31
 go_wp2_with fail
 rw[HK.out]
 refine (yX _ k A c false H0.out).mono ?_
 rintro e w1 ⟨rfl,bS⟩
 have H1:=zh (show w1.heap[k]?=_ from bS ▸ qT (n:=2) H0.out)
 have ad:=zh (show Below k w w1 from bS ▸ (pT b7.out (Nat.le_refl k)).alloc (by simp[World.setCell];have:=HK.out;omega) (eD 2))
 clear bS H0 b7
 go_wp2_with fail
 refine (yY _ k A c true H1.out).mono ?_
 rintro e w2 ⟨rfl,b5⟩
 have H2:=zh (show w2.heap[k]?=_ from b5 ▸ qT (n:=4) H1.out)
 have bg:=zh (show Below k w w2 from b5 ▸ (pT ad.out (Nat.le_refl k)).alloc (by have:=ad.out.size;have:=HK.out;simp[World.setCell];omega) (eD 4))
 clear b5 H1 ad
 go_wp2_with fail
 refine (DU _ k A c true H2.out rfl).mono ?_
 rintro e w3 ⟨rfl,b6⟩
 have H3:=zh (show w3.heap[k]?=_ from b6 ▸ qT (n:=0) H2.out)
 have bi:=zh (show Below k w w3 from b6 ▸ (pT bg.out (Nat.le_refl k)).alloc (by have:=bg.out.size;have:=HK.out;simp[World.setCell];omega) (eD 0))
 clear b6 H2 bg
 obtain⟨c0,c1,-⟩:=ap H3.out
 go_wp2
 exact hR.out _ _ ⟨rfl,by rw[HK.out];exact bi.out⟩
theorem GI(w:World):dE (w.alloc (.map #[] 0)) w.heap.size 0 (bM []):=
 ⟨.map [],⟨World.ownsMap_made w _ _ _,λp _=>rfl⟩,λp _=>rfl,λkl h=>by simp[Maps.has] at h⟩
theorem vo(w:World)(F:Nat->Prop)(dk:Nat)(hd:cJ w F dk Dk.new)(hu:Up w F):Calls Tryz.prog 13 #[.pointer (some ⟨dk,0,none⟩)] w λe w'=>∃ a,w.heap.size<=a/\e=.returned (.tuple #[.pointer (some ⟨a,0,none⟩),.int .i64 0])/\Bd w' F a dk Dk.new ⟨[],false⟩/\Below w.heap.size w w':=by
 refine ae ?_
 intro R hR
 have HD:=zh hd
 have HU:=zh hu
 have hr:=pO w F dk Dk.new hd
 obtain⟨_,_,A,c,h2,_,_⟩:=hd
 unfold uR at h2
 simp only[Dk.new,List.length_nil] at h2 hr
 have aF:=(Array.getElem?_eq_some_iff.1 h2).1
 have HR:=zh hr
 have et:=@run_makeMap Tryz.prog
 have H2:=zh h2
 have ca:=zh (ab w (.map #[] 0))
 obtain⟨W1,bp⟩:∃ W1,w.alloc (.map #[] 0)=W1:=⟨_,rfl⟩
 have ad:=zh (GI w)
 rw[bp] at ca ad
 have bm:W1.heap.size=w.heap.size+1:=by rw[← bp];simp
 obtain⟨W2,aa⟩:∃ W2,W1.alloc (.cells #[.pointer (some ⟨dk,0,none⟩),.slice none 0 0,.map (some w.heap.size),.bool false] 109)=W2:=⟨_,rfl⟩
 have bj:=zh (show Below w.heap.size w W2 from aa ▸ ca.out.alloc (by omega) _)
 have bE:=heap_alloc_new W1 (.cells #[.pointer (some ⟨dk,0,none⟩),.slice none 0 0,.map (some w.heap.size),.bool false] 109)
 rw[aa,bm] at bE
 have HH:=zh bE
 have bg:=zh (ad.out.keep (w:=W2) (by rw[← aa];exact heap_alloc_old W1 _ ad.out.lt))
 have c5:=zh bp
 have c6:=zh aa
 clear hu h2 bE bp aa hr
 go_enter Tryz.func13,Tryz.ntmps13
 go_wp2_with (go_at_call 30;(with_reducible refine HR.out.mono ?_);rintro e w' ⟨rfl,rfl⟩)
 rw[c5.out,c6.out]
 have bq:=(bj.out.block dk aF).trans H2.out
 obtain⟨d0,d1,d2,d3,d4,-⟩:=aY bq
 have bv:=zh bq
 have dz:=zh (Array.getElem?_eq_some_iff.1 bq).1
 have c4:=zh (λA' c'=>yK W2 A' c')
 have HA:=zh (show A=none\/∃ g,A=some ⟨g,0,none⟩ from by
  obtain⟨_,_,A2,c2,k2,ho,_⟩:=HD.out
  unfold uR at k2
  simp only[Dk.new,List.length_nil] at k2 ho
  rw[H2.out] at k2
  simp only[Option.some.injEq,Obj.cells.injEq,Array.mk.injEq,List.cons.injEq,Value.slice.injEq,and_true,true_and] at k2
  obtain⟨rfl,rfl⟩:=k2
  rcases ho.2 with⟨hv,_⟩|⟨g,_,_,hv,_⟩
  ·simp only[Value.slice.injEq] at hv
   exact .inl hv.1
  simp only[Value.slice.injEq] at hv
  exact .inr ⟨g,hv.1⟩)
 clear bq et bm
 rcases HA.out with rfl|⟨g,rfl⟩
 all_goals
  refine wp_loop_rounds 1 ?_
  rw[rounds_succ]
  go_wp2_with (go_at_call 31;(with_reducible refine (c4.out _ _).mono ?_);rintro e w3 ⟨rfl,bf⟩;have bi:=zh bf;obtain⟨e0,e1,e2,e3,e4,-⟩:=aY ((bf.block dk dz.out).trans bv.out);clear bf)
  have bf:Below w.heap.size w w3:=bj.out.trans (bi.out.mono bj.out.size)
  have hl:=(Array.getElem?_eq_some_iff.1 HH.out).1
  refine hR.out _ _ ⟨w.heap.size+1,by omega,rfl,⟨HD.out.below bf,HU.out _ (by omega),none,0,w.heap.size,0,(bi.out.block _ hl).trans HH.out,⟨[],World.ownsRow_nil _ _ _ _,λg hg=>by simp[Value.ownBlock] at hg,λi e he=>by simp at he⟩,HU.out _ (Nat.le_refl _),by simp,bg.out.keep (bi.out.block _ (by omega))⟩,bf⟩
end
end
end Go.Proofs.YtgbnicokglpdbaaGreatDoor
