/-
  Memory of wire.look and wire.fill; plain: what onward and fill find. Contracts of wire.look, follows and onward; each states its condition.
-/
import Derived.Test.YtjibohkeapdalaaGreatDoorDa
import Derived.Test.YtjibohkeapdalaaGreatDoorAa
namespace Go.Proofs.YtjibohkeapdalaaGreatDoor
set_option maxHeartbeats 8000000
set_option maxRecDepth 16000
section
section
section
open Go.RowKit
theorem own_of_kxW{W W':World}{base e sz n:Nat}{v:Value}{xs:List Value}{S:Nat->Prop}(h:W.ownsRow base e sz v n xs)(hk:Kx S W W')(hs:∀ j,base<=j->¬ S j):W'.ownsRow base e sz v n xs:=by
 refine⟨h.1,?_⟩
 rcases h.2 with h3|⟨g,cap,cur,e,hb,hh,r⟩
 ·exact .inl h3
 ·exact .inr ⟨g,cap,cur,e,hb,(hk.block g (Array.getElem?_eq_some_iff.1 hh).1 (hs g hb)).trans hh,r⟩
theorem own_geW{W:World}{base e sz n j:Nat}{v:Value}{xs:List Value}(h:W.ownsRow base e sz v n xs)(hj:v.ownBlock=some j):base<=j:=by
 rcases h.2 with⟨rfl,_⟩|⟨g,cap,cur,rfl,h2,_⟩
 ·simp[Value.ownBlock] at hj
 ·simp[Value.ownBlock] at hj;omega
theorem own_kxW{W w2:World}{o:Obj}{base e sz n:Nat}{v:Value}{xs:List Value}(h:W.ownsRow base e sz v n xs)(hg:(W.alloc o).grownBy w2 v.ownBlock):Kx (λj=>base<=j) W w2:=
 ((Kx.refl _ W).below (below_new W o)).grown hg (λ_ hj=>.inl (own_geW h hj))
theorem kx_one(W:World)(g k:Nat)(v:Value):Kx (λj=>j=g) W (W.setCell ⟨g,k,none⟩ v):=kx_set (S:=λj=>j=g) (Kx.refl _ W) rfl k v
theorem cells8{W:World}{b:Nat}{t:TypeId}{u0 u1 u2 u3 u4 u5 u6 u7:Value}(h:W.heap[b]?=some (.cells #[u0,u1,u2,u3,u4,u5,u6,u7] t (0,0))) :
 W.cell? ⟨b,0,none⟩=some u0/\W.cell? ⟨b,1,none⟩=some u1/\W.cell? ⟨b,2,none⟩=some u2/\W.cell? ⟨b,3,none⟩=some u3/\W.cell? ⟨b,4,none⟩=some u4/\W.cell? ⟨b,5,none⟩=some u5/\W.cell? ⟨b,6,none⟩=some u6/\W.cell? ⟨b,7,none⟩=some u7/\(∀ j,W.frozen? ⟨b,j,none⟩=false):=
 ⟨by rw[cell_of_row _ _ 0 _ _ (0,0) h];rfl,by rw[cell_of_row _ _ 1 _ _ (0,0) h];rfl,by rw[cell_of_row _ _ 2 _ _ (0,0) h];rfl,by rw[cell_of_row _ _ 3 _ _ (0,0) h];rfl,by rw[cell_of_row _ _ 4 _ _ (0,0) h];rfl,
  by rw[cell_of_row _ _ 5 _ _ (0,0) h];rfl,by rw[cell_of_row _ _ 6 _ _ (0,0) h];rfl,by rw[cell_of_row _ _ 7 _ _ (0,0) h];rfl,λj=>by simp[World.frozen?,h]⟩
def pkE(p:Nat×Nat):List Value:=[.int .i64 (p.1:Nat),.int .i64 (p.2:Nat)]
theorem pkE_len(p:Nat×Nat):(pkE p).length=2:=rfl
theorem SlE.at2k{w:World}{A:Option Addr}{n k:Nat}{L:List (Nat×Nat)}(h:SlE pkE 2 w A n L)(hk:k<n) :
 ∃ b o l,A=some ⟨b,o,none⟩/\b<w.heap.size/\L[k]?=some l/\w.cell? ⟨b,o+k*2,none⟩=some (.int .i64 (l.1:Nat))/\w.cell? ⟨b,o+k*2+1,none⟩=some (.int .i64 (l.2:Nat)):=by
 obtain⟨b,o,x,hA,hb,hx,hc⟩:=h.at_ pkE_len hk
 exact⟨b,o,x,hA,hb,hx,by simpa using hc 0 _ rfl,by simpa[Nat.add_assoc] using hc 1 _ rfl⟩
theorem elemPick:ElemOk Tryz.prog 48 55 2 16:=ElemOk.of (z:=.agg #[.int .i64 0,.int .i64 0]) Tryz.underlying48 (by kernel_rfl) rfl (by omega)
theorem elemRowW:ElemOk Tryz.prog 106 22 1 24:=ElemOk.of (z:=.slice none 0 0) Tryz.underlying106 (by kernel_rfl) rfl (by omega)
def pks(k q:Nat):List (Nat×Nat):=(List.range q).map λt=>(t/k,t%k)
theorem pks_len(k q:Nat):(pks k q).length=q:=by unfold pks;simp
theorem pks_succ{k i j:Nat}(h:j<k):pks k (i*k+j+1)=pks k (i*k+j)++[(i,j)]:=by
 unfold pks
 rw[List.range_succ,List.map_append,List.map_cons,List.map_nil]
 rw[show (i*k+j)/k=i by rw[Nat.add_comm,Nat.add_mul_div_right _ _ (by omega),Nat.div_eq_of_lt h,Nat.zero_add],show (i*k+j)%k=j by rw[Nat.add_comm,Nat.add_mul_mod_self_right,Nat.mod_eq_of_lt h]]
theorem pks_get{k q t:Nat}(h:t<q):(pks k q)[t]?=some (t/k,t%k):=by
 unfold pks
 rw[List.getElem?_map,List.getElem?_range h];rfl
theorem pk_flat(L:List (Nat×Nat))(i j:Nat):L.flatMap pkE++[.int .i64 (i:Nat),.int .i64 (j:Nat)]=(L++[(i,j)]).flatMap pkE:=by
 rw[List.flatMap_append];rfl
structure LkA(w W:World)(A:Option Addr)(n c:Nat)(B:Option Addr)(m d:Nat)(G:Option Addr)(k e:Nat)(sf ch:Int)(pa:Option Addr)(pc q:Nat)(rv:Value):Prop where
 hb:Below w.heap.size w W
 box:W.heap[w.heap.size]?=some (.cells #[.slice A n c,.slice B m d,.slice G k e,.int .i64 sf,.int .i64 ch] 45 (0,0))
 sb:W.heap[w.heap.size+1]?=some (.cells #[.slice A n c,.slice B m d,.slice G k e,.int .i64 sf,.int .i64 ch,.slice pa q pc,rv,.slice none 0 0] 124 (0,0))
 own:W.ownsRow (w.heap.size+2) 55 2 (.slice pa q pc) q ((pks k q).flatMap pkE)
 sz:w.heap.size+2<=W.heap.size
theorem LkA.start(w:World)(A:Option Addr)(n c:Nat)(B:Option Addr)(m d:Nat)(G:Option Addr)(k e:Nat)(sf ch:Int)(rv:Value) :
 LkA w ((w.alloc (.cells #[.slice A n c,.slice B m d,.slice G k e,.int .i64 sf,.int .i64 ch] 45)).alloc (.cells #[.slice A n c,.slice B m d,.slice G k e,.int .i64 sf,.int .i64 ch,.slice none 0 0,rv,.slice none 0 0] 124)) A n c B m d G k e sf ch none 0 0 rv:=by
 refine⟨(below_new w _).alloc (by simp) _,?_,?_,World.ownsRow_nil _ _ _ _,by simp⟩
 ·rw[Below.heap_alloc _ _ _ (by simp)];exact heap_alloc_new w _
 ·have h:=heap_alloc_new (w.alloc (.cells #[.slice A n c,.slice B m d,.slice G k e,.int .i64 sf,.int .i64 ch] 45)) (.cells #[.slice A n c,.slice B m d,.slice G k e,.int .i64 sf,.int .i64 ch,.slice none 0 0,rv,.slice none 0 0] 124)
  rw[World.size_alloc] at h
  exact h
theorem LkA.push{w W w2:World}{A B G:Option Addr}{n c m d k e i j:Nat}{sf ch:Int}{pa p2:Option Addr}{pc q c2:Nat}{rv:Value}{o:Obj}(h:LkA w W A n c B m d G k e sf ch pa pc q rv)(hq:q=i*k+j)(hj:j<k)
 (ho:w2.ownsRow (w.heap.size+2) 55 2 (.slice p2 (q+1) c2) (q+1) ((pks k q).flatMap pkE++[.int .i64 (i:Nat),.int .i64 (j:Nat)])) (hg:(W.alloc o).grownBy w2 (Value.slice pa q pc).ownBlock) :
 LkA w (w2.setCell ⟨w.heap.size+1,5,none⟩ (.slice p2 (q+1) c2)) A n c B m d G k e sf ch p2 c2 (q+1) rv:=by
 have hk:=own_kxW h.own hg
 have hk2:=kx_one w2 (w.heap.size+1) 5 (.slice p2 (q+1) c2)
 have s2:=(hk.block _ (by have:=h.sz;omega) (by omega)).trans h.sb
 have b2:=(hk.block _ (by have:=h.sz;omega) (by omega)).trans h.box
 refine⟨Kx.low (Kx.low h.hb hk (λx hx=>by omega) h.hb.size) hk2 (λx hx=>by omega) (Nat.le_trans h.hb.size hk.size),(hk2.block _ (Array.getElem?_eq_some_iff.1 b2).1 (by omega)).trans b2,?_,?_,Nat.le_trans (Nat.le_trans h.sz hk.size) hk2.size⟩
 ·simp only[World.setCell,Array.getElem?_modify,s2]
  simp
 ·rw[pk_flat,hq,← pks_succ hj,← hq] at ho
  exact own_of_kxW ho hk2 (λx hx hx2=>by omega)
end
end
section
section
open Go.RowKit
def prc(x:Sc)(y:Crs)(p:Nat×Nat):Int:=
 if holdsB (x.me.getD p.1 ⟨0,[]⟩).D ((x.me.getD p.1 ⟨0,[]⟩).S.getD p.2 0) y.L y.F x.sf then pricF (x.me.getD p.1 ⟨0,[]⟩).D (x.ga.getD p.2 0) y else -1
theorem prc_eq{x:Sc}{i j:Nat}{mt:Mtl}{s g:Int}(h:Pk x i j mt s g)(y:Crs):prc x y (i,j)=if holdsB mt.D s y.L y.F x.sf then pricF mt.D g y else -1:=by
 unfold prc
 have h1:x.me.getD i ⟨0,[]⟩=mt:=by rw[List.getD_eq_getElem?_getD,h.hme];rfl
 have h2:mt.S.getD j 0=s:=by rw[List.getD_eq_getElem?_getD,h.hs];rfl
 have h3:x.ga.getD j 0=g:=by rw[List.getD_eq_getElem?_getD,h.hg];rfl
 dsimp only
 rw[h1,h2,h3]
structure ScOk(x:Sc):Prop where
 n:1<=x.co.length/\x.co.length<=96
 m:1<=x.me.length/\x.me.length<=4
 k:1<=x.ga.length/\x.ga.length<=16
 sf:1<=x.sf/\x.sf<=100
 ch:0<=x.ch/\x.ch<=96
 pk:∀ i j,i<x.me.length->j<x.ga.length->∃ mt s g,Pk x i j mt s g
 co:∀ y∈x.co,y.Ok
def InR(a:Int):Prop := -9223372036854775808<=a/\a<=9223372036854775807
theorem wrap_succ{a hi:Int}(ha:InR a)(hh:hi<=2000000000)(h:inBT (wrap64 (a+1)) 1 hi=true):0<=a/\a+1<=hi:=by
 obtain⟨h1,h2⟩:=inB_iffW.1 h
 unfold InR at ha
 unfold wrap64 at h1 h2
 omega
theorem scB_ok{x:Sc}(h:scB x=true)(hr:∀ y∈x.co,InR y.T/\InR y.W):ScOk x:=by
 unfold scB at h
 simp only[Bool.and_eq_true] at h
 obtain⟨⟨⟨h1,h2⟩,h3⟩,h4⟩:=h
 unfold headB at h1
 simp only[Bool.and_eq_true,decide_eq_true_eq,inB_iffW] at h1
 obtain⟨⟨⟨⟨⟨a1,a2⟩,a3⟩,a4⟩,a5⟩,a6⟩:=h1
 refine⟨by omega,by omega,by omega,a4,⟨a5,a6⟩,λi j hi hj=>?_,λy hy=>?_⟩
 ·have e1:x.me[i]?=some (x.me[i]'hi):=List.getElem?_eq_getElem hi
  have m1:=List.all_eq_true.1 h3 _ (List.mem_of_getElem? e1)
  unfold metB at m1
  simp only[Bool.and_eq_true,decide_eq_true_eq] at m1
  obtain⟨m2,m3,m4⟩:=m1
  have hj2:j<(x.me[i]'hi).S.length:=by omega
  have e2:(x.me[i]'hi).S[j]?=some ((x.me[i]'hi).S[j]'hj2):=List.getElem?_eq_getElem hj2
  have e3:x.ga[j]?=some (x.ga[j]'hj):=List.getElem?_eq_getElem hj
  have g1:=List.all_eq_true.1 h2 j (List.mem_range.2 hj)
  unfold gauB at g1
  simp only[Bool.and_eq_true] at g1
  have g2:=inB_iffW.1 g1.1
  rw[List.getD_eq_getElem?_getD,e3] at g2
  exact⟨_,_,_,e1,e2,e3,inB_iffW.1 m3,inB_iffW.1 (List.all_eq_true.1 m2 _ (List.mem_of_getElem? e2)),g2,a4⟩
 ·have c1:=List.all_eq_true.1 h4 y hy
  unfold crsB at c1
  simp only[Bool.and_eq_true] at c1
  obtain⟨⟨⟨c2,c3⟩,c4⟩,c5⟩:=c1
  have c6:=wrap_succ (hr y hy).1 (by omega) c4
  have c7:=wrap_succ (hr y hy).2 (by omega) c5
  exact⟨inB_iffW.1 c2,inB_iffW.1 c3,by omega,by omega⟩
theorem flat_one{α β:Type}(g:α->β)(l:List α):(l.flatMap λa=>[g a])=l.map g:=by
 induction l with
 |nil=>rfl
 |cons a l ih=>rw[List.flatMap_cons,ih];rfl
def RwF(W:World)(g q t:Nat)(f:Nat->Int):Prop:=∃ cs,W.heap[g]?=some (.cells cs 3 (0,0))/\cs.size=q/\∀ u,u<t->cs[u]?=some (.int .i64 (f u))
theorem RwF.set{W:World}{g q t:Nat}{f:Nat->Int}(h:RwF W g q t f)(ht:t<q){v:Int}(hv:v=f t):RwF (W.setCell ⟨g,t,none⟩ (.int .i64 v)) g q (t+1) f:=by
 obtain⟨cs,h1,h2,h3⟩:=h
 refine⟨cs.set! t (.int .i64 v),by simp[World.setCell,Array.getElem?_modify,h1],by simp[h2],λu hu=>?_⟩
 by_cases e:u=t
 ·subst e;subst hv;simp[h2,ht]
 ·have:=h3 u (by omega)
  simp[this,Ne.symm e]
theorem RwF.set0{W:World}{g q t:Nat}{f:Nat->Int}(h:RwF W g q t f)(v:Value):RwF (W.setCell ⟨g,t,none⟩ v) g q t f:=by
 obtain⟨cs,h1,h2,h3⟩:=h
 refine⟨cs.set! t v,by simp[World.setCell,Array.getElem?_modify,h1],by simp[h2],λu hu=>?_⟩
 have:=h3 u hu
 simp[this,show ¬ t=u by omega]
theorem RwF.kx{W W':World}{g q t:Nat}{f:Nat->Int}{S:Nat->Prop}(h:RwF W g q t f)(hk:Kx S W W')(hs:¬ S g):RwF W' g q t f:=by
 obtain⟨cs,h1,h2,h3⟩:=h
 exact⟨cs,(hk.block g (Array.getElem?_eq_some_iff.1 h1).1 hs).trans h1,h2,h3⟩
theorem RwF.below{W W':World}{g q t:Nat}{f:Nat->Int}(h:RwF W g q t f)(hk:Below W.heap.size W W'):RwF W' g q t f:=by
 obtain⟨cs,h1,h2,h3⟩:=h
 exact⟨cs,(hk.block g (Array.getElem?_eq_some_iff.1 h1).1).trans h1,h2,h3⟩
theorem RwF.lt{W:World}{g q t:Nat}{f:Nat->Int}(h:RwF W g q t f):g<W.heap.size:=by
 obtain⟨cs,h1,h2,h3⟩:=h
 exact (Array.getElem?_eq_some_iff.1 h1).1
theorem RwF.cell{W:World}{g q t:Nat}{f:Nat->Int}(h:RwF W g q t f){u:Nat}(hu:u<q):(∃ v,W.cell? ⟨g,u,none⟩=some v)/\∀ j,W.frozen? ⟨g,j,none⟩=false:=by
 obtain⟨cs,h1,h2,h3⟩:=h
 exact⟨⟨cs[u]'(by omega),by rw[cell_of_row _ _ u _ _ (0,0) h1];exact Array.getElem?_eq_getElem _⟩,λj=>by simp[World.frozen?,h1]⟩
theorem RwF.read{W:World}{g q t:Nat}{f:Nat->Int}(h:RwF W g q t f){u:Nat}(hu:u<t):W.cell? ⟨g,u,none⟩=some (.int .i64 (f u)):=by
 obtain⟨cs,h1,h2,h3⟩:=h
 rw[cell_of_row _ _ u _ _ (0,0) h1];exact h3 u hu
theorem own_at{W:World}{b sz n base:Nat}{cs:Array Value}{e:TypeId}(h:W.heap[b]?=some (.cells cs e (0,0)))(hn:cs.size=n*sz)(hb:base<=b)(hm:n<=maxLen):W.ownsRow base e sz (.slice (some ⟨b,0,none⟩) n n) n cs.toList:=
 ⟨by simpa using hn,.inr ⟨_,n,cs,rfl,hb,h,Nat.le_refl _,hm,hn,by rw[List.take_of_length_le];simp[hn]⟩⟩
theorem RwF.own{W:World}{g q base:Nat}{f:Nat->Int}(h:RwF W g q q f)(hb:base<=g)(hm:q<=maxLen):W.ownsRow base 3 1 (.slice (some ⟨g,0,none⟩) q q) q (((List.range q).map f).flatMap intE):=by
 obtain⟨cs,h1,h2,h3⟩:=h
 have e:cs.toList=((List.range q).map f).flatMap intE:=by
  have e2:((List.range q).map f).flatMap intE=(List.range q).map λu=>Value.int .i64 (f u):=by
   rw[List.flatMap_map]
   exact flat_one _ _
  rw[e2]
  refine List.ext_getElem? λu=>?_
  by_cases hu:u<q
  ·rw[List.getElem?_map,List.getElem?_range hu]
   have:=h3 u hu
   simpa using this
  ·rw[List.getElem?_eq_none (by simp;omega),List.getElem?_eq_none (by simp;omega)]
 rw[← e]
 exact own_at h1 (by omega) hb hm
theorem RwF.new(w:World)(n:Nat)(f:Nat->Int)(cs:Array Value)(hcs:cs.size=n):RwF (w.alloc (.cells cs 3)) w.heap.size n 0 f:=⟨cs,heap_alloc_new w _,hcs,λu hu=>absurd hu (by omega)⟩
structure LkB(w2 W:World)(sb:Nat)(s0 s1 s2 s3 s4 pv:Value)(ra:Option Addr)(rc i:Nat)(rows:List (List Int))(outer:List Value):Prop where
 kx:Kx (λj=>j=sb) w2 W
 hsb:W.heap[sb]?=some (.cells #[s0,s1,s2,s3,s4,pv,.slice ra i rc,.slice none 0 0] 124 (0,0))
 tb:TblO W w2.heap.size 22 3 (.slice ra i rc) i rows outer
 lt:sb<w2.heap.size
theorem LkB.below{w2 W W':World}{sb:Nat}{s0 s1 s2 s3 s4 pv:Value}{ra:Option Addr}{rc i:Nat}{rows:List (List Int)}{outer:List Value}(h:LkB w2 W sb s0 s1 s2 s3 s4 pv ra rc i rows outer)(hb:Below W.heap.size W W') :
 LkB w2 W' sb s0 s1 s2 s3 s4 pv ra rc i rows outer:=
 ⟨h.kx.below hb,(hb.block _ (Array.getElem?_eq_some_iff.1 h.hsb).1).trans h.hsb,h.tb.below hb,h.lt⟩
theorem LkB.push{w2 W W2:World}{sb:Nat}{s0 s1 s2 s3 s4 pv:Value}{ra A2:Option Addr}{rc i c2 g q:Nat}{rows:List (List Int)}{outer:List Value}{r:List Int}{o:Obj}(h:LkB w2 W sb s0 s1 s2 s3 s4 pv ra rc i rows outer)(hn:r.length=q)
 (hr:W.ownsRow w2.heap.size 3 1 (.slice (some ⟨g,0,none⟩) q q) q (r.flatMap intE))
 (ho:W2.ownsRow w2.heap.size 22 1 (.slice A2 (i+1) c2) (i+1) (outer++[.slice (some ⟨g,0,none⟩) q q])) (hg:(W.alloc o).grownBy W2 (Value.slice ra i rc).ownBlock) :
 LkB w2 (W2.setCell ⟨sb,6,none⟩ (.slice A2 (i+1) c2)) sb s0 s1 s2 s3 s4 pv A2 c2 (i+1) (rows++[r]) (outer++[.slice (some ⟨g,0,none⟩) q q]):=by
 have hk:=own_kxW h.tb.own hg
 have hk2:=kx_one W2 sb 6 (.slice A2 (i+1) c2)
 have hlt:=h.lt
 have hsz:=h.kx.size
 have hs2:=(hk.block sb (by omega) (by omega)).trans h.hsb
 have t1:=(h.tb.below (below_new W o)).snoc (by decide) hn (ownsRow_below hr (below_new W o)) (Nat.le_refl _) ho hg
 refine⟨?_,?_,⟨t1.1,own_of_kxW t1.2.1 hk2 (λj hj e=>by omega),λu r' hr'=>?_⟩,h.lt⟩
 ·exact (h.kx.trans hk (λj hj hj2=>by omega)).trans hk2 (λj _ hj=>hj)
 ·simp only[World.setCell,Array.getElem?_modify,hs2]
  simp
 ·obtain⟨Ai,ci,a1,a2,a3⟩:=t1.2.2 u r' hr'
  exact⟨Ai,ci,a1,a2,own_of_kxW a3 hk2 (λj hj e=>by omega)⟩
theorem LkB.grown_lt{w2 W W2:World}{sb:Nat}{s0 s1 s2 s3 s4 pv:Value}{ra:Option Addr}{rc i:Nat}{rows:List (List Int)}{outer:List Value}{o:Obj}(h:LkB w2 W sb s0 s1 s2 s3 s4 pv ra rc i rows outer)
 (hg:(W.alloc o).grownBy W2 (Value.slice ra i rc).ownBlock):sb<W2.heap.size/\W2.heap[sb]?=some (.cells #[s0,s1,s2,s3,s4,pv,.slice ra i rc,.slice none 0 0] 124 (0,0)):=by
 have hk:=own_kxW h.tb.own hg
 have hlt:=h.lt
 have hsz:=h.kx.size
 have hsz2:=hk.size
 exact⟨by omega,(hk.block sb (by omega) (by omega)).trans h.hsb⟩
theorem LkA.lt0{w W:World}{A B G:Option Addr}{n c m d k e:Nat}{sf ch:Int}{pa:Option Addr}{pc q:Nat}{rv:Value}(h:LkA w W A n c B m d G k e sf ch pa pc q rv):w.heap.size+1<W.heap.size:=by have:=h.sz;omega
theorem LkA.startB{w W:World}{A B G:Option Addr}{n c m d k e:Nat}{sf ch:Int}{pa:Option Addr}{pc q:Nat}(h:LkA w W A n c B m d G k e sf ch pa pc q (.slice none 0 0)) :
 LkB W W (w.heap.size+1) (.slice A n c) (.slice B m d) (.slice G k e) (.int .i64 sf) (.int .i64 ch) (.slice pa q pc) none 0 0 [] []:=
 ⟨Kx.refl _ _,h.sb,TblO.start (World.ownsRow_nil _ _ _ _),h.lt0⟩
structure LkC(wr W:World)(q t:Nat)(f:Nat->Int)(y:Crs):Prop where
 hb:Below wr.heap.size wr W
 rw:RwF W (wr.heap.size+1) q t f
 cb:W.heap[wr.heap.size]?=some (.cells #[.int .i64 y.L,.int .i64 y.F,.int .i64 y.T,.int .i64 y.W] 47 (0,0))
theorem LkC.start(w:World)(y:Crs)(q:Nat)(f:Nat->Int)(cs:Array Value)(hcs:cs.size=q) :
 LkC w ((w.alloc (.cells #[.int .i64 y.L,.int .i64 y.F,.int .i64 y.T,.int .i64 y.W] 47)).alloc (.cells cs 3)) q 0 f y:=by
 refine⟨(below_new w _).alloc (by simp) _,?_,?_⟩
 ·have h:=RwF.new (w.alloc (.cells #[.int .i64 y.L,.int .i64 y.F,.int .i64 y.T,.int .i64 y.W] 47)) q f cs hcs
  rw[World.size_alloc] at h
  exact h
 ·rw[Below.heap_alloc _ _ _ (by simp)];exact heap_alloc_new w _
theorem LkC.below{wr W W':World}{q t:Nat}{f:Nat->Int}{y:Crs}(h:LkC wr W q t f y)(hb:Below W.heap.size W W'):LkC wr W' q t f y:=
 ⟨h.hb.trans (hb.mono h.hb.size),h.rw.below hb,(hb.block _ (Array.getElem?_eq_some_iff.1 h.cb).1).trans h.cb⟩
theorem LkC.set0{wr W:World}{q t:Nat}{f:Nat->Int}{y:Crs}(h:LkC wr W q t f y)(v:Value):LkC wr (W.setCell ⟨wr.heap.size+1,t,none⟩ v) q t f y:=
 ⟨h.hb.setCell (by simp) _,h.rw.set0 v,((kx_one W (wr.heap.size+1) t v).block _ (Array.getElem?_eq_some_iff.1 h.cb).1 (by omega)).trans h.cb⟩
theorem LkC.set{wr W:World}{q t:Nat}{f:Nat->Int}{y:Crs}(h:LkC wr W q t f y)(ht:t<q){v:Int}(hv:v=f t):LkC wr (W.setCell ⟨wr.heap.size+1,t,none⟩ (.int .i64 v)) q (t+1) f y:=
 ⟨h.hb.setCell (by simp) _,h.rw.set ht hv,((kx_one W (wr.heap.size+1) t _).block _ (Array.getElem?_eq_some_iff.1 h.cb).1 (by omega)).trans h.cb⟩
theorem run_mkIntW(m:Nat)(hm:m<=100000)(w:World):(Instr.makeSlice 22 (.int .i64 (m:Int)) (.int .i64 (m:Int))).run Tryz.prog w=.ok (.slice (some ⟨w.heap.size,0,none⟩) m m) (w.alloc (.cells (madeCells #[Value.int .i64 0] m) 3)):=
 run_make_row' 22 3 (.int .i64 0) 8 Tryz.underlying22 (by kernel_rfl) rfl .i64 .i64 m (by omega) (by omega) w
theorem run_mkRowW(m:Nat)(hm:m<=100000)(w:World):(Instr.makeSlice 106 (.int .i64 (m:Int)) (.int .i64 (m:Int))).run Tryz.prog w=.ok (.slice (some ⟨w.heap.size,0,none⟩) m m) (w.alloc (.cells (madeCells #[Value.slice none 0 0] m) 22)):=
 run_make_row' 106 22 (.slice none 0 0) 24 Tryz.underlying106 (by kernel_rfl) rfl .i64 .i64 m (by omega) (by omega) w
theorem run_mkTabW(m:Nat)(hm:m<=100000)(w:World):(Instr.makeSlice 122 (.int .i64 (m:Int)) (.int .i64 (m:Int))).run Tryz.prog w=.ok (.slice (some ⟨w.heap.size,0,none⟩) m m) (w.alloc (.cells (madeCells #[Value.slice none 0 0] m) 106)):=
 run_make_row' 122 106 (.slice none 0 0) 24 Tryz.underlying122 (by kernel_rfl) rfl .i64 .i64 m (by omega) (by omega) w
end
end
section
section
open Go.RowKit
def folB(k a b:Nat):Bool:=decide (a/k<=b/k)&&decide (a%k<=b%k)
def leftF(from' left t:Nat):Int:=if t=from' then (left:Int) else (left:Int)-1
def onF(f:Nat->Nat->Int)(k from' left:Nat):Nat->Int×Nat
 |0=>(-1,0)
 |t+1=>if 0<=leftF from' left t/\folB k from' t=true/\f t (leftF from' left t).toNat≠-1/\((onF f k from' left t).1 = -1\/f t (leftF from' left t).toNat<(onF f k from' left t).1) then (f t (leftF from' left t).toNat,t) else onF f k from' left t
theorem onF_ok(f:Nat->Nat->Int)(k from' left:Nat):∀ q,(onF f k from' left q).1≠-1->(onF f k from' left q).2<q/\0<=leftF from' left (onF f k from' left q).2/\f (onF f k from' left q).2 (leftF from' left (onF f k from' left q).2).toNat=(onF f k from' left q).1
 |0,h=>absurd rfl h
 |q+1,h=>by
  unfold onF at h ⊢
  split at h
  ·rename_i hc
   rw[if_pos hc]
   exact⟨Nat.lt_succ_self _,hc.1,rfl⟩
  ·rename_i hc
   rw[if_neg hc]
   obtain⟨h1,h2,h3⟩:=onF_ok f k from' left q h
   exact⟨Nat.lt_succ_of_lt h1,h2,h3⟩
theorem onF_rng{f:Nat->Nat->Int}{k from' left:Nat}{B:Int}:∀ q,(∀ t l,t<q->l<=left->-1<=f t l/\f t l<=B)->-1<=B->-1<=(onF f k from' left q).1/\(onF f k from' left q).1<=B/\(onF f k from' left q).2<=q
 |0,_,h=>⟨Int.le_refl _,h,Nat.le_refl _⟩
 |q+1,hf,h=>by
  unfold onF
  split
  ·rename_i hc
   have:=hf q (leftF from' left q).toNat (Nat.lt_succ_self _) (by have:=hc.1;unfold leftF at this ⊢;split<;>omega)
   exact⟨this.1,this.2,Nat.le_succ _⟩
  ·obtain⟨h1,h2,h3⟩:=onF_rng q (λt l ht hl=>hf t l (by omega) hl) h
   exact⟨h1,h2,by omega⟩
def vF(pr:Nat->Nat->Int)(k q n:Nat):Nat->Nat->Nat->Int
 |0,p,_=>pr (n-1) p
 |d+1,p,l=>if pr (n-1-(d+1)) p = -1 then -1 else if (onF (vF pr k q n d) k p l q).1 = -1 then -1 else pr (n-1-(d+1)) p+(onF (vF pr k q n d) k p l q).1
theorem vF_rng{pr:Nat->Nat->Int}{k q n:Nat}(hp:∀ i p,i<n->p<q->-1<=pr i p/\pr i p<=4000000000000000):∀ d p l,d<n->p<q->-1<=vF pr k q n d p l/\vF pr k q n d p l<=4000000000000000*((d:Int)+1)
 |0,p,l,hd,h=>by
  unfold vF
  have:=hp (n-1) p (by omega) h
  omega
 |d+1,p,l,hd,h=>by
  unfold vF
  have h1:=hp (n-1-(d+1)) p (by omega) h
  have h2:=onF_rng (f:=vF pr k q n d) (k:=k) (from':=p) (left:=l) (B:=4000000000000000*((d:Int)+1)) q (λt l' ht _=>vF_rng hp d t l' (by omega) ht) (by omega)
  split
  ·omega
  ·split
   ·omega
   ·omega
def sumI:List Int->Int
 |[]=>0
 |a :: l=>a+sumI l
theorem sumI_cons(a:Int)(l:List Int):sumI (a :: l)=a+sumI l:=rfl
end
end
section
section
open Go.RowKit
structure Ro(W:World)(lo hi rb q:Nat)(cs:Array Value)(t c1:Nat)(f:Nat->Nat->Int):Prop where
 hlo:lo<=rb
 hhi:rb<hi
 h:W.heap[rb]?=some (.cells cs 22 (0,0))
 sz:cs.size=q
 rows:∀ u,u<t->∃ cb,cs[u]?=some (.slice (some ⟨cb,0,none⟩) c1 c1)/\lo<=cb/\cb<hi/\RwF W cb c1 c1 (f u)
theorem Ro.kx{W W':World}{lo hi rb q t c1:Nat}{cs:Array Value}{f:Nat->Nat->Int}{S:Nat->Prop}(r:Ro W lo hi rb q cs t c1 f)(hk:Kx S W W')(hs:∀ j,lo<=j->j<hi->¬ S j):Ro W' lo hi rb q cs t c1 f:=
 ⟨r.hlo,r.hhi,(hk.block _ (Array.getElem?_eq_some_iff.1 r.h).1 (hs _ r.hlo r.hhi)).trans r.h,r.sz,λu hu=>by
  obtain⟨cb,a1,a2,a3,a4⟩:=r.rows u hu
  exact⟨cb,a1,a2,a3,a4.kx hk (hs _ a2 a3)⟩⟩
theorem Ro.mono{W:World}{lo lo' hi hi' rb q t c1:Nat}{cs:Array Value}{f:Nat->Nat->Int}(r:Ro W lo hi rb q cs t c1 f)(hl:lo'<=lo)(hh:hi<=hi'):Ro W lo' hi' rb q cs t c1 f:=
 ⟨Nat.le_trans hl r.hlo,Nat.lt_of_lt_of_le r.hhi hh,r.h,r.sz,λu hu=>by
  obtain⟨cb,a1,a2,a3,a4⟩:=r.rows u hu
  exact⟨cb,a1,Nat.le_trans hl a2,Nat.lt_of_lt_of_le a3 hh,a4⟩⟩
theorem Ro.ne{W:World}{lo hi rb q t c1:Nat}{cs:Array Value}{f:Nat->Nat->Int}(r:Ro W lo hi rb q cs t c1 f){cb t':Nat}{g:Nat->Int}(h:RwF W cb c1 t' g):cb≠rb:=by
 rintro rfl
 obtain⟨cs',h1,-,-⟩:=h
 have h2:=r.h.symm.trans h1
 injection h2 with h2
 injection h2 with _ h2
 exact absurd h2 (by decide)
theorem Ro.set{W:World}{lo hi rb q t c1:Nat}{cs:Array Value}{f:Nat->Nat->Int}(r:Ro W lo hi rb q cs t c1 f)(v:Value):Ro (W.setCell ⟨rb,t,none⟩ v) lo hi rb q (cs.set! t v) t c1 f:=by
 refine⟨r.hlo,r.hhi,by simp[World.setCell,Array.getElem?_modify,r.h],by simp[r.sz],λu hu=>?_⟩
 obtain⟨cb,a1,a2,a3,a4⟩:=r.rows u hu
 refine⟨cb,?_,a2,a3,a4.kx (kx_one W rb t v) (r.ne a4)⟩
 rw[← a1]
 simp[show ¬ t=u by omega]
theorem Ro.push{W:World}{lo hi hi' rb q t c1 cb:Nat}{cs:Array Value}{f:Nat->Nat->Int}(r:Ro W lo hi rb q cs t c1 f)(hc:cs[t]?=some (.slice (some ⟨cb,0,none⟩) c1 c1))(h1:hi<=cb)(h2:cb<hi')(hr:RwF W cb c1 c1 (f t)):Ro W lo hi' rb q cs (t+1) c1 f:=
 ⟨r.hlo,by have:=r.hhi;omega,r.h,r.sz,λu hu=>by
  by_cases e:u=t
  ·subst e
   exact⟨cb,hc,by have:=r.hlo;have:=r.hhi;omega,h2,hr⟩
  ·obtain⟨cb',a1,a2,a3,a4⟩:=r.rows u (by omega)
   exact⟨cb',a1,a2,by omega,a4⟩⟩
theorem Ro.cell{W:World}{lo hi rb q t c1:Nat}{cs:Array Value}{f:Nat->Nat->Int}(r:Ro W lo hi rb q cs t c1 f){u:Nat}{v:Value}(hv:cs[u]?=some v):W.cell? ⟨rb,u,none⟩=some v:=by
 rw[cell_of_row _ _ u _ _ (0,0) r.h];exact hv
theorem Ro.lt{W:World}{lo hi rb q t c1:Nat}{cs:Array Value}{f:Nat->Nat->Int}(r:Ro W lo hi rb q cs t c1 f):rb<W.heap.size:=(Array.getElem?_eq_some_iff.1 r.h).1
theorem Ro.store{W:World}{lo hi rb q t c1:Nat}{cs:Array Value}{f:Nat->Nat->Int}(r:Ro W lo hi rb q cs t c1 f){u:Nat}(hu:u<q):(∃ v,W.cell? ⟨rb,u,none⟩=some v)/\∀ j,W.frozen? ⟨rb,j,none⟩=false:=by
 have hs:=r.sz
 exact⟨⟨cs[u]'(by omega),r.cell (Array.getElem?_eq_getElem _)⟩,λj=>by simp[World.frozen?,r.h]⟩
structure Fi(W:World)(hi tb n:Nat)(Tc:Array Value)(i q c1:Nat)(V:Nat->Nat->Nat->Int):Prop where
 hhi:tb<hi
 h:W.heap[tb]?=some (.cells Tc 106 (0,0))
 sz:Tc.size=n
 rows:∀ u,i<=u->u<n->∃ rb cs,Tc[u]?=some (.slice (some ⟨rb,0,none⟩) q q)/\Ro W (tb+1) hi rb q cs q c1 (V u)
theorem Fi.kx{W W':World}{hi tb n i q c1:Nat}{Tc:Array Value}{V:Nat->Nat->Nat->Int}{S:Nat->Prop}(r:Fi W hi tb n Tc i q c1 V)(hk:Kx S W W')(hs:∀ j,tb<=j->j<hi->¬ S j):Fi W' hi tb n Tc i q c1 V:=
 ⟨r.hhi,(hk.block _ (Array.getElem?_eq_some_iff.1 r.h).1 (hs _ (Nat.le_refl _) r.hhi)).trans r.h,r.sz,λu h1 h2=>by
  obtain⟨rb,cs,a1,a2⟩:=r.rows u h1 h2
  exact⟨rb,cs,a1,a2.kx hk (λj h3 h4=>hs j (by omega) h4)⟩⟩
theorem Fi.set{W:World}{hi tb n i q c1:Nat}{Tc:Array Value}{V:Nat->Nat->Nat->Int}(r:Fi W hi tb n Tc (i+1) q c1 V)(v:Value):Fi (W.setCell ⟨tb,i,none⟩ v) hi tb n (Tc.set! i v) (i+1) q c1 V:=
 ⟨r.hhi,by simp[World.setCell,Array.getElem?_modify,r.h],by simp[r.sz],λu h1 h2=>by
  obtain⟨rb,cs,a1,a2⟩:=r.rows u h1 h2
  exact⟨rb,cs,by rw[← a1];simp[show ¬ i=u by omega],a2.kx (kx_one W tb i v) (λj h3 _=>by omega)⟩⟩
theorem Fi.push{W:World}{hi hi' tb n i q c1 rb:Nat}{Tc cs:Array Value}{V:Nat->Nat->Nat->Int}(r:Fi W hi tb n Tc (i+1) q c1 V)(hc:Tc[i]?=some (.slice (some ⟨rb,0,none⟩) q q))(hh:hi<=hi'){lo:Nat}(hlo:hi<=lo)(hr:Ro W lo hi' rb q cs q c1 (V i)):Fi W hi' tb n Tc i q c1 V:=
 ⟨by have:=r.hhi;omega,r.h,r.sz,λu h1 h2=>by
  by_cases e:u=i
  ·subst e
   exact⟨rb,cs,hc,hr.mono (by have:=r.hhi;omega) (Nat.le_refl _)⟩
  ·obtain⟨rb',cs',a1,a2⟩:=r.rows u (by omega) h2
   exact⟨rb',cs',a1,a2.mono (Nat.le_refl _) hh⟩⟩
theorem Fi.cell{W:World}{hi tb n i q c1:Nat}{Tc:Array Value}{V:Nat->Nat->Nat->Int}(r:Fi W hi tb n Tc i q c1 V){u:Nat}{v:Value}(hv:Tc[u]?=some v):W.cell? ⟨tb,u,none⟩=some v:=by
 rw[cell_of_row _ _ u _ _ (0,0) r.h];exact hv
theorem Fi.lt{W:World}{hi tb n i q c1:Nat}{Tc:Array Value}{V:Nat->Nat->Nat->Int}(r:Fi W hi tb n Tc i q c1 V):tb<W.heap.size:=(Array.getElem?_eq_some_iff.1 r.h).1
theorem Fi.store{W:World}{hi tb n i q c1:Nat}{Tc:Array Value}{V:Nat->Nat->Nat->Int}(r:Fi W hi tb n Tc i q c1 V){u:Nat}(hu:u<n):(∃ v,W.cell? ⟨tb,u,none⟩=some v)/\∀ j,W.frozen? ⟨tb,j,none⟩=false:=by
 have hs:=r.sz
 exact⟨⟨Tc[u]'(by omega),r.cell (Array.getElem?_eq_getElem _)⟩,λj=>by simp[World.frozen?,r.h]⟩
theorem kx_alloc(W:World)(o:Obj)(S:Nat->Prop):Kx S W (W.alloc o):=(Kx.refl _ W).below (below_new W o)
theorem set_self{cs:Array Value}{i n:Nat}(h:cs.size=n)(hi:i<n)(v:Value):(cs.set! i v)[i]?=some v:=by simp[h,hi]
theorem Fi.start{W:World}{tb n i q c1:Nat}{Tc:Array Value}{V:Nat->Nat->Nat->Int}(r:Fi W W.heap.size tb n Tc (i+1) q c1 V)(hi:i<n){W1:World}
 (h1:((W.setCell ⟨tb,i,none⟩ (.slice (some ⟨W.heap.size,0,none⟩) q q)).alloc (.cells (madeCells #[Value.slice none 0 0] q) 22)).drew=W1) :
 Kx (λj=>j=tb) W W1/\Fi W1 W.heap.size tb n (Tc.set! i (.slice (some ⟨W.heap.size,0,none⟩) q q)) (i+1) q c1 V/\(Tc.set! i (.slice (some ⟨W.heap.size,0,none⟩) q q))[i]?=some (.slice (some ⟨W.heap.size,0,none⟩) q q)/\
  Ro W1 W.heap.size W1.heap.size W.heap.size q (madeCells #[Value.slice none 0 0] q) 0 c1 (V i):=by
 rw[← h1]
 have k2:Kx (λ_=>False) (W.setCell ⟨tb,i,none⟩ (.slice (some ⟨W.heap.size,0,none⟩) q q)) ((W.setCell ⟨tb,i,none⟩ (.slice (some ⟨W.heap.size,0,none⟩) q q)).alloc (.cells (madeCells #[Value.slice none 0 0] q) 22)).drew:=(kx_alloc _ _ _).drewN 1
 refine⟨(kx_one W tb i _).trans k2 (λj _ h=>h.elim),(r.set _).kx k2 (λ_ _ _ h=>h),set_self r.sz hi _,?_⟩
 have h0:=heap_alloc_new (W.setCell ⟨tb,i,none⟩ (.slice (some ⟨W.heap.size,0,none⟩) q q)) (.cells (madeCells #[Value.slice none 0 0] q) 22)
 rw[World.size_setCell] at h0
 exact⟨Nat.le_refl _,by show _<((W.setCell _ _).alloc _).heap.size;simp,h0,size_madeCells _ _,λu hu=>by omega⟩
theorem Ro.start{W:World}{lo rb q t c1:Nat}{cs:Array Value}{f:Nat->Nat->Int}(r:Ro W lo W.heap.size rb q cs t c1 f)(ht:t<q){W1:World}
 (h1:((W.setCell ⟨rb,t,none⟩ (.slice (some ⟨W.heap.size,0,none⟩) c1 c1)).alloc (.cells (madeCells #[Value.int .i64 0] c1) 3)).drew=W1) :
 Kx (λj=>j=rb) W W1/\Ro W1 lo W.heap.size rb q (cs.set! t (.slice (some ⟨W.heap.size,0,none⟩) c1 c1)) t c1 f/\(cs.set! t (.slice (some ⟨W.heap.size,0,none⟩) c1 c1))[t]?=some (.slice (some ⟨W.heap.size,0,none⟩) c1 c1)/\RwF W1 W.heap.size c1 0 (f t):=by
 rw[← h1]
 have k2:Kx (λ_=>False) (W.setCell ⟨rb,t,none⟩ (.slice (some ⟨W.heap.size,0,none⟩) c1 c1)) ((W.setCell ⟨rb,t,none⟩ (.slice (some ⟨W.heap.size,0,none⟩) c1 c1)).alloc (.cells (madeCells #[Value.int .i64 0] c1) 3)).drew:=(kx_alloc _ _ _).drewN 1
 refine⟨(kx_one W rb t _).trans k2 (λj _ h=>h.elim),(r.set _).kx k2 (λ_ _ _ h=>h),set_self r.sz ht _,?_⟩
 have h0:=heap_alloc_new (W.setCell ⟨rb,t,none⟩ (.slice (some ⟨W.heap.size,0,none⟩) c1 c1)) (.cells (madeCells #[Value.int .i64 0] c1) 3)
 rw[World.size_setCell] at h0
 exact⟨_,h0,size_madeCells _ _,λu hu=>by omega⟩
theorem vF_last{pr:Nat->Nat->Int}{k q n i p l:Nat}(h:i+1=n):vF pr k q n (n-1-i) p l=pr i p:=by
 rw[show n-1-i=0 from by omega,vF,show n-1=i from by omega]
theorem vF_step{pr:Nat->Nat->Int}{k q n i p l:Nat}(h:i+1<n):vF pr k q n (n-1-i) p l=if pr i p = -1 then -1 else if (onF (vF pr k q n (n-1-(i+1))) k p l q).1 = -1 then -1 else pr i p+(onF (vF pr k q n (n-1-(i+1))) k p l q).1:=by
 have e:n-1-i=n-1-(i+1)+1:=by omega
 have e2:n-1-(n-1-(i+1)+1)=i:=by omega
 rw[e,vF,e2]
end
end
end
section
section
section
open Go.RowKit
theorem own_monoW{W:World}{base base' e sz n:Nat}{v:Value}{xs:List Value}(h:W.ownsRow base e sz v n xs)(hb:base'<=base):W.ownsRow base' e sz v n xs:=
 ⟨h.1,h.2.imp id λ⟨b,c,cs,e1,h1,h2⟩=>⟨b,c,cs,e1,Nat.le_trans hb h1,h2⟩⟩
theorem TblO.monoW{W:World}{base base' L:Nat}{eo ei:TypeId}{v:Value}{rows:List (List Int)}{outer:List Value}(t:TblO W base eo ei v L rows outer)(hb:base'<=base):TblO W base' eo ei v L rows outer:=
 ⟨t.1,own_monoW t.2.1 hb,λi r hr=>by
  obtain⟨Ai,ci,a1,a2,a3⟩:=t.2.2 i r hr
  exact⟨Ai,ci,a1,a2,own_monoW a3 hb⟩⟩
theorem TblO.kxW{W W':World}{base L:Nat}{eo ei:TypeId}{v:Value}{rows:List (List Int)}{outer:List Value}{S:Nat->Prop}(t:TblO W base eo ei v L rows outer)(hk:Kx S W W')(hs:∀ j,base<=j->¬ S j):TblO W' base eo ei v L rows outer:=
 ⟨t.1,own_of_kxW t.2.1 hk hs,λi r hr=>by
  obtain⟨Ai,ci,a1,a2,a3⟩:=t.2.2 i r hr
  exact⟨Ai,ci,a1,a2,own_of_kxW a3 hk hs⟩⟩
structure LkP(w W:World)(A:Option Addr)(n c:Nat)(B:Option Addr)(m d:Nat)(G:Option Addr)(k e:Nat)(x:Sc)(pa:Option Addr)(pc:Nat)(ra:Option Addr)(rc:Nat)(outer:List Value):Prop where
 hb:Below w.heap.size w W
 sb:W.heap[w.heap.size+1]?=some (.cells #[.slice A n c,.slice B m d,.slice G k e,.int .i64 x.sf,.int .i64 x.ch,.slice pa (m*k) pc,.slice ra n rc,.slice none 0 0] 124 (0,0))
 pk:W.ownsRow (w.heap.size+2) 55 2 (.slice pa (m*k) pc) (m*k) ((pks k (m*k)).flatMap pkE)
 tb:TblO W (w.heap.size+2) 22 3 (.slice ra n rc) n (x.co.map λy=>(pks k (m*k)).map (prc x y)) outer
theorem map_snoc{α β:Type}(g:α->β){l:List α}{i:Nat}{y:α}{rows:List β}(h:rows=(l.take i).map g)(hy:l[i]?=some y){r:β}(hr:r=g y):rows++[r]=(l.take (i+1)).map g:=by
 rw[List.take_add_one,hy,h,hr]
 simp
theorem look_any(A:Option Addr)(n c:Nat)(B:Option Addr)(m d:Nat)(G:Option Addr)(k e:Nat)(x:Sc)(w:World)(h:ScM w A n c B m d G k e x)(hn:n<=96)(hm:m<=4)(hk:k<=16)(hok:ScOk x) :
 Calls Tryz.prog 37 #[.agg (scA A n c B m d G k e x)] w λe' w'=>∃ pa pc ra rc outer,e'=.returned (.pointer (some ⟨w.heap.size+1,0,none⟩))/\LkP w w' A n c B m d G k e x pa pc ra rc outer:=by
 have H:=zh h
 have Hok:=zh hok
 obtain⟨co,me,ga,sf,ch⟩:=x
 refine calls_cps ?_
 intro R hR
 unfold scA
 dsimp only
 have HL:=zh (LkA.start w A n c B m d G k e sf ch (.slice none 0 0))
 clear h hok
 go_enter Tryz.func37,Tryz.ntmps37
 go_upto_region 3 with fail
 obtain⟨w1,hw1⟩:∃ w1,((w.alloc (.cells #[.slice A n c,.slice B m d,.slice G k e,.int .i64 sf,.int .i64 ch] 45)).alloc (.cells #[.slice A n c,.slice B m d,.slice G k e,.int .i64 sf,.int .i64 ch,.slice none 0 0,.slice none 0 0,.slice none 0 0] 124))=w1:=⟨_,rfl⟩
 rw[hw1] at HL ⊢
 clear hw1
 go_loopw [4,5,17,20,21,22,23] (λ_ _ s17 _ _ _ _ wr=>∃ (i:Nat) (pa:Option Addr) (pc:Nat),s17=.int .i64 (i:Nat)/\i<=m/\Hid (LkA w wr A n c B m d G k e sf ch pa pc (i*k) (.slice none 0 0))) (λ_ _ s17 _ _ _ _ _=>m-(intOf s17).toNat)
 case atStart=>exact⟨0,none,0,rfl,Nat.zero_le _,by rw[Nat.zero_mul];exact HL⟩
 case round =>
  clear HL
  obtain⟨i,pa,pc,rfl,hi,HL⟩:=hrel
  by_cases hlt:i<m
  ·have i1:(i:Int)<(m:Int):=by omega
   obtain⟨u0,u1,u2,u3,u4,-⟩:=cells5 HL.out.box
   go_upto_region 6 with fail
   clear u0 u1 u2 u3 u4
   go_loopw [5,23] (λ_ s23 wx=>∃ (j:Nat) (pa:Option Addr) (pc:Nat),s23=.int .i64 (j:Nat)/\j<=k/\Hid (LkA w wx A n c B m d G k e sf ch pa pc (i*k+j) (.slice none 0 0))) (λ_ s23 _=>k-(intOf s23).toNat)
   case atStart=>exact⟨0,pa,pc,rfl,Nat.zero_le _,by rw[Nat.add_zero];exact HL⟩
   case round =>
    clear HL
    obtain⟨j,pa,pc,rfl,hj,HL⟩:=hrel
    by_cases hlt2:j<k
    ·have i2:(j:Int)<(k:Int):=by omega
     have hl:=HL.out.sz
     have hbl:w.heap.size+1<wr.heap.size:=by omega
     obtain⟨v0,v1,v2,v3,v4,v5,v6,v7,vf⟩:=cells8 HL.out.sb
     have hq:i*k+j<=100:=by have:=Nat.mul_le_mul (show i<=4 by omega) hk;omega
     obtain⟨q,hqq⟩:∃ q,i*k+j=q:=⟨_,rfl⟩
     have Hq:=zh hqq.symm
     have Hp:=zh (λw2 p2 c2 o h1 h2=>LkA.push (w2:=w2) (p2:=p2) (c2:=c2) (o:=o) HL.out rfl hlt2 h1 h2)
     rw[hqq] at HL v5 hq Hp
     clear hqq
     go_wp2_with (at_builtin;refine wpList_app rfl (.tmp 30) (.tmp 34) _ rfl elemPick (w.heap.size+2) _ _ _ rfl (HL.out.own.kept (World.grownBy_alloc wr _ none) (by cases (Value.slice pa q pc).ownBlock<;>simp)) _ _ _ _ rfl (Sl.new _ _ _ 2 1 rfl) (by simp[Value.oneCell']) (by unfold maxLen;omega) (by omega) (by simp;omega) ?_;intro A1 c1 w2 ho2 hg2 _;have hk2:=own_kxW HL.out.own hg2;have s2:=(hk2.block _ hbl (by omega)).trans HL.out.sb;obtain⟨x0,x1,x2,x3,x4,x5,x6,x7,xf⟩:=cells8 s2;have hbl2:w.heap.size+1<w2.heap.size:=Nat.lt_of_lt_of_le hbl hk2.size;have Hn:=zh (Hp.out w2 A1 c1 _ ho2 hg2);clear ho2 hg2 hk2 s2)
     exact⟨⟨j+1,A1,c1,by go_num,by omega,by rw[← Nat.add_assoc,← Hq.out];exact Hn⟩,by simp[intOf];omega⟩
    ·obtain rfl:k=j:=by omega
     have i2:¬ (k:Int)<(k:Int):=by omega
     go_wp2_with fail
     refine⟨⟨i+1,pa,pc,by go_num,by omega,by rw[Nat.succ_mul];exact HL⟩,by simp[intOf];omega⟩
  ·obtain rfl:m=i:=by omega
   have i1:¬ (m:Int)<(m:Int):=by omega
   clear hlt hi i1
   obtain⟨w0,rfl⟩:∃ w0,w0=wr:=⟨_,rfl⟩
   have HB0:=zh HL.out.startB
   have Hcf:=zh (λW (hk:Kx (λj=>j=w.heap.size+1) w0 W)=>H.out.below (Kx.low HL.out.hb hk (λj hj=>by omega) HL.out.hb.size))
   have Hbf:=zh (λW (hk:Kx (λj=>j=w.heap.size+1) w0 W)=>(hk.block _ (Array.getElem?_eq_some_iff.1 HL.out.box).1 (by omega)).trans HL.out.box)
   have Hpf:=zh (λW (hk:Kx (λj=>j=w.heap.size+1) w0 W)=>SlE.of_own (own_of_kxW HL.out.own hk (λj hj e=>by omega)) (pks_len k (m*k)).symm)
   have hbx0:=HL.out.lt0
   obtain⟨bx,hbx⟩:∃ bx,w.heap.size=bx:=⟨_,rfl⟩
   rw[hbx] at HB0 hbx0 Hcf Hbf Hpf ⊢
   have Hbx:=zh hbx
   have Hbox:=zh HL.out.box
   rw[hbx] at Hbox
   obtain⟨q,hq⟩:∃ q,m*k=q:=⟨_,rfl⟩
   rw[hq] at HL HB0 Hpf
   have Hq:=zh hq
   have hq64:q<=64:=by have:=Nat.mul_le_mul hm hk;omega
   clear hbx hq
   obtain⟨u0,u1,u2,u3,u4,-⟩:=cells5 Hbox.out
   go_upto_region 12 with fail
   clear u0 u1 u2 u3 u4
   go_loopw [7,8,9,10,43,58] (λ_ _ _ _ s43 _ wx=>∃ (i:Nat) (ra:Option Addr) (rc:Nat) (rows:List (List Int)) (outer:List Value),s43=.int .i64 (i:Nat)/\i<=n/\Hid (rows=(co.take i).map λy=>(pks k q).map (prc ⟨co,me,ga,sf,ch⟩ y))/\Hid (LkB w0 wx (bx+1) (.slice A n c) (.slice B m d) (.slice G k e) (.int .i64 sf) (.int .i64 ch) (.slice pa q pc) ra rc i rows outer)) (λ_ _ _ _ s43 _ _=>n-(intOf s43).toNat)
   case atStart=>exact⟨0,none,0,[],[],rfl,Nat.zero_le _,zh rfl,HB0⟩
   case round =>
    clear HB0
    obtain⟨i,ra,rc,rows,outer,rfl,hi,Hrows,HB⟩:=hrel
    have hbx1:bx+1<wr.heap.size:=Nat.lt_of_lt_of_le hbx0 HB.out.kx.size
    have hbx2:bx<wr.heap.size:=by omega
    by_cases hlt:i<n
    ·have i1:(i:Int)<(n:Int):=by omega
     obtain⟨b,o,y,rfl,hbl,hy,q0,q1,q2,q3⟩:=(Hcf.out wr HB.out.kx).co.at4c hlt
     obtain⟨v0,v1,v2,v3,v4,v5,v6,v7,-⟩:=cells8 HB.out.hsb
     have hq9:(q:Int)<=9223372036854775807:=by omega
     have Hy:=zh hy
     clear hy
     have hmk:=run_mkIntW q (by omega) (wr.alloc (.cells #[.int .i64 y.L,.int .i64 y.F,.int .i64 y.T,.int .i64 y.W] 47))
     go_upto_region 16 with fail
     clear hmk
     have HC0:=zh (LkC.start wr y q (λt=>prc ⟨co,me,ga,sf,ch⟩ y (t/k,t%k)) (madeCells #[Value.int .i64 0] q) (size_madeCells _ _))
     obtain⟨w1,hw1⟩:∃ w1,(wr.alloc (.cells #[.int .i64 y.L,.int .i64 y.F,.int .i64 y.T,.int .i64 y.W] 47)).alloc (.cells (madeCells #[Value.int .i64 0] q) 3)=w1:=⟨_,rfl⟩
     rw[hw1] at HC0 ⊢
     obtain⟨wo,rfl⟩:∃ wo,wo=wr:=⟨_,rfl⟩
     clear hw1 v0 v1 v2 v3 v4 v5 v6 v7 q0 q1 q2 q3 hbl hbx1 hbx2
     go_loopw [9,10,58] (λ_ _ s58 wx=>∃ (t:Nat),s58=.int .i64 (t:Nat)/\t<=q/\Hid (LkC wo wx q t (λt=>prc ⟨co,me,ga,sf,ch⟩ y (t/k,t%k)) y)) (λ_ _ s58 _=>q-(intOf s58).toNat)
     case atStart=>exact⟨0,rfl,Nat.zero_le _,HC0⟩
     case round =>
      clear HC0
      obtain⟨t,rfl,ht,HC⟩:=hrel
      have hrl:=HC.out.rw.lt
      by_cases hlt2:t<q
      ·have i2:(t:Int)<(q:Int):=by omega
       obtain⟨hi',hj'⟩:t/k<m/\t%k<k:=by
        have h1:=Hq.out
        have h2:0<k:=by
         rcases Nat.eq_zero_or_pos k with h|h
         ·subst h;omega
         ·exact h
        exact⟨Nat.div_lt_of_lt_mul (by rw[Nat.mul_comm];omega),Nat.mod_lt _ h2⟩
       obtain⟨pb,po,l,rfl,hpl,hl,c0,c1⟩:=(Hpf.out wr (HB.out.kx.below HC.out.hb)).at2k hlt2
       obtain rfl:=Option.some.inj ((pks_get hlt2).symm.trans hl)
       dsimp only at c0 c1
       obtain⟨i',hie⟩:∃ i',t/k=i':=⟨_,rfl⟩
       obtain⟨j',hje⟩:∃ j',t%k=j':=⟨_,rfl⟩
       have Hft:=zh (show (λt=>prc ⟨co,me,ga,sf,ch⟩ y (t/k,t%k)) t=prc ⟨co,me,ga,sf,ch⟩ y (i',j') from by dsimp only;rw[hie,hje])
       rw[hie] at hi' c0
       rw[hje] at hj' c1
       obtain⟨mt,s,g,hp⟩:=Hok.out.pk i' j' (by have:=H.out.me.1;dsimp only at this ⊢;omega) (by have:=H.out.ga.1;dsimp only at this ⊢;omega)
       have hpe:=prc_eq hp y
       have hyo:=Hok.out.co y (List.mem_of_getElem? Hy.out)
       have Hst:=zh (λW (hk:Kx (λj=>j=bx+1) w0 W)=>strong_any _ n c B m d G k e ⟨co,me,ga,sf,ch⟩ y i' j' mt s g W (Hcf.out W hk) hp hyo)
       have Hpr:=zh (λW (hk:Kx (λj=>j=bx+1) w0 W)=>price_any _ n c B m d G k e ⟨co,me,ga,sf,ch⟩ y i' j' mt s g W (Hcf.out W hk) hp hyo)
       unfold scA Crs.val pickV at Hst Hpr
       dsimp only at Hst Hpr hpe
       obtain⟨pv,hpv⟩:∃ pv,pricF mt.D g y=pv:=⟨_,rfl⟩
       obtain⟨hv,hhv⟩:∃ hv,holdsB mt.D s y.L y.F sf=hv:=⟨_,rfl⟩
       rw[hpv] at Hpr hpe
       rw[hhv] at Hst hpe
       have Hpe:=zh (Hft.out.trans hpe)
       clear hl hie hje hp hpe hyo hpv hhv Hft
       go_upto_region 18 with fail
       obtain⟨wa,hwa⟩:∃ wa,wr.alloc (.cells #[.int .i64 (i':Nat),.int .i64 (j':Nat)] 55)=wa:=⟨_,rfl⟩
       have hba:Below wr.heap.size wr wa:=by rw[← hwa];exact below_new wr _
       have hxa:wa.heap[wr.heap.size]?=some (.cells #[.int .i64 (i':Nat),.int .i64 (j':Nat)] 55 (0,0)):=by rw[← hwa];exact heap_alloc_new wr _
       have Hxa:=zh hxa
       have HCa:=zh (HC.out.below hba)
       have hne:wr.heap.size≠wo.heap.size+1:=by omega
       rw[hwa]
       obtain⟨pbx,hpbx⟩:∃ pbx,wr.heap.size=pbx:=⟨_,rfl⟩
       rw[hpbx] at Hxa hne ⊢
       clear hwa hba hxa c0 c1 hpl hpbx hrl HC
       obtain⟨⟨ov,oc⟩,of⟩:=HCa.out.rw.cell hlt2
       have hrl:=HCa.out.rw.lt
       go_upto_region 19 with fail
       cases hv with
       |false =>
        have HCb:=zh (HCa.out.set hlt2 (v := -1) Hpe.out.symm)
        have Hxb:=zh (((kx_one wa (wo.heap.size+1) t (.int .i64 (-1))).block _ (Array.getElem?_eq_some_iff.1 Hxa.out).1 hne).trans Hxa.out)
        obtain⟨wb,hwb⟩:∃ wb,wa.setCell ⟨wo.heap.size+1,t,none⟩ (.int .i64 (-1))=wb:=⟨_,rfl⟩
        rw[hwb] at HCb Hxb ⊢
        have Hkb:=zh (HB.out.kx.below HCb.out.hb)
        obtain⟨u0,u1,u2,u3,u4,-⟩:=cells5 (Hbf.out wb Hkb.out)
        obtain⟨v0,v1,v2,v3,-⟩:=cells4 HCb.out.cb
        obtain⟨t0,t1,-⟩:=cells2 Hxb.out
        clear hwb of oc hrl
        go_wp2_with ((with_reducible refine (Hst.out wb Hkb.out).mono ?_);rintro e w3 ⟨rfl,hb3⟩;have HC3:=zh (HCb.out.below hb3);clear hb3)
        exact⟨⟨t+1,by go_num,by omega,HC3⟩,by simp[intOf];omega⟩
       |true =>
        have HCb:=zh (HCa.out.set0 (.int .i64 (-1)))
        have Hxb:=zh (((kx_one wa (wo.heap.size+1) t (.int .i64 (-1))).block _ (Array.getElem?_eq_some_iff.1 Hxa.out).1 hne).trans Hxa.out)
        obtain⟨wb,hwb⟩:∃ wb,wa.setCell ⟨wo.heap.size+1,t,none⟩ (.int .i64 (-1))=wb:=⟨_,rfl⟩
        rw[hwb] at HCb Hxb ⊢
        have Hkb:=zh (HB.out.kx.below HCb.out.hb)
        obtain⟨u0,u1,u2,u3,u4,-⟩:=cells5 (Hbf.out wb Hkb.out)
        obtain⟨v0,v1,v2,v3,-⟩:=cells4 HCb.out.cb
        obtain⟨t0,t1,-⟩:=cells2 Hxb.out
        clear hwb of oc hrl
        go_upto_region 20 with ((with_reducible refine (Hst.out wb Hkb.out).mono ?_);rintro e w3 ⟨rfl,hb3⟩;have HC3:=zh (HCb.out.below hb3);have Hx3:=zh ((hb3.block _ (Array.getElem?_eq_some_iff.1 Hxb.out).1).trans Hxb.out);clear hb3)
        have Hk3:=zh (HB.out.kx.below HC3.out.hb)
        clear u0 u1 u2 u3 u4 v0 v1 v2 v3 t0 t1
        obtain⟨u0,u1,u2,u3,u4,-⟩:=cells5 (Hbf.out w3 Hk3.out)
        obtain⟨v0,v1,v2,v3,-⟩:=cells4 HC3.out.cb
        obtain⟨t0,t1,-⟩:=cells2 Hx3.out
        go_wp2_with ((with_reducible refine (Hpr.out w3 Hk3.out).mono ?_);rintro e w4 ⟨rfl,hb4⟩;have HC4:=zh (HC3.out.below hb4);obtain⟨⟨ov,oc⟩,of⟩:=HC4.out.rw.cell hlt2;have hrl:=HC4.out.rw.lt;clear hb4)
        exact⟨⟨t+1,by go_num,by omega,zh (HC4.out.set hlt2 Hpe.out.symm)⟩,by simp[intOf];omega⟩
      ·obtain rfl:q=t:=by omega
       have i2:¬ (q:Int)<(q:Int):=by omega
       have Hbr:=zh (HB.out.below HC.out.hb)
       obtain⟨v0,v1,v2,v3,v4,v5,v6,v7,-⟩:=cells8 Hbr.out.hsb
       have hbx1:bx+1<wr.heap.size:=Nat.lt_of_lt_of_le hbx0 Hbr.out.kx.size
       have hw0:w0.heap.size<=wr.heap.size:=Hbr.out.kx.size
       have Hro:=zh (HC.out.rw.own (base:=w0.heap.size) (Nat.le_trans HB.out.kx.size (Nat.le_succ _)) (by unfold maxLen;omega))
       have Hrows2:=zh (map_snoc (λy=>(pks k q).map (prc ⟨co,me,ga,sf,ch⟩ y)) Hrows.out Hy.out (r:=(List.range q).map λt=>prc ⟨co,me,ga,sf,ch⟩ y (t/k,t%k)) (by unfold pks;rw[List.map_map];rfl))
       go_wp2_with (at_builtin;refine wpList_app rfl (.tmp 82) (.tmp 84) _ rfl elemRowW w0.heap.size _ _ _ rfl (Hbr.out.tb.own.kept (World.grownBy_alloc wr _ none) (by cases (Value.slice ra i rc).ownBlock<;>simp)) _ _ _ _ rfl (Sl.new _ _ _ 1 1 rfl) (by simp[Value.oneCell']) (by unfold maxLen;omega) (by omega) (by simp;omega) ?_;intro A1 c1 w2 ho2 hg2 _;obtain⟨hlt2,s2⟩:=Hbr.out.grown_lt hg2;obtain⟨x0,x1,x2,x3,x4,x5,x6,x7,xf⟩:=cells8 s2;have Hn:=zh (Hbr.out.push (by simp) Hro.out ho2 hg2);clear ho2 hg2 s2)
       exact⟨⟨i+1,A1,c1,_,_,by go_num,by omega,Hrows2,Hn⟩,by simp[intOf];omega⟩
    ·obtain rfl:n=i:=by omega
     have i1:¬ (n:Int)<(n:Int):=by omega
     go_wp2_with fail
     have hco:co.take n=co:=by rw[List.take_of_length_le];exact Nat.le_of_eq H.out.co.1.symm
     have ht:=HB.out.tb
     rw[Hrows.out,hco,← Hq.out] at ht
     have hs:=HB.out.hsb
     have ho:=own_of_kxW HL.out.own HB.out.kx (λj hj e=>by have:=Hbx.out;omega)
     rw[← Hq.out,← Hbx.out] at hs
     rw[← Hq.out] at ho
     rw[← Hbx.out]
     exact hR.out _ _ ⟨pa,pc,ra,rc,outer,rfl,Kx.low HL.out.hb HB.out.kx (λj hj=>by have:=Hbx.out;omega) HL.out.hb.size,hs,ho,ht.monoW HL.out.sz⟩
end
end
section
section
open Go.RowKit
theorem tr_int{a b:Nat}(h:a<=b):(a:Int)<=(b:Int):=by omega
theorem no_int{a b:Nat}(h:¬ a<=b):¬ (a:Int)<=(b:Int):=by omega
theorem follows_any(sb:Nat)(pa:Option Addr)(q pc k a b:Nat)(w:World)(hc:w.cell? ⟨sb,5,none⟩=some (.slice pa q pc))(hsb:sb<w.heap.size)(hp:SlE pkE 2 w pa q (pks k q))(ha:a<q)(hb:b<q) :
 Calls Tryz.prog 91 #[.pointer (some ⟨sb,0,none⟩),.int .i64 (a:Nat),.int .i64 (b:Nat)] w λe w'=>e=.returned (.bool (folB k a b))/\Below w.heap.size w w':=by
 refine calls_cps ?_
 intro R hR
 obtain⟨pb,po,l,rfl,hpl,hl,c0,c1⟩:=hp.at2k ha
 obtain rfl:=Option.some.inj ((pks_get ha).symm.trans hl)
 obtain⟨pb',po',l',e',hpl',hl',d0,d1⟩:=hp.at2k hb
 obtain⟨rfl,rfl,-⟩:pb=pb'/\po=po'/\True:=by injection e' with e';injection e' with h1 h2;exact⟨h1,h2,trivial⟩
 obtain rfl:=Option.some.inj ((pks_get hb).symm.trans hl')
 have HR:=zh (show ∀ v,v=folB k a b->∀ W,Below w.heap.size w W->R (.returned (.bool v)) W from λv hv W g=>hR.out _ _ ⟨by rw[hv],g⟩)
 clear hR hl hl' e' hp
 unfold folB at HR
 dsimp only at c0 c1 d0 d1
 obtain⟨x0,hx0⟩:∃ x,a/k=x:=⟨_,rfl⟩
 obtain⟨x1,hx1⟩:∃ x,a%k=x:=⟨_,rfl⟩
 obtain⟨y0,hy0⟩:∃ x,b/k=x:=⟨_,rfl⟩
 obtain⟨y1,hy1⟩:∃ x,b%k=x:=⟨_,rfl⟩
 rw[hx0] at c0 HR
 rw[hx1] at c1 HR
 rw[hy0] at d0 HR
 rw[hy1] at d1 HR
 clear hx0 hx1 hy0 hy1
 have ia:(a:Int)<(q:Int):=by omega
 have ib:(b:Int)<(q:Int):=by omega
 by_cases h1:x0<=y0
 ·have i1:=tr_int h1
  by_cases h2:x1<=y1
  ·have i2:=tr_int h2
   have HF:=zh (HR.out true (by simp[h1,h2]))
   clear h1 h2 HR
   go_enter Tryz.func91,Tryz.ntmps91
   go_upto_region 1 with fail
   go_region
   all_goals
    go_wp2_with fail
    exact HF.out _ (Below.alloc (below_new w _) (by simp) _).drew
  ·have i2:=no_int h2
   have HF:=zh (HR.out false (by simp[h2]))
   clear h1 h2 HR
   go_enter Tryz.func91,Tryz.ntmps91
   go_upto_region 1 with fail
   go_region
   all_goals
    go_wp2_with fail
    exact HF.out _ (Below.alloc (below_new w _) (by simp) _).drew
 ·have i1:=no_int h1
  have HF:=zh (HR.out false (by simp[h1]))
  clear h1 HR
  go_enter Tryz.func91,Tryz.ntmps91
  go_upto_region 1 with fail
  go_region
  all_goals
   go_wp2_with fail
   exact HF.out _ (Below.alloc (below_new w _) (by simp) _).drew
end
end
section
section
open Go.RowKit
theorem onF_no{f:Nat->Nat->Int}{k a l t:Nat}(h:¬ (0<=leftF a l t/\folB k a t=true/\f t (leftF a l t).toNat≠-1/\((onF f k a l t).1 = -1\/f t (leftF a l t).toNat<(onF f k a l t).1))):onF f k a l (t+1)=onF f k a l t:=by
 rw[onF,if_neg h]
theorem onF_yes{f:Nat->Nat->Int}{k a l t:Nat}(h:0<=leftF a l t/\folB k a t=true/\f t (leftF a l t).toNat≠-1/\((onF f k a l t).1 = -1\/f t (leftF a l t).toNat<(onF f k a l t).1)):onF f k a l (t+1)=(f t (leftF a l t).toNat,t):=by
 rw[onF,if_pos h]
theorem leftF_eq{a l t:Nat}(h:t=a):leftF a l t=(l:Int):=by unfold leftF;rw[if_pos h]
theorem leftF_ne{a l t:Nat}(h:¬ t=a):leftF a l t=(l:Int)-1:=by unfold leftF;rw[if_neg h]
structure OnR(W:World)(sb tb rb:Nat)(pa:Option Addr)(q pc n u c1 k:Nat)(f:Nat->Nat->Int):Prop where
 c5:W.cell? ⟨sb,5,none⟩=some (.slice pa q pc)
 c7:W.cell? ⟨sb,7,none⟩=some (.slice (some ⟨tb,0,none⟩) n n)
 lsb:sb<W.heap.size
 ltb:tb<W.heap.size
 lrb:rb<W.heap.size
 pk:SlE pkE 2 W pa q (pks k q)
 ct:W.cell? ⟨tb,u,none⟩=some (.slice (some ⟨rb,0,none⟩) q q)
 rows:∀ t,t<q->∃ cb,cb<W.heap.size/\W.cell? ⟨rb,t,none⟩=some (.slice (some ⟨cb,0,none⟩) c1 c1)/\∀ l,l<c1->W.cell? ⟨cb,l,none⟩=some (.int .i64 (f t l))
theorem OnR.below{W W':World}{sb tb rb:Nat}{pa:Option Addr}{q pc n u c1 k:Nat}{f:Nat->Nat->Int}(h:OnR W sb tb rb pa q pc n u c1 k f)(hb:Below W.heap.size W W'):OnR W' sb tb rb pa q pc n u c1 k f:=
 ⟨(hb.cell h.lsb).trans h.c5, (hb.cell h.lsb).trans h.c7, Nat.lt_of_lt_of_le h.lsb hb.size, Nat.lt_of_lt_of_le h.ltb hb.size, Nat.lt_of_lt_of_le h.lrb hb.size, h.pk.below hb, (hb.cell h.ltb).trans h.ct, fun t ht => by
   obtain⟨cb,a1,a2,a3⟩:=h.rows t ht
   exact⟨cb,Nat.lt_of_lt_of_le a1 hb.size,(hb.cell h.lrb).trans a2,λl hl=>(hb.cell a1).trans (a3 l hl)⟩⟩
theorem onward_any(sb tb rb:Nat)(pa:Option Addr)(q pc n c1 k:Nat)(f:Nat->Nat->Int)(cu a l:Nat)(w:World)(h:OnR w sb tb rb pa q pc n (cu+1) c1 k f)(hu:cu+1<n)(hn:n<=1000)(ha:a<q)(hq:q<=1000)(hl:l<c1)(hc1:c1<=1000) :
 Calls Tryz.prog 39 #[.pointer (some ⟨sb,0,none⟩),.int .i64 (cu:Nat),.int .i64 (a:Nat),.int .i64 (l:Nat)] w λe w'=>e=.returned (.tuple #[.int .i64 (onF f k a l q).1,.int .i64 ((onF f k a l q).2:Nat)])/\Below w.heap.size w w':=by
 refine calls_cps ?_
 intro R hR
 have HR:=zh (show ∀ x:Int×Nat,x=onF f k a l q->∀ W,Below w.heap.size w W->R (.returned (.tuple #[.int .i64 x.1,.int .i64 (x.2:Nat)])) W from λv hv W g=>hR.out _ _ ⟨by rw[hv],g⟩)
 clear hR
 have H:=zh h
 obtain⟨u5,u7,us,ut,ur,-,uc,-⟩:=h
 go_enter Tryz.func39,Tryz.ntmps39
 go_wp2_with fail
 clear u5 u7 us ut ur uc
 go_loopw [10,11,12,13,14,20] (λs10 s11 _ _ _ s20 wr=>∃ (t:Nat) (x:Int×Nat),s20=.int .i64 (t:Nat)/\t<=q/\s10=.int .i64 x.1/\s11=.int .i64 (x.2:Nat)/\Hid (x=onF f k a l t)/\Hid (Below w.heap.size w wr)) (λ_ _ _ _ _ s20 _=>q-(intOf s20).toNat)
 case atStart=>exact⟨0,(-1,0),rfl,Nat.zero_le _,rfl,rfl,zh rfl,zh (Below.refl _ _)⟩
 case round =>
  obtain⟨t,⟨x1,x2⟩,rfl,ht,rfl,rfl,Hx,HB⟩:=hrel
  by_cases hlt:t<q
  ·have i1:(t:Int)<(q:Int):=by omega
   have HW:=zh (H.out.below HB.out)
   obtain⟨u5,u7,us,ut,ur,up,uc,uro⟩:=HW.out
   have Hfol:=zh (follows_any sb pa q pc k a t wr u5 us up ha hlt)
   obtain⟨cb,v1,v2,v3⟩:=uro t hlt
   have HB3:=zh (λW (hb:Below wr.heap.size wr W)=>HB.out.trans (hb.mono HB.out.size))
   clear up uro v1 v2
   have Hx1:=zh (show (onF f k a l t).1=x1 from by rw[← Hx.out])
   by_cases he:t=a
   ·subst he
    have HLF:=zh (leftF_eq (a:=t) (l:=l) (t:=t) rfl)
    go_upto_region 8 with fail
    have i3:¬ ((l:Nat):Int)<0:=by omega
    obtain⟨c,hc⟩:∃ c,f t l=c:=⟨_,rfl⟩
    have Hc:=zh (show f t (leftF t l t).toNat=c from by rw[HLF.out,Int.toNat_natCast];exact hc)
    have Hp:=zh (show 0<=leftF t l t from by rw[HLF.out];omega)
    have i4:((l:Nat):Int)<(c1:Int):=by omega
    clear hc
    cases hf:folB k t t with
    |false =>
     rw[hf] at Hfol
     have Hn:=zh (Hx.out.trans (onF_no (f:=f) (k:=k) (a:=t) (l:=l) (t:=t) (λhh=>by rw[hf] at hh;exact absurd hh.2.1 (by simp))).symm)
     go_wp2_with ((with_reducible refine Hfol.out.mono ?_);rintro e w3 ⟨rfl,hb3⟩)
     exact⟨⟨t+1,(x1,x2),by go_num,by omega,rfl,rfl,Hn,zh (HB3.out _ hb3)⟩,by simp[intOf];omega⟩
    |true =>
     rw[hf] at Hfol
     go_upto_region 9 with ((with_reducible refine Hfol.out.mono ?_);rintro e w3 ⟨rfl,hb3⟩;have HB4:=zh (HB3.out _ hb3);have HW3:=zh (HW.out.below hb3);clear hb3)
     clear u5 u7 us ut ur uc v3
     obtain⟨u5,u7,us,ut,ur,-,uc,uro⟩:=HW3.out
     obtain⟨cb,v1,v2,v3⟩:=uro t hlt
     have v4:=v3 l (by omega)
     rw[show f t l=c from by have:=Hc.out;rwa [HLF.out,Int.toNat_natCast] at this] at v4
     clear uro v3
     have j1:((cu:Nat):Int)+1<(n:Int):=by omega
     go_upto_region 10 with fail
     by_cases h1:c = -1
     ·have Hn:=zh (Hx.out.trans (onF_no (f:=f) (k:=k) (a:=t) (l:=l) (t:=t) (λhh=>hh.2.2.1 (by rw[Hc.out];exact h1))).symm)
      go_wp2_with fail
      exact⟨⟨t+1,(x1,x2),by go_num,by omega,rfl,rfl,Hn,HB4⟩,by simp[intOf];omega⟩
     ·by_cases h2:x1 = -1
      ·have Hn:=zh (show (c,t)=onF f k t l (t+1) from by rw[onF_yes ⟨Hp.out,hf,by rw[Hc.out];exact h1,.inl (by rw[Hx1.out];exact h2)⟩,Hc.out])
       go_wp2_with fail
       exact⟨⟨t+1,(c,t),by go_num,by omega,rfl,rfl,Hn,HB4⟩,by simp[intOf];omega⟩
      ·by_cases h3:c<x1
       ·have Hn:=zh (show (c,t)=onF f k t l (t+1) from by rw[onF_yes ⟨Hp.out,hf,by rw[Hc.out];exact h1,.inr (by rw[Hx1.out,Hc.out];exact h3)⟩,Hc.out])
        go_wp2_with fail
        exact⟨⟨t+1,(c,t),by go_num,by omega,rfl,rfl,Hn,HB4⟩,by simp[intOf];omega⟩
       ·have Hn:=zh (Hx.out.trans (onF_no (f:=f) (k:=k) (a:=t) (l:=l) (t:=t) (λhh=>hh.2.2.2.elim (λh=>h2 (by rw[← Hx1.out];exact h)) (λh=>h3 (by rw[Hx1.out,Hc.out] at h;exact h)))).symm)
        have h4:(x1 == -1)=false:=by simpa using h2
        have h6:(c != -1)=true:=by simpa using h1
        have h5:decide (c<x1)=false:=decide_eq_false h3
        clear h3
        go_wp2_with fail
        exact⟨⟨t+1,(x1,x2),by go_num,by omega,rfl,rfl,Hn,HB4⟩,by simp[intOf];omega⟩
   ·have i2:¬ (t:Int)=(a:Int):=by omega
    have HL0:=zh (leftF_ne (a:=a) (l:=l) he)
    rcases Nat.eq_zero_or_pos l with h0|h0
    ·have i3:(l:Int)-1<0:=by omega
     have Hn:=zh (Hx.out.trans (onF_no (f:=f) (k:=k) (a:=a) (l:=l) (t:=t) (λhh=>by have:=hh.1;rw[HL0.out] at this;omega)).symm)
     have h0i:(l:Int)=0:=by omega
     clear h0
     go_wp2_with fail
     exact⟨⟨t+1,(x1,x2),by go_num,by omega,rfl,rfl,Hn,HB⟩,by simp[intOf];omega⟩
    ·obtain⟨l2,hl2⟩:∃ l2:Nat,(l:Int)-1=(l2:Int):=⟨l-1,by omega⟩
     have HLF:=zh (HL0.out.trans hl2)
     clear HL0
     go_upto_region 8 with fail
     have i3:¬ ((l2:Nat):Int)<0:=by omega
     obtain⟨c,hc⟩:∃ c,f t l2=c:=⟨_,rfl⟩
     have Hc:=zh (show f t (leftF a l t).toNat=c from by rw[HLF.out,Int.toNat_natCast];exact hc)
     have Hp:=zh (show 0<=leftF a l t from by rw[HLF.out];omega)
     have i4:((l2:Nat):Int)<(c1:Int):=by omega
     clear hc
     cases hf:folB k a t with
     |false =>
      rw[hf] at Hfol
      have Hn:=zh (Hx.out.trans (onF_no (f:=f) (k:=k) (a:=a) (l:=l) (t:=t) (λhh=>by rw[hf] at hh;exact absurd hh.2.1 (by simp))).symm)
      go_wp2_with ((with_reducible refine Hfol.out.mono ?_);rintro e w3 ⟨rfl,hb3⟩)
      exact⟨⟨t+1,(x1,x2),by go_num,by omega,rfl,rfl,Hn,zh (HB3.out _ hb3)⟩,by simp[intOf];omega⟩
     |true =>
      rw[hf] at Hfol
      go_upto_region 9 with ((with_reducible refine Hfol.out.mono ?_);rintro e w3 ⟨rfl,hb3⟩;have HB4:=zh (HB3.out _ hb3);have HW3:=zh (HW.out.below hb3);clear hb3)
      clear u5 u7 us ut ur uc v3
      obtain⟨u5,u7,us,ut,ur,-,uc,uro⟩:=HW3.out
      obtain⟨cb,v1,v2,v3⟩:=uro t hlt
      have v4:=v3 l2 (by omega)
      rw[show f t l2=c from by have:=Hc.out;rwa [HLF.out,Int.toNat_natCast] at this] at v4
      clear uro v3
      have j1:((cu:Nat):Int)+1<(n:Int):=by omega
      go_upto_region 10 with fail
      by_cases h1:c = -1
      ·have Hn:=zh (Hx.out.trans (onF_no (f:=f) (k:=k) (a:=a) (l:=l) (t:=t) (λhh=>hh.2.2.1 (by rw[Hc.out];exact h1))).symm)
       go_wp2_with fail
       exact⟨⟨t+1,(x1,x2),by go_num,by omega,rfl,rfl,Hn,HB4⟩,by simp[intOf];omega⟩
      ·by_cases h2:x1 = -1
       ·have Hn:=zh (show (c,t)=onF f k a l (t+1) from by rw[onF_yes ⟨Hp.out,hf,by rw[Hc.out];exact h1,.inl (by rw[Hx1.out];exact h2)⟩,Hc.out])
        go_wp2_with fail
        exact⟨⟨t+1,(c,t),by go_num,by omega,rfl,rfl,Hn,HB4⟩,by simp[intOf];omega⟩
       ·by_cases h3:c<x1
        ·have Hn:=zh (show (c,t)=onF f k a l (t+1) from by rw[onF_yes ⟨Hp.out,hf,by rw[Hc.out];exact h1,.inr (by rw[Hx1.out,Hc.out];exact h3)⟩,Hc.out])
         go_wp2_with fail
         exact⟨⟨t+1,(c,t),by go_num,by omega,rfl,rfl,Hn,HB4⟩,by simp[intOf];omega⟩
        ·have Hn:=zh (Hx.out.trans (onF_no (f:=f) (k:=k) (a:=a) (l:=l) (t:=t) (λhh=>hh.2.2.2.elim (λh=>h2 (by rw[← Hx1.out];exact h)) (λh=>h3 (by rw[Hx1.out,Hc.out] at h;exact h)))).symm)
         have h4:(x1 == -1)=false:=by simpa using h2
         have h6:(c != -1)=true:=by simpa using h1
         have h5:decide (c<x1)=false:=decide_eq_false h3
         clear h3
         go_wp2_with fail
         exact⟨⟨t+1,(x1,x2),by go_num,by omega,rfl,rfl,Hn,HB4⟩,by simp[intOf];omega⟩
  ·obtain rfl:q=t:=by omega
   have i1:¬ (q:Int)<(q:Int):=by omega
   go_wp2_with fail
   exact HR.out (x1,x2) Hx.out _ HB.out
end
end
end
end Go.Proofs.YtjibohkeapdalaaGreatDoor
