/-
Plain; conditions: those of each theorem.
-/
import Derived.Test.YtgbnicokglpdbaaGreatDoorA0
import Derived.Deep.OwnRows
namespace Go.Proofs.YtgbnicokglpdbaaGreatDoor
set_option maxHeartbeats 4000000
set_option maxRecDepth 8000
section
structure Mv where
 f:ByteArray
 t:ByteArray
 i:ByteArray
 q:Int
abbrev Pl:=ByteArray×ByteArray
def sO(m:Mv)(p:Pl):Int:=(if (m.t,m.i)=p then m.q else 0)-(if (m.f,m.i)=p then m.q else 0)
def cR(e:List Mv)(p:Pl):Int:=(e.map λm=>sO m p).sum
def bM(E:List (List Mv))(p:Pl):Int:=(E.map λe=>cR e p).sum
theorem G5(a b:List Mv)(p:Pl):cR (a++b) p=cR a p+cR b p:=by
 unfold cR
 rw[List.map_append,List.sum_append]
theorem qX(m:Mv)(b:List Mv)(p:Pl):cR (m :: b) p=sO m p+cR b p:=by
 unfold cR
 rw[List.map_cons,List.sum_cons]
theorem EK(m:Mv)(b:List Mv)(p:Pl):cR (b++[m]) p=cR b p+sO m p:=by
 rw[G5,qX]
 show _+(_+0)=_
 omega
theorem uE(E:List (List Mv))(e:List Mv)(p:Pl):bM (E++[e]) p=bM E p+cR e p:=by
 unfold bM
 rw[List.map_append,List.sum_append,List.map_singleton,List.sum_singleton]
def ni:Int:=1099511627776
def kV(a:ByteArray):Bool:=[111,117,116].isPrefixOf a.data.toList
def nv(p:Pl)(n:Int):Prop := -ni<=n/\n<=ni/\(n<0->kV p.1=true)
def jH(E:List (List Mv)):Prop:=∀ k p,k<=E.length->nv p (bM (E.take k) p)
theorem jH.nil:jH []:=by
 intro k p _
 have:bM (([]:List (List Mv)).take k) p=0:=by rw[List.take_nil];rfl
 rw[this]
 exact⟨by decide,by decide,λh=>absurd h (by decide)⟩
theorem jH.now{E:List (List Mv)}(h:jH E)(p:Pl):nv p (bM E p):=by
 have:=h E.length p (Nat.le_refl _)
 rwa [List.take_length] at this
theorem jH.snoc{E:List (List Mv)}{e:List Mv}(h:jH E)(he:∀ p,nv p (bM E p+cR e p)):jH (E++[e]):=by
 intro k p hk
 rw[List.length_append,List.length_singleton] at hk
 rcases Nat.lt_or_ge E.length k with h1|h1
 ·rw[List.take_of_length_le (by rw[List.length_append,List.length_singleton];omega),uE]
  exact he p
 rw[List.take_append_of_le_length h1]
 exact h k p h1
def tS(c:UInt8):Bool:=decide (97<=c.toNat)&&decide (c.toNat<=122)
def AX(c:UInt8):Bool:=decide (48<=c.toNat)&&decide (c.toNat<=57)
def mD:Bool->List UInt8->Bool
 |_,[]=>true
 |b,c :: r=>(tS c||(!b&&AX c))&&mD false r
def gq(s:ByteArray):Bool:=decide (1<=s.size)&&decide (s.size<=12)&&mD true s.data.toList
def fy(m:Mv):Bool:=gq m.f&&gq m.t&&gq m.i && !decide (m.f=m.t)&&decide (1<=m.q)&&decide (m.q<=1000000000)
def eq(l:List Mv):Bool:=l.all fy&&decide (1<=l.length)&&decide (l.length<=32)
def fN(l:List Mv):List Pl:=l.flatMap λm=>[(m.f,m.i),(m.t,m.i)]
theorem Du(m:Mv)(l:List Mv):fN (m :: l)=(m.f,m.i) :: (m.t,m.i) :: fN l:=rfl
theorem zQ{l:List Mv}{p:Pl}(h:p ∉ fN l):cR l p=0:=by
 induction l with
 |nil=>rfl
 |cons m l ih =>
  rw[Du] at h
  simp only[List.mem_cons,not_or] at h
  rw[qX,ih h.2.2]
  unfold sO
  rw[if_neg (λe=>h.2.1 e.symm),if_neg (λe=>h.1 e.symm)]
  rfl
def jt(b:Pl->Int)(l:List Mv):List Pl->Int->Int
 |[],e=>e
 |p :: r,e=>if ni<b p+cR l p\/b p+cR l p < -ni then 5 else jt b l r (if b p+cR l p<0/\kV p.1=false then 10 else e)
def pP(b:Pl->Int)(l:List Mv):Int:=jt b l (fN l) 0
theorem Dx{b:Pl->Int}{l:List Mv}:∀ {r:List Pl} {e:Int},jt b l r e=0->e=0/\∀ p∈r,nv p (b p+cR l p)
 |[],e,h=>⟨h,λp hp=>by cases hp⟩
 |p :: r,e,h=>by
  unfold jt at h
  split at h
  ·cases h
  rename_i hn
  obtain⟨h1,h2⟩:=Dx h
  split at h1
  ·cases h1
  rename_i hs
  refine⟨h1,λp' hp=>?_⟩
  rcases List.mem_cons.1 hp with rfl|hp
  ·refine⟨by omega,by omega,λc6=>?_⟩
   cases ho:kV p'.1
   ·exact absurd ⟨c6,ho⟩ hs
   rfl
  exact h2 p' hp
theorem Ay{b:Pl->Int}{l:List Mv}:∀ {r:List Pl},(∀ p∈r,nv p (b p+cR l p))->jt b l r 0=0
 |[],_=>rfl
 |p :: r,h=>by
  unfold jt
  obtain⟨h1,h2,h3⟩:=h p List.mem_cons_self
  rw[if_neg (by omega),if_neg (λh=>by rw[h3 h.1] at h;exact absurd h.2 (by decide))]
  exact Ay λp' hp=>h p' (List.mem_cons_of_mem _ hp)
theorem yb{b:Pl->Int}{l:List Mv}(hb:∀ p,nv p (b p)):pP b l=0 ↔ ∀ p,nv p (b p+cR l p):=by
 constructor
 ·intro h p
  by_cases hp:p∈fN l
  ·exact (Dx h).2 p hp
  rw[zQ hp];simpa using hb p
 intro h
 exact Ay λp _=>h p
theorem oG(b:Pl->Int)(l:List Mv):∀ (r:List Pl) (e:Int),jt b l r e=5\/jt b l r e=10\/jt b l r e=e
 |[],e=>.inr (.inr rfl)
 |p :: r,e=>by
  unfold jt
  split
  ·exact .inl rfl
  split
  ·rcases oG b l r 10 with h|h|h
   ·exact .inl h
   ·exact .inr (.inl h)
   exact .inr (.inl h)
  exact oG b l r e
def gH(n:Nat):Nat->List UInt8
 |0=>[]
 |k+1=>UInt8.ofNat (n/256 ^ k) :: gH n k
theorem jX(n:Nat):∀ k,(gH n k).length=k
 |0=>rfl
 |k+1=>by unfold gH;rw[List.length_cons,jX n k]
def dV(s:ByteArray):List UInt8:=UInt8.ofNat s.size :: s.data.toList
def kR(m:Mv):List UInt8:=dV m.f++dV m.t++dV m.i++gH m.q.toNat 4
def jh(l:List Mv):List UInt8:=UInt8.ofNat l.length :: l.flatMap kR
def oK(s:Nat)(c:UInt8):Nat:=(((s*32)%4294967296+s/134217728)*31+c.toNat)%4294967296
def pV(b:List UInt8):Nat:=b.foldl oK ((b.length+1)%4294967296)
def aE(l:List Mv):List UInt8:=gH (jh l).length 2++gH (pV (jh l)) 4++jh l
theorem qZ(s:ByteArray):(dV s).length=s.size+1:=by unfold dV;rw[List.length_cons,Array.length_toList];rfl
theorem EL(m:Mv):(kR m).length=m.f.size+m.t.size+m.i.size+7:=by
 unfold kR
 rw[List.length_append,List.length_append,List.length_append,qZ,qZ,qZ,jX]
 omega
def tU(l:List Mv):Nat:=(l.map λm=>m.f.size+m.t.size+m.i.size+7).sum
theorem qY(l:List Mv):(aE l).length=7+tU l:=by
 unfold aE jh tU
 rw[List.length_append,List.length_append,jX,jX,List.length_cons]
 have:(l.flatMap kR).length=(l.map λm=>m.f.size+m.t.size+m.i.size+7).sum:=by
  rw[List.length_flatMap]
  congr 1
  exact List.map_congr_left λm _=>EL m
 omega
theorem Dg(m:Mv)(l:List Mv):tU (m :: l)=m.f.size+m.t.size+m.i.size+7+tU l:=by
 unfold tU
 rw[List.map_cons,List.sum_cons]
theorem Ag{l:List Mv}(h:∀ m∈l,fy m=true):tU l<=43*l.length:=by
 induction l with
 |nil=>exact Nat.le_refl _
 |cons m l ih =>
  rw[Dg,List.length_cons]
  have h1:=ih λx hx=>h x (List.mem_cons_of_mem _ hx)
  have h2:=h m List.mem_cons_self
  unfold fy gq at h2
  simp only[Bool.and_eq_true,decide_eq_true_eq] at h2
  omega
structure Dk where
 B:List UInt8
 safe:Nat
 down:Bool
 left:Nat
def Dk.new:Dk:=⟨[],0,false,0⟩
def Dk.act(d:Dk):Dk×Bool:=if d.left=0 then (d,false) else ({ d with left:=d.left-1,down:=decide (d.left-1=0) },decide (d.left-1=0))
def Dk.app(d:Dk)(x:List UInt8):Dk×Int:=
 if d.down then (d,11) else if 65536-d.B.length<x.length then (d,9) else
  ({ d with B:=d.B++x }.act.1,if { d with B:=d.B++x }.act.2 then 11 else 0)
def Dk.sync(d:Dk):Dk×Int:=
 if d.down then (d,11) else if d.act.2 then (d.act.1,11) else ({ d.act.1 with safe:=d.act.1.B.length },0)
def Dk.Ok(d:Dk):Prop:=d.B.length<=65536/\d.safe<=d.B.length/\d.left<1000000000000
structure Bk where
 E:List (List Mv)
 br:Bool
def Bk.would(b:Bk)(l:List Mv):Int:=if b.br then 8 else if eq l then pP (bM b.E) l else 1
def aN(d:Dk)(b:Bk)(l:List Mv):Dk×Bk×Int:=
 if b.would l≠0 then (d,b,b.would l) else
 if (d.app (aE l)).2=9 then (d,b,9) else
 if (d.app (aE l)).2≠0 then ((d.app (aE l)).1,⟨b.E,true⟩,(d.app (aE l)).2) else
 if ((d.app (aE l)).1.sync).2≠0 then ((d.app (aE l)).1.sync.1,⟨b.E,true⟩,(d.app (aE l)).1.sync.2) else
 ((d.app (aE l)).1.sync.1,⟨b.E++[l],b.br⟩,0)
end
section
open Go.RowKit
structure Kx(S:Nat->Prop)(W W':World):Prop where
 os:W'.os=W.os
 tape:W'.tape=W.tape
 output:W'.output=W.output
 size:W.heap.size<=W'.heap.size
 block:∀ j,j<W.heap.size->¬ S j->W'.heap[j]?=W.heap[j]?
section
variable{S T:Nat->Prop}{A B C:World}
theorem Kx.refl(S:Nat->Prop)(W:World):Kx S W W:=⟨rfl,rfl,rfl,Nat.le_refl _,λ_ _ _=>rfl⟩
theorem Kx.trans(h:Kx S A B)(k:Kx T B C)(hs:∀ j,j<A.heap.size->T j->S j):Kx S A C:=
 ⟨k.os.trans h.os,k.tape.trans h.tape,k.output.trans h.output,Nat.le_trans h.size k.size,λj hj hn=>(k.block j (Nat.lt_of_lt_of_le hj h.size) (λht=>hn (hs j hj ht))).trans (h.block j hj hn)⟩
theorem Kx.mono(h:Kx S A B)(hs:∀ j,S j->T j):Kx T A B:=⟨h.os,h.tape,h.output,h.size,λj hj hn=>h.block j hj (λht=>hn (hs j ht))⟩
theorem Kx.drewN(h:Kx S A B)(q:Nat):Kx S A (B.drewN q):=⟨h.os,h.tape,h.output,h.size,h.block⟩
theorem Kx.drewV(h:Kx S A B):Kx S A B.drew:=h.drewN 1
theorem Kx.grown{row:Option Nat}(h:Kx S A B)(hg:B.grownBy C row)(hs:∀ j,row=some j->S j\/A.heap.size<=j):Kx S A C:=
 ⟨hg.os.trans h.os,hg.tape.trans h.tape,hg.output.trans h.output,Nat.le_trans h.size hg.size,λj hj hn=>(hg.block j (Nat.lt_of_lt_of_le hj h.size) (λe=>by
  rcases hs j e.symm with h'|h'
  ·exact hn h'
  omega)).trans (h.block j hj hn)⟩
theorem Kx.below(h:Kx S A B)(hb:Below B.heap.size B C):Kx S A C:=
 ⟨hb.os.trans h.os,hb.tape.trans h.tape,hb.output.trans h.output,Nat.le_trans h.size hb.size,λj hj hn=>(hb.block j (Nat.lt_of_lt_of_le hj h.size)).trans (h.block j hj hn)⟩
theorem Kx.low{w:World}{b:Nat}(hb:Below b w A)(h:Kx S A B)(hs:∀ j,S j->b<=j)(dt:b<=A.heap.size):Below b w B:=
 ⟨h.os.trans hb.os,h.tape.trans hb.tape,h.output.trans hb.output,Nat.le_trans hb.size h.size,λj hj=>(h.block j (by omega) (λht=>by have:=hs j ht;omega)).trans (hb.block j hj)⟩
end
theorem bz{S:Nat->Prop}{W W':World}{b:Nat}(h:Kx S W W')(hs:S b)(k:Nat)(v:Value):Kx S W (W'.setCell ⟨b,k,none⟩ v):=
 ⟨h.os,h.tape,h.output,by have:=h.size;simpa[World.setCell] using this,λj hj hn=>(Below.heap_setCell W' ⟨b,k,none⟩ v j (λe=>hn (e ▸ hs))).trans (h.block j hj hn)⟩
end
section
section
open Go.RowKit
theorem aY{W:World}{b:Nat}{t:TypeId}{u0 u1 u2 u3 u4:Value}(h:W.heap[b]?=some (.cells #[u0,u1,u2,u3,u4] t (0,0))) :
 W.cell? ⟨b,0,none⟩=some u0/\W.cell? ⟨b,1,none⟩=some u1/\W.cell? ⟨b,2,none⟩=some u2/\W.cell? ⟨b,3,none⟩=some u3/\W.cell? ⟨b,4,none⟩=some u4/\(∀ j,W.frozen? ⟨b,j,none⟩=false):=
 ⟨by rw[cell_of_row _ _ 0 _ _ (0,0) h];rfl,by rw[cell_of_row _ _ 1 _ _ (0,0) h];rfl,by rw[cell_of_row _ _ 2 _ _ (0,0) h];rfl,by rw[cell_of_row _ _ 3 _ _ (0,0) h];rfl,by rw[cell_of_row _ _ 4 _ _ (0,0) h];rfl,λj=>by simp[World.frozen?,h]⟩
theorem aA{W:World}{b i:Nat}{C:Array Value}{ty:TypeId}{v:Value}(h:W.heap[b]?=some (.cells C ty (0,0))):(W.setCell ⟨b,i,none⟩ v).heap[b]?=some (.cells (C.setIfInBounds i v) ty (0,0)):=by
 simp only[World.setCell,Array.getElem?_modify,h]
 simp
theorem al{W:World}{a b i:Nat}{v:Value}(h:a≠b):(W.setCell ⟨b,i,none⟩ v).heap[a]?=W.heap[a]?:=Below.heap_setCell W ⟨b,i,none⟩ v a h
def eX(c:UInt8):List Value:=[.int .u8 (c.toNat:Int)]
theorem zJ(c:UInt8):(eX c).length=1:=rfl
theorem Cs(l:List UInt8):∀ u∈l.flatMap eX,u.oneCell'=true:=by
 intro u hu
 obtain⟨x,_,hx⟩:=List.mem_flatMap.1 hu
 simp only[eX,List.mem_cons,List.not_mem_nil,or_false] at hx
 subst hx
 rfl
def Up(W:World)(F:Nat->Prop):Prop:=∀ b,W.heap.size<=b->F b
theorem Up.kx{W w:World}{S F:Nat->Prop}(h:Up W F)(k:Kx S W w):Up w F:=λb hb=>h b (Nat.le_trans k.size hb)
theorem Up.below{W w:World}{F:Nat->Prop}(h:Up W F){b:Nat}(k:Below b W w):Up w F:=λb hb=>h b (Nat.le_trans k.size hb)
theorem ar{W w:World}{S:Nat->Prop}(h:Below W.heap.size W w):Kx S W w:=⟨h.os,h.tape,h.output,h.size,λj hj _=>h.block j hj⟩
def ux(W:World)(F:Nat->Prop)(a:Nat):Nat->Prop:=λj=>j=a\/F j/\∃ C,W.heap[j]?=some (.cells C 5 (0,0))
def uR(v:Value)(d:Dk):Array Value:=#[.bool true,v,.int .i64 (d.safe:Int),.bool d.down,.int .i64 (d.left:Int)]
def cJ(W:World)(F:Nat->Prop)(a:Nat)(d:Dk):Prop:=
 d.Ok/\F a/\∃ A c,W.heap[a]?=some (.cells (uR (.slice A d.B.length c) d) 103 (0,0))/\
  W.ownsRow 0 5 1 (.slice A d.B.length c) d.B.length (d.B.flatMap eX)/\∀ g,(Value.slice A d.B.length c).ownBlock=some g->F g
section
variable{W w:World}{F S:Nat->Prop}{a:Nat}{d:Dk}
theorem aH{W w:World}{base e sz n:Nat}{v:Value}{xs:List Value}(h:W.ownsRow base e sz v n xs)(hk:∀ g,v.ownBlock=some g->w.heap[g]?=W.heap[g]?):w.ownsRow base e sz v n xs:=by
 refine⟨h.1,?_⟩
 rcases h.2 with h0|⟨g,c,cur,hv,h1,h2,h3⟩
 ·exact .inl h0
 subst hv
 exact .inr ⟨g,c,cur,rfl,h1,(hk g (by simp[Value.ownBlock])).trans h2,h3⟩
theorem kF{W:World}{base e sz n:Nat}{v:Value}{xs:List Value}(h:W.ownsRow base e sz v n xs){g:Nat}(hg:v.ownBlock=some g):g<W.heap.size:=(h.lt g hg).2
theorem cJ.keep(h:cJ W F a d)(hk:∀ b,F b->b<W.heap.size->w.heap[b]?=W.heap[b]?):cJ w F a d:=by
 obtain⟨h0,h1,A,c,h2,h3,h4⟩:=h
 exact⟨h0,h1,A,c,(hk a h1 (Array.getElem?_eq_some_iff.1 h2).1).trans h2,aH h3 λg hg=>hk g (h4 g hg) (kF h3 hg),h4⟩
theorem cJ.below(h:cJ W F a d)(k:Below W.heap.size W w):cJ w F a d:=h.keep λb _ hb=>k.block b hb
end
theorem pO(w:World)(F:Nat->Prop)(a:Nat)(d:Dk)(h:cJ w F a d):Calls Tryz.prog 30 #[.pointer (some ⟨a,0,none⟩)] w λe w'=>e=.returned (.int .i64 (if d.down then 11 else 0))/\w=w':=by
 obtain⟨_,_,A,c,h2,_,_⟩:=h
 obtain⟨B,sf,dn,lf⟩:=d
 unfold uR at h2
 dsimp only at h2
 obtain⟨c0,c1,c2,c3,c4,-⟩:=aY h2
 clear h2
 cases dn
 ·go_enter Tryz.func30,Tryz.ntmps30
  go_wp2
  go_ret
  exact⟨rfl,rfl⟩
 go_enter Tryz.func30,Tryz.ntmps30
 go_wp2
 go_ret
 exact⟨rfl,rfl⟩
theorem aI(W:World)(b i:Nat)(v:Value):Kx (λj=>j=b) W (W.setCell ⟨b,i,none⟩ v):=bz (S:=λj=>j=b) (Kx.refl _ W) rfl i v
theorem cJ.set{w:World}{F:Nat->Prop}{a:Nat}{d':Dk}{A:Option Addr}{c i:Nat}{v:Value}{C:Array Value}(hf:F a)(hd:d'.Ok)(h:w.heap[a]?=some (.cells C 103 (0,0)))(hC:C.setIfInBounds i v=uR (.slice A d'.B.length c) d')
 (ho:w.ownsRow 0 5 1 (.slice A d'.B.length c) d'.B.length (d'.B.flatMap eX)) (hF:∀ g,(Value.slice A d'.B.length c).ownBlock=some g->F g) (aa:∀ g,(Value.slice A d'.B.length c).ownBlock=some g->g≠a):cJ (w.setCell ⟨a,i,none⟩ v) F a d':=
 ⟨hd,hf,A,c,by rw[← hC];exact aA h,aH ho λg hg=>al (aa g hg),hF⟩
theorem cZ{w:World}{a:Nat}{C:Array Value}{ty e:TypeId}{base sz n:Nat}{v:Value}{xs:List Value}(h:w.heap[a]?=some (.cells C ty (0,0)))(ho:w.ownsRow base e sz v n xs)(aa:e≠ty):∀ g,v.ownBlock=some g->g≠a:=by
 intro g hg e'
 subst e'
 rcases ho.2 with⟨rfl,_⟩|⟨g1,c1,cur1,rfl,_,hh,_⟩
 ·simp[Value.ownBlock] at hg
 have:g1=g:=by simpa[Value.ownBlock] using hg
 subst this
 rw[h] at hh
 simp only[Option.some.injEq,Obj.cells.injEq] at hh
 exact aa hh.2.1.symm
theorem xb(w:World)(F:Nat->Prop)(a:Nat)(d:Dk)(h:cJ w F a d):Calls Tryz.prog 75 #[.pointer (some ⟨a,0,none⟩)] w λe w'=>e=.returned (.bool d.act.2)/\cJ w' F a d.act.1/\Kx (λj=>j=a) w w':=by
 refine ae ?_
 intro R hR
 have hh:=h
 obtain⟨bi,hf,A,c,h2,ho,hg⟩:=h
 obtain⟨B,sf,dn,lf⟩:=d
 have aa:=cZ h2 ho (by decide)
 unfold uR at h2
 dsimp only at h2 ho hg aa
 obtain⟨c0,c1,c2,c3,c4,f0⟩:=aY h2
 by_cases h0:lf=0
 ·subst h0
  have HF:=zh (hR.out (.returned (.bool false)) w ⟨rfl,hh,Kx.refl _ _⟩)
  clear hR h2 ho hg aa hh bi
  go_enter Tryz.func75,Tryz.ntmps75
  go_wp2
  exact HF.out
 obtain⟨L,hL⟩:∃ L:Int,(lf:Int)=L:=⟨_,rfl⟩
 have a9:0<L:=by omega
 have cV:L<=1000000000000:=by have:=bi.2.2;dsimp only at this;omega
 have e0:(L==0)=false:=by rw[beq_eq_false_iff_ne];omega
 rw[hL] at c4
 have HF:∀ p:Bool,p=decide (lf-1=0)->Hid (R (.returned (.bool p)) ((w.setCell ⟨a,4,none⟩ (.int .i64 (L-1))).setCell ⟨a,3,none⟩ (.bool p))):=by
  intro p hp
  refine zh (hR.out _ _ ⟨?_,?_,?_⟩)
  ·unfold Dk.act
   rw[if_neg h0,hp]
  ·unfold Dk.act
   rw[if_neg h0]
   have h3:=aA (i:=4) (v:=.int .i64 (L-1)) h2
   refine cJ.set (A:=A) (c:=c) (C:=#[.bool true,.slice A B.length c,.int .i64 (sf:Int),.bool dn,.int .i64 (L-1)]) hf ⟨bi.1,bi.2.1,by have:=bi.2.2;dsimp only at this ⊢;omega⟩ h3 ?_ (aH ho λg bw=>al (aa g bw)) hg aa
   unfold uR
   dsimp only
   rw[← hp,show ((lf-1:Nat):Int)=L-1 by omega]
   rfl
  exact (aI w a 4 _).trans (aI _ a 3 _) (λ_ _ h=>h)
 have H1:=HF (decide (lf-1=0)) rfl
 clear HF hR h2 ho hg aa hh bi
 by_cases h1:lf=1
 ·have e1:L=1:=by omega
  subst e1
  rw[show decide (lf-1=0)=true from decide_eq_true (by omega)] at H1
  clear hL h0 h1 a9 cV e0
  go_enter Tryz.func75,Tryz.ntmps75
  go_wp2
  exact H1.out
 have e1:(L-1==0)=false:=by rw[beq_eq_false_iff_ne];omega
 rw[show decide (lf-1=0)=false from decide_eq_false (by omega)] at H1
 clear hL h0 h1
 go_enter Tryz.func75,Tryz.ntmps75
 go_wp2
 exact H1.out
theorem sE:(Tryz.prog.info? 5).map (λi=>(i.zero,i.size,i.bytes))=some (some (.int .u8 0),1,1):=by kernel_rfl
theorem mW:au Tryz.prog 101 5 1 1:=au.of (z:=.int .u8 0) Tryz.underlying101 sE rfl (by omega)
theorem a8{w:World}{base e sz n g:Nat}{v:Value}{xs:List Value}(h:w.ownsRow base e sz v n xs)(hg:v.ownBlock=some g):∃ C,w.heap[g]?=some (.cells C e (0,0)):=by
 rcases h.2 with⟨rfl,_⟩|⟨g1,c1,cur1,rfl,_,hh,_⟩
 ·simp[Value.ownBlock] at hg
 have:g1=g:=by simpa[Value.ownBlock] using hg
 subst this
 exact⟨_,hh⟩
theorem GQ{w w1:World}{F:Nat->Prop}{a n:Nat}{A0 A':Option Addr}{c0 c1:Nat}{B x:List UInt8}{sf lf:Nat}(hu:Up w F)(hf:F a)(ok1:B.length<=65536)(ok2:sf<=B.length)(ok3:lf<1000000000000)(hn:n=x.length)(hb:n<=65536-B.length)
 (h2:w.heap[a]?=some (.cells #[.bool true,.slice A0 B.length c0,.int .i64 (sf:Int),.bool false,.int .i64 (lf:Int)] 103 (0,0)))
 (hg:∀ g,(Value.slice A0 B.length c0).ownBlock=some g->F g) (aa:∀ g,(Value.slice A0 B.length c0).ownBlock=some g->g≠a)
 (c8:w.ownsRow 0 5 1 (.slice A0 B.length c0) B.length (B.flatMap eX)) (ho:w1.ownsRow 0 5 1 (.slice A' (B.length+n) c1) (B.length+n) (B.flatMap eX++x.flatMap eX)) (ad:w.grownBy w1 (Value.slice A0 B.length c0).ownBlock)
 (a9:(Value.slice A' (B.length+n) c1).ownBlock=(Value.slice A0 B.length c0).ownBlock\/(Value.slice A' (B.length+n) c1).ownBlock=some w.heap.size) :
 w1.heap[a]?=some (.cells #[.bool true,.slice A0 B.length c0,.int .i64 (sf:Int),.bool false,.int .i64 (lf:Int)] 103 (0,0))/\
 cJ (w1.setCell ⟨a,1,none⟩ (.slice A' (B.length+n) c1)) F a ⟨B++x,sf,false,lf⟩/\Kx (ux w F a) w (w1.setCell ⟨a,1,none⟩ (.slice A' (B.length+n) c1)):=by
 have hl:B.length+n=(B++x).length:=by rw[List.length_append,hn]
 have ha:a<w.heap.size:=(Array.getElem?_eq_some_iff.1 h2).1
 have h3:=(ad.block a ha λe=>aa a e.symm rfl).trans h2
 have hF:∀ g,(Value.slice A' (B.length+n) c1).ownBlock=some g->F g:=λg bw=>by
  rcases a9 with h|h
  ·exact hg g (h ▸ bw)
  rw[h] at bw
  cases bw
  exact hu _ (Nat.le_refl _)
 refine⟨h3,?_,((Kx.refl (ux w F a) w).grown ad λj hj=>.inl (.inr ⟨hg j hj,a8 c8 hj⟩)).trans (aI _ a 1 _) λj _ hj=>.inl hj⟩
 rw[hl] at ho hF ⊢
 refine cJ.set (A:=A') (c:=c1) hf ⟨by show (B++x).length<=65536;omega,by show sf<=(B++x).length;omega,ok3⟩ h3 rfl ?_ hF (cZ h3 ho (by decide))
 rw[List.flatMap_append]
 exact ho
theorem qU(w:World)(F:Nat->Prop)(a:Nat)(d:Dk)(h:cJ w F a d)(hu:Up w F)(A:Option Addr)(n c:Nat)(x:List UInt8)(hx:ag eX 1 w A n x)(_hn:n<=1000000) :
 Calls Tryz.prog 314 #[.pointer (some ⟨a,0,none⟩),.slice A n c] w λe w'=>e=.returned (.int .i64 (d.app x).2)/\cJ w' F a (d.app x).1/\Kx (ux w F a) w w':=by
 refine ae ?_
 intro R hR
 have hh:=h
 obtain⟨bi,hf,A0,c',h2,ho,hg⟩:=h
 obtain⟨B,sf,dn,lf⟩:=d
 have aa:=cZ h2 ho (by decide)
 have hd:=pO w F a _ hh
 have bp:=hx.1
 obtain⟨ok1,ok2,ok3⟩:=bi
 unfold uR at h2
 dsimp only at h2 ho hg aa hd ok1 ok2 ok3
 obtain⟨c0,c1,c2,c3,c4,f0⟩:=aY h2
 cases dn
 ·rcases Nat.lt_or_ge (65536-B.length) n with hb|hb
  ·have HF:=zh (hR.out (.returned (.int .i64 9)) w (by
    unfold Dk.app
    rw[if_neg (by simp),if_pos (by rw[← bp];exact hb)]
    exact⟨rfl,hh,Kx.refl _ _⟩))
   have i1:(n:Int) > 65536-(B.length:Int):=by omega
   have HD:=zh hd
   clear hR h2 ho hg aa hh hx bp hd
   go_enter Tryz.func314,Tryz.ntmps314
   go_wp2_with (go_at_call 30;(with_reducible refine (HD.out).mono ?_);rintro e w' ⟨rfl,rfl⟩)
   exact HF.out
  have i1:¬ (n:Int) > 65536-(B.length:Int):=by omega
  have e1:(({ B:=B,safe:=sf,down:=false,left:=lf }:Dk).app x)=(({ B:=B++x,safe:=sf,down:=false,left:=lf }:Dk).act.1,if ({ B:=B++x,safe:=sf,down:=false,left:=lf }:Dk).act.2 then 11 else 0):=by
   unfold Dk.app
   rw[if_neg (by simp),if_neg (by dsimp only;omega)]
  rw[e1] at hR
  have HD:=zh hd
  have HO:=zh ho
  have HX:=zh hx
  have Hg:=zh hg
  have dq:=zh aa
  have Hr:=zh hR
  have ds:=zh bp
  have HS:=zh (λ(A':Option Addr) (c1:Nat) (w1:World) h1 h3 h4=>GQ (A':=A') (c1:=c1) (w1:=w1) hu hf ok1 ok2 ok3 bp hb h2 hg aa ho h1 h3 h4)
  clear hR ho hg aa hx bp hd e1 hh h2
  go_enter Tryz.func314,Tryz.ntmps314
  go_wp2_with (first
   |(go_at_call 30;(with_reducible refine (HD.out).mono ?_);rintro e w' ⟨rfl,rfl⟩)
   |(at_builtin;refine ax rfl (.tmp 24) (.tmp 25) _ rfl mW 0 _ _ _ rfl HO.out _ _ _ _ rfl HX.out.2 (Cs _) (by unfold maxLen;omega) (by omega) (Nat.zero_le _) ?_;intro A' c1' w1 bc ad a9;obtain⟨cp,cq,cr⟩:=HS.out A' c1' w1 bc ad a9;obtain⟨c0,c1,c2,c3,c4,f0⟩:=aY cp;have cA:=zh cq;have cC:=zh cr;clear cp cq cr bc ad a9)
   |(go_at_call 75;(with_reducible refine (xb _ _ _ _ cA.out).mono ?_);rintro e w3 ⟨rfl,b6,b7⟩))
  all_goals
   refine Hr.out.out _ _ ⟨?_,b6,cC.out.trans b7 (λ_ _ e=>.inl e)⟩
   first
    |(rw[if_pos (by assumption)];rfl)
    |(rw[if_neg (by simp[*])];rfl)
 have HF:=zh (hR.out (.returned (.int .i64 11)) w (by
  unfold Dk.app
  rw[if_pos rfl]
  exact⟨rfl,hh,Kx.refl _ _⟩))
 have HD:=zh hd
 clear hR h2 ho hg aa hh hx bp hd
 go_enter Tryz.func314,Tryz.ntmps314
 go_wp2_with (go_at_call 30;(with_reducible refine (HD.out).mono ?_);rintro e w' ⟨rfl,rfl⟩)
 exact HF.out
theorem uS(w:World)(F:Nat->Prop)(a:Nat)(d:Dk)(h:cJ w F a d):Calls Tryz.prog 34 #[.pointer (some ⟨a,0,none⟩)] w λe w'=>e=.returned (.int .i64 d.sync.2)/\cJ w' F a d.sync.1/\Kx (λj=>j=a) w w':=by
 refine ae ?_
 intro R hR
 have HD:=zh (pO w F a _ h)
 have HA:=zh (xb w F a _ h)
 cases hdn:d.down
 ·have HH:=zh hdn
  rw[hdn] at HD
  unfold Dk.sync at hR
  rw[hdn,if_neg (by simp)] at hR
  have Hr:=zh hR
  clear hR hdn h
  go_enter Tryz.func34,Tryz.ntmps34
  go_wp2_with (first
   |(go_at_call 30;(with_reducible refine (HD.out).mono ?_);rintro e w' ⟨rfl,rfl⟩)
   |(go_at_call 75;(with_reducible refine (HA.out).mono ?_);rintro e w3 ⟨rfl,b6,b7⟩;have cd:=zh b6;obtain⟨-,-,A3,k3,q3,-,-⟩:=b6;obtain⟨d0,d1,d2,d3,d4,e3⟩:=aY q3;clear q3))
  ·rename_i h1
   exact Hr.out.out _ _ (by rw[if_pos h1];exact⟨rfl,cd.out,b7⟩)
  rename_i h1
  have h1:d.act.2=false:=by simpa using h1
  refine Hr.out.out _ _ ?_
  rw[if_neg (by rw[h1];decide)]
  refine⟨rfl,?_,b7.trans (aI _ a 2 _) (λ_ _ h=>h)⟩
  obtain⟨ok,hf,A,c,h2,ho,hg⟩:=cd.out
  have aa:=cZ h2 ho (by decide)
  have dx:A3=A/\k3=c:=by
   have:=(aY h2).2.1
   rw[d1] at this
   simp only[Option.some.injEq,Value.slice.injEq] at this
   exact⟨this.1,this.2.2⟩
  exact cJ.set (A:=A) (c:=c) hf ⟨ok.1,Nat.le_refl _,ok.2.2⟩ h2 rfl ho hg aa
 have HF:=zh (hR.out (.returned (.int .i64 11)) w (by
  unfold Dk.sync
  rw[if_pos hdn]
  exact⟨rfl,h,Kx.refl _ _⟩))
 rw[hdn] at HD
 clear hR h hdn HA
 go_enter Tryz.func34,Tryz.ntmps34
 go_wp2_with (go_at_call 30;(with_reducible refine (HD.out).mono ?_);rintro e w' ⟨rfl,rfl⟩)
 exact HF.out
theorem cJ.kx_ty{w w':World}{S F:Nat->Prop}{a:Nat}{d:Dk}(h:cJ w F a d)(k:Kx S w w')(h1:∀ C,w.heap[a]?=some (.cells C 103 (0,0))->¬ S a)(h2:∀ j C,w.heap[j]?=some (.cells C 5 (0,0))->¬ S j):cJ w' F a d:=by
 obtain⟨q0,q1,A,c,q2,q3,q4⟩:=h
 refine⟨q0,q1,A,c,(k.block a (Array.getElem?_eq_some_iff.1 q2).1 (h1 _ q2)).trans q2,aH q3 λg hg=>?_,q4⟩
 obtain⟨C,hC⟩:=a8 q3 hg
 exact k.block g (Array.getElem?_eq_some_iff.1 hC).1 (h2 g C hC)
theorem vk(w:World)(F:Nat->Prop)(hu:Up w F):Calls Tryz.prog 12 #[] w λe w'=>e=.returned (.pointer (some ⟨w.heap.size,0,none⟩))/\cJ w' F w.heap.size Dk.new/\Below w.heap.size w w':=by
 refine ae ?_
 intro R hR
 have HF:=zh (hR.out (.returned (.pointer (some ⟨w.heap.size,0,none⟩))) (w.alloc (.cells #[.bool true,.slice none 0 0,.int .i64 0,.bool false,.int .i64 0] 103)) ⟨rfl,⟨⟨by decide,by decide,by decide⟩,hu _ (Nat.le_refl _),none,0,heap_alloc_new w _,World.ownsRow_nil _ _ _ _,λg hg=>by simp[Value.ownBlock] at hg⟩,ab w _⟩)
 clear hR
 go_enter Tryz.func12,Tryz.ntmps12
 go_wp2
 exact HF.out
end
end
section
section
open Go.RowKit
theorem uh(A:Option Addr)(m c n size B:Nat)(xs:List UInt8)(w:World)(ho:w.ownsRow B 5 1 (.slice A m c) m (xs.flatMap eX))(hB:B<=w.heap.size)(_hn:n<4294967296)(hs:size<=4)(hm:m<=100000) :
 Calls Tryz.prog 370 #[.slice A m c,.int .u32 (n:Int),.int .i64 (size:Int)] w λe w'=>∃ A' c',e=.returned (.slice A' (m+size) c')/\w'.ownsRow B 5 1 (.slice A' (m+size) c') (m+size) ((xs++gH n size).flatMap eX)/\Below B w w':=by
 refine ae ?_
 intro R hR
 have Hr:=zh hR.out
 have HO:=zh ho
 clear hR ho
 go_enter Tryz.func370,Tryz.ntmps370
 go_wp2_with fail
 go_loopw [0,7] (λs0 s7 wr=>∃ (k:Nat) (dn:List UInt8) (A':Option Addr) (c' l:Nat),k<=size/\s7=.int .i64 ((k:Int)-1)/\Hid (gH n size=dn++gH n k)/\s0=.slice A' l c'/\l<=100004/\Hid (l=m+(size-k))/\Hid (wr.ownsRow B 5 1 (.slice A' l c') l ((xs++dn).flatMap eX))/\Hid (Below B w wr)) (λ_ s7 _=>(intOf s7+1).toNat)
 case atStart=>exact⟨size,[],A,c,m,Nat.le_refl _,rfl,zh rfl,rfl,by omega,zh (by omega),zh (by rw[List.append_nil];exact HO.out),zh (Below.refl _ _)⟩
 obtain⟨k,dn,A',c',l,hk,rfl,Hp,rfl,hl,Hl,Ho,Hb⟩:=hrel
 cases k with
 |zero =>
  rw[show ((0:Nat):Int)-1 = -1 from rfl]
  have Hf:=zh (show R (.returned (.slice A' l c')) wr from Hr.out _ _ (by
   have cl:=Hl.out
   have hp:=Hp.out
   have ho:=Ho.out
   simp only[Nat.sub_zero] at cl
   subst cl
   simp only[gH,List.append_nil] at hp
   rw[← hp] at ho
   exact⟨A',c',rfl,ho,Hb.out⟩))
  clear Hr HO Ho Hb Hp Hl
  go_wp2
  exact Hf.out
 |succ k =>
  rw[show (((k+1:Nat):Int)-1)=(k:Int) by omega]
  have i1:0<=8*(k:Int):=by omega
  have i2:8*(k:Int)<=24:=by omega
  have HA:∀ o,Hid ((wr.alloc o).ownsRow B 5 1 (.slice A' l c') l ((xs++dn).flatMap eX)):=λo=>zh (Ho.out.alloc o)
  have bj:=zh (Nat.le_trans hB Hb.out.size)
  go_wp2_with (at_builtin;refine ax rfl (.tmp 14) (.tmp 20) _ rfl mW B _ _ _ rfl (HA _).out _ _ _ _ rfl (Sl.newAt wr #[.int .u8 ((n:Int)/2 ^ (8*k)%256)] _ 1 1 rfl rfl) (by simp[Value.oneCell']) (by unfold maxLen;omega) (by omega) (by simp;exact Nat.le_succ_of_le bj.out) ?_;intro A2 c2 w1 bc ad a9)
  refine⟨⟨k,dn++[UInt8.ofNat (n/256 ^ k)],A2,c2,l+1,by omega,rfl,zh ?_,rfl,by have:=Hl.out;omega,zh (by have:=Hl.out;omega),zh ?_,zh ?_⟩,by simp[intOf]⟩
  ·rw[Hp.out,gH,List.append_assoc];rfl
  ·have e:eX (UInt8.ofNat (n/256 ^ k))=[.int .u8 ((n:Int)/2 ^ (8*k)%256)]:=by
    unfold eX
    rw[UInt8.toNat_ofNat',show (256:Nat)=2 ^ 8 from rfl,← Nat.pow_mul]
    simp
   rw[← List.append_assoc,List.flatMap_append,List.flatMap_cons,e]
   simpa using bc
  exact aL (Hb.out.alloc bj.out _) ((HA _).out) (Nat.le_refl _) (by simp;exact Nat.le_succ_of_le bj.out) ad
theorem Jw(a b:Nat)(hb:b<32):(a*32) ||| b=a*32+b:=by
 have:=Nat.two_pow_add_eq_or_of_lt (i:=5) (b:=b) (by simpa using hb) a
 rw[show 2 ^ 5*a=a*32 by omega] at this
 exact this.symm
theorem FX(x:Nat)(hx:x<4294967296)(w:World) :
 Calls Tryz.prog 158 #[.int .u32 (x:Int),.int .i64 5] w λe w'=>e=.returned (.int .u32 (((x*32)%4294967296+x/134217728:Nat):Int))/\w=w':=by
 have e1:bits BinOp.and IntKind.u64 5 31=5:=by decide +kernel
 have ej:(x:Int)<4294967296:=by omega
 go_enter Tryz.func158,Tryz.ntmps158
 go_wp2_with fail
 go_ret
 refine⟨Az ?_,rfl⟩
 have e2:((x:Int)*32%4294967296)=((x*32%4294967296:Nat):Int):=by omega
 have e3:((x:Int)/134217728)=((x/134217728:Nat):Int):=by omega
 rw[e2,e3,u32_or_nat _ _ (by omega) (by omega)]
 have e4:x*32%4294967296=(x%134217728)*32:=by omega
 rw[e4,Jw _ _ (by omega)]
def yg(s:Nat):Nat:=(s*32)%4294967296+s/134217728
theorem II{s:Nat}(h:s<4294967296):yg s<4294967296:=by unfold yg;omega
theorem IR(s:Nat)(c:UInt8):((yg s*31%4294967296)+c.toNat)%4294967296=oK s c:=by unfold oK yg;omega
theorem IQ(x:List UInt8):pV x<4294967296:=by
 unfold pV
 have:∀ (x:List UInt8) (s:Nat),s<4294967296->x.foldl oK s<4294967296:=by
  intro x
  induction x with
  |nil=>intro s h;exact h
  |cons c r ih=>intro s _;exact ih _ (by unfold oK;omega)
 exact this x _ (Nat.mod_lt _ (by decide))
theorem IS(s:Nat)(c:UInt8):oK s c<4294967296:=by unfold oK;omega
theorem IT(A:Option Addr)(n c:Nat)(x:List UInt8)(w:World)(h:ag eX 1 w A n x)(hn:n<=100000) :
 Calls Tryz.prog 71 #[.slice A n c] w λe w'=>e=.returned (.int .u32 (pV x:Nat))/\w=w':=by
 refine ae ?_
 intro R hR
 have Hr:=zh (show ∀ v,v=pV x->R (.returned (.int .u32 (v:Nat))) w from λv hv=>hR.out _ _ ⟨by rw[hv],rfl⟩)
 have HX:=zh h
 have Hn:=zh h.1
 clear hR h
 have i0:(n:Int)<4294967295:=by omega
 go_enter Tryz.func71,Tryz.ntmps71
 go_wp2_with fail
 go_loopw [3,12] (λs3 s12 wr=>∃ (k v:Nat),k<=n/\s12=.int .i64 (k:Int)/\s3=.int .u32 (v:Int)/\v<4294967296/\Hid (v=(x.take k).foldl oK ((x.length+1)%4294967296))/\w=wr) (λ_ s12 _=>n-(intOf s12).toNat)
 case atStart=>exact⟨0,n+1,Nat.zero_le _,rfl,by simp,by omega,zh (by rw[← Hn.out,List.take_zero];show n+1=(n+1)%4294967296;omega),rfl⟩
 obtain⟨k,v,hk,rfl,rfl,hv,Hv,rfl⟩:=hrel
 by_cases bD:k<n
 ·obtain⟨b,o,y,rfl,hb,hy,hc⟩:=HX.out.at_ zJ bD
  have q0:=hc 0 _ rfl
  have en:(y.toNat:Int)<256:=by have:=y.toNat_lt;omega
  have i1:(k:Int)<(n:Int):=by omega
  have Hy:=zh hy
  simp only[Nat.mul_one,Nat.add_zero] at q0
  clear hc hy
  have ec:=II hv
  go_wp2_with (go_at_call 158;(with_reducible refine (FX _ hv _).mono ?_);rintro e w' ⟨rfl,rfl⟩)
  refine⟨⟨k+1,oK v y,bD,by go_num,?_,IS _ _,zh ?_,by trivial⟩,by simp[intOf]<;>omega⟩
  ·rw[← IR]
   unfold yg
   congr 1
  rw[List.take_add_one,Hy.out,List.foldl_append,← Hv.out];rfl
 have cc:k=n:=by omega
 subst cc
 have i1:¬ (k:Int)<(k:Int):=by omega
 have Hf:=Hr.out v (by rw[Hv.out,List.take_of_length_le (by rw[← Hn.out];exact Nat.le_refl _)];rfl)
 have HF:=zh Hf
 clear Hr Hf Hv HX Hn
 go_wp2
 exact HF.out
theorem ag.below'{α:Type}{enc:α->List Value}{sz:Nat}{w w':World}{A:Option Addr}{n:Nat}{l:List α}(h:ag enc sz w A n l)(hb:Below w.heap.size w w'):ag enc sz w' A n l:=h.below hb
theorem Jm{W:World}{b:Nat}{t:TypeId}{u0 u1 u2 u3:Value}(h:W.heap[b]?=some (.cells #[u0,u1,u2,u3] t (0,0))) :
 W.cell? ⟨b,0,none⟩=some u0/\W.cell? ⟨b,1,none⟩=some u1/\W.cell? ⟨b,2,none⟩=some u2/\W.cell? ⟨b,3,none⟩=some u3/\(∀ j,W.frozen? ⟨b,j,none⟩=false):=an h
theorem JS(s:ByteArray):Lib.strCells s=s.data.toList.flatMap eX:=by
 unfold Lib.strCells
 induction s.data.toList with
 |nil=>rfl
 |cons a r ih=>rw[List.map_cons,List.flatMap_cons,ih];rfl
theorem GJ(s:ByteArray)(h:s.size<256):eX (UInt8.ofNat s.size)=[.int .u8 (s.size:Int)]:=by
 unfold eX
 rw[UInt8.toNat_ofNat',Nat.mod_eq_of_lt h]
theorem iC{w w':World}{tb base e sz n:Nat}{C:Array Value}{ty:TypeId}{v:Value}{xs:List Value}(hx:w.heap[tb]?=some (.cells C ty (0,0)))(ho:w.ownsRow base e sz v n xs)(aa:e≠ty)(hg:w.grownBy w' v.ownBlock):w'.heap[tb]?=some (.cells C ty (0,0)):=
 (hg.block tb (Array.getElem?_eq_some_iff.1 hx).1 λh=>cZ hx ho aa tb h.symm rfl).trans hx
theorem tK(P Q:List UInt8)(s:ByteArray)(h:s.size<256):(P++Q).flatMap eX++[Value.int .u8 (s.size:Int)]++Lib.strCells s=(P++(Q++dV s)).flatMap eX:=by
 unfold dV
 rw[JS,← GJ s h]
 simp only[List.flatMap_append,List.flatMap_cons,List.append_assoc]
theorem bJ{w W:World}(h:Below w.heap.size w W)(o:Obj):Below w.heap.size w (W.alloc o):=h.alloc h.size o
theorem F6(s0 s1 s2:ByteArray)(w:World):(Instr.index 531 (.agg #[.string s0,.string s1,.string s2]) (.int .i64 0)).run Tryz.prog w=.ok (.string s0) w:=by kernel_rfl
theorem F7(s0 s1 s2:ByteArray)(w:World):(Instr.index 531 (.agg #[.string s0,.string s1,.string s2]) (.int .i64 1)).run Tryz.prog w=.ok (.string s1) w:=by kernel_rfl
theorem F8(s0 s1 s2:ByteArray)(w:World):(Instr.index 531 (.agg #[.string s0,.string s1,.string s2]) (.int .i64 2)).run Tryz.prog w=.ok (.string s2) w:=by kernel_rfl
theorem oR{P:Program}{w:World}{ops:Array Oper}{rest:List Oper}{o:Oper}{a:Act}{Q:Exit->Act->World->Prop}(hg:o.guard=none)(x i:Operand)(t:TypeId)(c9:o.op=Op.index t x i)(xv iv v:Value)
 (hx:a.eval x=xv) (hi:a.eval i=iv) (dd:(Instr.index t xv iv).run P w=.ok v w) (h:wpList P ops Q rest (a.put o.dst v) w):wpList P ops Q (o :: rest) a w:=
 wpList_plain hg λK hK=>by
  unfold Oper.wp
  simp[execOp,c9,hx,hi,dd,Result.andThen]
  exact hK _ _ h
def fk(m:Mv):List Value:=[.string m.f,.string m.t,.string m.i,.int .i64 m.q]
theorem zZ(m:Mv):(fk m).length=4:=rfl
theorem De(l:List Mv):∀ u∈l.flatMap fk,u.oneCell'=true:=by
 intro u hu
 obtain⟨x,_,hx⟩:=List.mem_flatMap.1 hu
 simp only[fk,List.mem_cons,List.not_mem_nil,or_false] at hx
 rcases hx with rfl|rfl|rfl|rfl<;>rfl
theorem ag.mv_at{w:World}{A:Option Addr}{n k:Nat}{l:List Mv}(h:ag fk 4 w A n l)(hk:k<n) :
 ∃ b o m,A=some ⟨b,o,none⟩/\b<w.heap.size/\l[k]?=some m/\w.cell? ⟨b,o+k*4,none⟩=some (.string m.f)/\w.cell? ⟨b,o+k*4+1,none⟩=some (.string m.t)/\w.cell? ⟨b,o+k*4+2,none⟩=some (.string m.i)/\w.cell? ⟨b,o+k*4+3,none⟩=some (.int .i64 m.q):=by
 obtain⟨b,o,m,hA,hb,hm,hc⟩:=h.at_ zZ hk
 exact⟨b,o,m,hA,hb,hm,hc 0 _ rfl,hc 1 _ rfl,hc 2 _ rfl,hc 3 _ rfl⟩
def z7(l:List Mv):Prop:=l.length<=32/\∀ m∈l,m.f.size<=12/\m.t.size<=12/\m.i.size<=12/\1<=m.q/\m.q<=1000000000
theorem Dd{l:List Mv}(h:eq l=true):z7 l:=by
 unfold eq fy gq at h
 simp only[Bool.and_eq_true,decide_eq_true_eq,List.all_eq_true] at h
 exact⟨h.2,λm hm=>by have:=h.1.1 m hm;omega⟩
theorem AY(A:Option Addr)(n c:Nat)(l:List Mv)(w:World)(h:ag fk 4 w A n l)(hz:z7 l) :
 Calls Tryz.prog 315 #[.slice A n c] w λe w'=>∃ A' m c',e=.returned (.slice A' m c')/\ag eX 1 w' A' m (aE l)/\m<=1400/\Below w.heap.size w w':=by
 refine ae ?_
 intro R hR
 have Hr:=zh hR.out
 have HX:=zh h
 have Hz:=zh hz
 have Hn:=zh h.1
 have hn:n<=32:=by rw[h.1];exact hz.1
 clear hR h hz
 have i0:(n:Int)<256:=by omega
 go_enter Tryz.func315,Tryz.ntmps315
 go_wp2_with fail
 go_loopw [3,15] (λs3 s15 wr=>∃ (k m c':Nat) (A':Option Addr),k<=n/\s15=.int .i64 (k:Int)/\s3=.slice A' m c'/\m<=1+43*k/\Hid (wr.ownsRow w.heap.size 5 1 (.slice A' m c') m ((UInt8.ofNat l.length :: (l.take k).flatMap kR).flatMap eX))/\Hid (Below w.heap.size w wr)) (λ_ s15 _=>n-(intOf s15).toNat)
 case atStart =>
  refine⟨0,1,1,_,Nat.zero_le _,rfl,rfl,by omega,zh ?_,zh (ab w _)⟩
  rw[List.take_zero]
  have hc:((UInt8.ofNat l.length).toNat:Int)=(n:Int):=by
   rw[UInt8.toNat_ofNat',← Hn.out]
   omega
  have:=gW w #[.int .u8 (n:Int)] 5 1 1 w.heap.size rfl (Nat.le_refl _) (by unfold maxLen;omega)
  show (w.alloc _).ownsRow _ _ _ _ _ [Value.int .u8 ((UInt8.ofNat l.length).toNat:Int)]
  rw[hc]
  exact this
 obtain⟨k,m,c',A',hk,rfl,rfl,hm,Ho,Hb⟩:=hrel
 by_cases bD:k<n
 ·obtain⟨b,o,y,rfl,hb,hy,q0,q1,q2,q3⟩:=(HX.out.below' Hb.out).mv_at bD
  obtain⟨z1,z2,z3,z4,z5⟩:=Hz.out.2 y (List.mem_of_getElem? hy)
  have i1:(k:Int)<(n:Int):=by omega
  have Hy:=zh hy
  obtain⟨tb,ct⟩:∃ tb,wr.heap.size=tb:=⟨_,rfl⟩
  have HT:=zh ct
  clear hy ct
  have ca:=heap_alloc_new wr (.cells #[.string y.f,.string y.t,.string y.i,.int .i64 y.q] 189)
  rw[HT.out] at ca
  have cx:=zh ca
  have aF:=zh (bJ Hb.out (.cells #[.string y.f,.string y.t,.string y.i,.int .i64 y.q] 189))
  have a0:=zh (Ho.out.alloc (.cells #[.string y.f,.string y.t,.string y.i,.int .i64 y.q] 189))
  clear ca Ho Hb
  go_wp2_with fail
  rw[HT.out]
  go_loopw [3,26] (λs3 s26 wx=>∃ (j m' c2:Nat) (A2:Option Addr),j<=3/\s26=.int .i64 (j:Int)/\s3=.slice A2 m' c2/\m'<=m+13*j/\Hid (wx.ownsRow w.heap.size 5 1 (.slice A2 m' c2) m' (((UInt8.ofNat l.length :: (l.take k).flatMap kR)++([y.f,y.t,y.i].take j).flatMap dV).flatMap eX))/\Hid (Below w.heap.size w wx)/\Hid (wx.heap[tb]?=some (.cells #[.string y.f,.string y.t,.string y.i,.int .i64 y.q] 189 (0,0)))) (λ_ s26 _=>3-(intOf s26).toNat)
  case atStart=>exact⟨0,m,c',A',by omega,rfl,rfl,by omega,zh (by simpa using a0.out),aF,cx⟩
  obtain⟨j,m',c2,A2,hj,rfl,rfl,d7,Ho,Hb,Hx⟩:=hrel
  by_cases d5:j<3
  ·have HA:∀ o,Hid ((wr.alloc o).ownsRow w.heap.size 5 1 (.slice A2 m' c2) m' (((UInt8.ofNat l.length :: (l.take k).flatMap kR)++([y.f,y.t,y.i].take j).flatMap dV).flatMap eX)):=λo=>zh (Ho.out.alloc o)
   have bj:=zh Hb.out.size
   have eg:(y.f.size:Int)<256:=by omega
   have ei:(y.t.size:Int)<256:=by omega
   have dz:(y.i.size:Int)<256:=by omega
   obtain rfl|rfl|rfl:j=0\/j=1\/j=2:=by omega
   ·skip
    rw[show ((0:Nat):Int)=0 from rfl]
    have bq:=λo=>zh ((heap_alloc_old wr o (r:=tb) (Array.getElem?_eq_some_iff.1 Hx.out).1).trans Hx.out)
    obtain⟨iby,z1by,z2by,z3by,z4by⟩:=info_parts sE
    go_wp2_with (first
     |(refine oR rfl (.tmp 25) (.tmp 26) 531 rfl _ _ _ rfl rfl (F6 _ _ _ _) ?_)
     |(at_builtin;refine ax rfl (.tmp 29) (.tmp 33) _ rfl mW w.heap.size _ _ _ rfl (HA _).out _ _ _ _ rfl (Sl.newAt wr #[.int .u8 (y.f.size:Int)] _ 1 1 rfl rfl) (by simp[Value.oneCell']) (by unfold maxLen;omega) (by omega) (by simp;exact Nat.le_succ_of_le bj.out) ?_;intro A3 c3 w1 bc ad a9;have bt:=zh (iC (bq _).out (HA _).out (by decide) ad);have aF:=zh (aL (bJ Hb.out _) (HA _).out (Nat.le_refl _) (bJ Hb.out _).size ad);have a0:=zh bc;clear bc ad a9)
     |(at_builtin;refine Lib.wpList_append_own_string _ rfl (.tmp 35) (.tmp 36) _ _ rfl w.heap.size 5 _ Tryz.underlying101 Tryz.underlying9 z1by z2by z3by z4by _ _ _ rfl a0.out y.f rfl (by unfold maxLen;omega) (by omega) aF.out.size ?_;intro v4 w2 am bf bE;obtain⟨A4,c4,rfl,-,-,bI⟩:=dK am;have bu:=zh (iC bt.out a0.out (by decide) bf);have bg:=zh (aL aF.out a0.out (Nat.le_refl _) aF.out.size bf);have bk:=zh am;clear am bf bE bI))
    refine⟨⟨0+1,m'+1+y.f.size,c4,A4,by omega,rfl,rfl,by omega,zh ?_,bg,bu⟩,by simp[intOf]⟩
    have h2:=bk.out
    rw[tK _ _ _ (by omega)] at h2
    have e:([y.f,y.t,y.i].take (0+1)).flatMap dV=([y.f,y.t,y.i].take 0).flatMap dV++dV y.f:=by simp
    rw[e]
    exact h2
   ·skip
    rw[show ((1:Nat):Int)=1 from rfl]
    have bq:=λo=>zh ((heap_alloc_old wr o (r:=tb) (Array.getElem?_eq_some_iff.1 Hx.out).1).trans Hx.out)
    obtain⟨iby,z1by,z2by,z3by,z4by⟩:=info_parts sE
    go_wp2_with (first
     |(refine oR rfl (.tmp 25) (.tmp 26) 531 rfl _ _ _ rfl rfl (F7 _ _ _ _) ?_)
     |(at_builtin;refine ax rfl (.tmp 29) (.tmp 33) _ rfl mW w.heap.size _ _ _ rfl (HA _).out _ _ _ _ rfl (Sl.newAt wr #[.int .u8 (y.t.size:Int)] _ 1 1 rfl rfl) (by simp[Value.oneCell']) (by unfold maxLen;omega) (by omega) (by simp;exact Nat.le_succ_of_le bj.out) ?_;intro A3 c3 w1 bc ad a9;have bt:=zh (iC (bq _).out (HA _).out (by decide) ad);have aF:=zh (aL (bJ Hb.out _) (HA _).out (Nat.le_refl _) (bJ Hb.out _).size ad);have a0:=zh bc;clear bc ad a9)
     |(at_builtin;refine Lib.wpList_append_own_string _ rfl (.tmp 35) (.tmp 36) _ _ rfl w.heap.size 5 _ Tryz.underlying101 Tryz.underlying9 z1by z2by z3by z4by _ _ _ rfl a0.out y.t rfl (by unfold maxLen;omega) (by omega) aF.out.size ?_;intro v4 w2 am bf bE;obtain⟨A4,c4,rfl,-,-,bI⟩:=dK am;have bu:=zh (iC bt.out a0.out (by decide) bf);have bg:=zh (aL aF.out a0.out (Nat.le_refl _) aF.out.size bf);have bk:=zh am;clear am bf bE bI))
    refine⟨⟨1+1,m'+1+y.t.size,c4,A4,by omega,rfl,rfl,by omega,zh ?_,bg,bu⟩,by simp[intOf]⟩
    have h2:=bk.out
    rw[tK _ _ _ (by omega)] at h2
    have e:([y.f,y.t,y.i].take (1+1)).flatMap dV=([y.f,y.t,y.i].take 1).flatMap dV++dV y.t:=by simp
    rw[e]
    exact h2
   skip
   rw[show ((2:Nat):Int)=2 from rfl]
   have bq:=λo=>zh ((heap_alloc_old wr o (r:=tb) (Array.getElem?_eq_some_iff.1 Hx.out).1).trans Hx.out)
   obtain⟨iby,z1by,z2by,z3by,z4by⟩:=info_parts sE
   go_wp2_with (first
    |(refine oR rfl (.tmp 25) (.tmp 26) 531 rfl _ _ _ rfl rfl (F8 _ _ _ _) ?_)
    |(at_builtin;refine ax rfl (.tmp 29) (.tmp 33) _ rfl mW w.heap.size _ _ _ rfl (HA _).out _ _ _ _ rfl (Sl.newAt wr #[.int .u8 (y.i.size:Int)] _ 1 1 rfl rfl) (by simp[Value.oneCell']) (by unfold maxLen;omega) (by omega) (by simp;exact Nat.le_succ_of_le bj.out) ?_;intro A3 c3 w1 bc ad a9;have bt:=zh (iC (bq _).out (HA _).out (by decide) ad);have aF:=zh (aL (bJ Hb.out _) (HA _).out (Nat.le_refl _) (bJ Hb.out _).size ad);have a0:=zh bc;clear bc ad a9)
    |(at_builtin;refine Lib.wpList_append_own_string _ rfl (.tmp 35) (.tmp 36) _ _ rfl w.heap.size 5 _ Tryz.underlying101 Tryz.underlying9 z1by z2by z3by z4by _ _ _ rfl a0.out y.i rfl (by unfold maxLen;omega) (by omega) aF.out.size ?_;intro v4 w2 am bf bE;obtain⟨A4,c4,rfl,-,-,bI⟩:=dK am;have bu:=zh (iC bt.out a0.out (by decide) bf);have bg:=zh (aL aF.out a0.out (Nat.le_refl _) aF.out.size bf);have bk:=zh am;clear am bf bE bI))
   refine⟨⟨2+1,m'+1+y.i.size,c4,A4,by omega,rfl,rfl,by omega,zh ?_,bg,bu⟩,by simp[intOf]⟩
   have h2:=bk.out
   rw[tK _ _ _ (by omega)] at h2
   have e:([y.f,y.t,y.i].take (2+1)).flatMap dV=([y.f,y.t,y.i].take 2).flatMap dV++dV y.i:=by simp
   rw[e]
   exact h2
  have cT:j=3:=by omega
  subst cT
  have cO:=Jm Hx.out
  obtain⟨b0,b1,b2,b3,-⟩:=cO
  have iq:0<=y.q:=by omega
  have iq2:y.q<4294967296:=by omega
  obtain⟨Q,hQ⟩:∃ Q:Nat,y.q=(Q:Int):=⟨y.q.toNat,by omega⟩
  have HQ:=zh hQ
  rw[hQ] at b3 iq iq2
  clear hQ
  have cN:Q<4294967296:=by omega
  go_wp2_with fail
  refine (uh A2 m' c2 Q 4 w.heap.size _ wr Ho.out Hb.out.size cN (by omega) (by omega)).mono ?_
  rintro e wy ⟨A3,c3,rfl,bS,bv⟩
  have b5:=zh bS
  have bm:=zh (Hb.out.trans bv)
  clear bS bv
  go_wp2_with fail
  refine⟨⟨k+1,m'+4,c3,A3,bD,by go_num,rfl,by omega,zh ?_,bm⟩,by simp[intOf]<;>omega⟩
  rw[List.take_add_one,Hy.out]
  have e:[y.f,y.t,y.i].take 3=[y.f,y.t,y.i]:=rfl
  have e2:y.q.toNat=Q:=by have:=HQ.out;omega
  have h3:=b5.out
  rw[e] at h3
  have e3:UInt8.ofNat l.length :: (l.take k++(some y).toList).flatMap kR=(UInt8.ofNat l.length :: (l.take k).flatMap kR)++[y.f,y.t,y.i].flatMap dV++gH Q 4:=by
   rw[List.flatMap_append]
   show _=UInt8.ofNat l.length :: ((l.take k).flatMap kR++[y.f,y.t,y.i].flatMap dV++gH Q 4)
   congr 1
   rw[List.append_assoc]
   congr 1
   show kR y++[]=_
   rw[List.append_nil,← e2]
   show dV y.f++dV y.t++dV y.i++gH y.q.toNat 4=(dV y.f++(dV y.t++(dV y.i++[])))++gH y.q.toNat 4
   simp only[List.append_assoc,List.append_nil]
  rw[e3]
  exact h3
 have cc:k=n:=by omega
 subst cc
 have i1:¬ (k:Int)<(k:Int):=by omega
 have e0:UInt8.ofNat l.length :: (l.take k).flatMap kR=jh l:=by
  unfold jh
  rw[List.take_of_length_le (by rw[← Hn.out];exact Nat.le_refl _)]
 rw[e0] at Ho
 have c5:m<4294967296:=by omega
 have b8:=Ho.out.1
 rw[bU zJ,Nat.mul_one,Nat.mul_one] at b8
 have ci:=zh b8
 have cj:=zh (ag.of_own Ho.out b8.symm)
 clear e0 b8 HX Hz
 go_wp2_with fail
 refine (uh none 0 0 m 2 wr.heap.size [] wr (World.ownsRow_nil _ _ _ _) (Nat.le_refl _) c5 (by omega) (by omega)).mono ?_
 rintro e w2 ⟨A2,c2,rfl,am,b9⟩
 have bk:=zh am
 have bg:=zh b9
 have cI:=zh (cj.out.below b9)
 clear am b9
 go_wp2_with fail
 refine (IT A' m c' (jh l) w2 cI.out (by omega)).mono ?_
 rintro e w2' ⟨rfl,rfl⟩
 have dk:pV (jh l)<4294967296:=IQ _
 go_wp2_with fail
 refine (uh A2 (0+2) c2 (pV (jh l)) 4 wr.heap.size _ w2 bk.out bg.out.size dk (by omega) (by omega)).mono ?_
 rintro e w3 ⟨A3,c3,rfl,bS,bv⟩
 have b5:=zh bS
 have bm:=zh (bg.out.trans bv)
 have cL:=zh (cj.out.below bm.out)
 clear bS bv
 go_wp2_with (at_builtin;refine ax rfl (.tmp 52) (.tmp 53) _ rfl mW wr.heap.size _ _ _ rfl b5.out _ _ _ _ rfl cL.out.2 (Cs _) (by unfold maxLen;omega) (by omega) bm.out.size ?_;intro A4 c4 w4 cn cS d6)
 refine Hr.out _ _ ⟨A4,0+2+4+m,c4,rfl,?_,by omega,?_⟩
 ·have h5:([]++gH m 2++gH (pV (jh l)) 4).flatMap eX++(jh l).flatMap eX=(aE l).flatMap eX:=by
   unfold aE
   rw[← ci.out,List.nil_append,← List.flatMap_append]
  rw[h5] at cn
  refine ag.of_own cn ?_
  unfold aE
  rw[List.length_append,List.length_append,jX,jX,← ci.out]
 exact Hb.out.trans ((aL bm.out b5.out (Nat.le_refl _) bm.out.size cS).mono Hb.out.size)
end
end
end Go.Proofs.YtgbnicokglpdbaaGreatDoor
