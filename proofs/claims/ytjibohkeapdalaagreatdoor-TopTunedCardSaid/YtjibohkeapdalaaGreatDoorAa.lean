/-
  Plain: entries in double entry, their bytes, a disk that may go down, a book; an entry that is done the other way round takes the balances back. A frame that names the blocks that may turn; no condition but those that each lemma states. A disk of the book as its cells; Disk.ready, act, Append, Sync, Cut, Arm, Restart, NewDisk; no condition but that the cells hold a disk. The bytes of an entry: put, sum, encode; no condition but the sizes that each theorem states. A map of balances: a block that is a map from places to numbers; balances.add, changes; no condition but the sizes that each theorem states. balances.add, balances.do, changes: maps of balances written; no condition but the sizes that each theorem states.
-/
import Derived.Test.YtjibohkeapdalaaGreatDoorA0
import Derived.Deep.OwnRows
import Derived.Laws.OwnMore
import Derived.Deep.LoopGhost
import Derived.IntWalk
import Derived.Laws.BitsAllLaws
import Derived.Lib.AppendStr
import Derived.DeepKeys5
import Derived.Maps.OwnSet
import Derived.Maps.RangeWalk
import Derived.WideKeyEntry
import Derived.Deep.RegionHeld3
namespace Go.Proofs.YtjibohkeapdalaaGreatDoor
set_option maxHeartbeats 4000000
set_option maxRecDepth 100000
section
structure Mv where
 f:ByteArray
 t:ByteArray
 i:ByteArray
 q:Int
abbrev Pl:=ByteArray×ByteArray
def mvA(m:Mv)(p:Pl):Int:=(if (m.t,m.i)=p then m.q else 0)-(if (m.f,m.i)=p then m.q else 0)
def enA(e:List Mv)(p:Pl):Int:=(e.map λm=>mvA m p).sum
def balE(E:List (List Mv))(p:Pl):Int:=(E.map λe=>enA e p).sum
theorem enA_app(a b:List Mv)(p:Pl):enA (a++b) p=enA a p+enA b p:=by
 unfold enA
 rw[List.map_append,List.sum_append]
theorem enA_cons(m:Mv)(b:List Mv)(p:Pl):enA (m :: b) p=mvA m p+enA b p:=by
 unfold enA
 rw[List.map_cons,List.sum_cons]
theorem enA_snoc(m:Mv)(b:List Mv)(p:Pl):enA (b++[m]) p=enA b p+mvA m p:=by
 rw[enA_app,enA_cons]
 show _+(_+0)=_
 omega
theorem balE_snoc(E:List (List Mv))(e:List Mv)(p:Pl):balE (E++[e]) p=balE E p+enA e p:=by
 unfold balE
 rw[List.map_append,List.sum_append,List.map_singleton,List.sum_singleton]
def mxQ:Int:=1099511627776
def outB(a:ByteArray):Bool:=[111,117,116].isPrefixOf a.data.toList
def OkBal(p:Pl)(n:Int):Prop := -mxQ<=n/\n<=mxQ/\(n<0->outB p.1=true)
def Jour(E:List (List Mv)):Prop:=∀ k p,k<=E.length->OkBal p (balE (E.take k) p)
theorem Jour.nil:Jour []:=by
 intro k p _
 have:balE (([]:List (List Mv)).take k) p=0:=by rw[List.take_nil];rfl
 rw[this]
 exact⟨by decide,by decide,λh=>absurd h (by decide)⟩
theorem Jour.now{E:List (List Mv)}(h:Jour E)(p:Pl):OkBal p (balE E p):=by
 have:=h E.length p (Nat.le_refl _)
 rwa [List.take_length] at this
theorem Jour.snoc{E:List (List Mv)}{e:List Mv}(h:Jour E)(he:∀ p,OkBal p (balE E p+enA e p)):Jour (E++[e]):=by
 intro k p hk
 rw[List.length_append,List.length_singleton] at hk
 rcases Nat.lt_or_ge E.length k with h1|h1
 ·rw[List.take_of_length_le (by rw[List.length_append,List.length_singleton];omega),balE_snoc]
  exact he p
 ·rw[List.take_append_of_le_length h1]
  exact h k p h1
def lowB(c:UInt8):Bool:=decide (97<=c.toNat)&&decide (c.toNat<=122)
def digB(c:UInt8):Bool:=decide (48<=c.toNat)&&decide (c.toNat<=57)
def nmL:Bool->List UInt8->Bool
 |_,[]=>true
 |b,c :: r=>(lowB c||(!b&&digB c))&&nmL false r
def nameB(s:ByteArray):Bool:=decide (1<=s.size)&&decide (s.size<=12)&&nmL true s.data.toList
def mvOk(m:Mv):Bool:=nameB m.f&&nameB m.t&&nameB m.i && !decide (m.f=m.t)&&decide (1<=m.q)&&decide (m.q<=1000000000)
def enOk(l:List Mv):Bool:=l.all mvOk&&decide (1<=l.length)&&decide (l.length<=32)
def plcs(l:List Mv):List Pl:=l.flatMap λm=>[(m.f,m.i),(m.t,m.i)]
theorem plcs_cons(m:Mv)(l:List Mv):plcs (m :: l)=(m.f,m.i) :: (m.t,m.i) :: plcs l:=rfl
theorem enA_off{l:List Mv}{p:Pl}(h:p ∉ plcs l):enA l p=0:=by
 induction l with
 |nil=>rfl
 |cons m l ih =>
  rw[plcs_cons] at h
  simp only[List.mem_cons,not_or] at h
  rw[enA_cons,ih h.2.2]
  unfold mvA
  rw[if_neg (λe=>h.2.1 e.symm),if_neg (λe=>h.1 e.symm)]
  rfl
def refW(b:Pl->Int)(l:List Mv):List Pl->Int->Int
 |[],e=>e
 |p :: r,e=>if mxQ<b p+enA l p\/b p+enA l p < -mxQ then 5 else refW b l r (if b p+enA l p<0/\outB p.1=false then 10 else e)
def refE(b:Pl->Int)(l:List Mv):Int:=refW b l (plcs l) 0
theorem refW_0{b:Pl->Int}{l:List Mv}:∀ {r:List Pl} {e:Int},refW b l r e=0->e=0/\∀ p∈r,OkBal p (b p+enA l p)
 |[],e,h=>⟨h,λp hp=>by cases hp⟩
 |p :: r,e,h=>by
  unfold refW at h
  split at h
  ·cases h
  ·rename_i hn
   obtain⟨h1,h2⟩:=refW_0 h
   split at h1
   ·cases h1
   ·rename_i hs
    refine⟨h1,λp' hp=>?_⟩
    rcases List.mem_cons.1 hp with rfl|hp
    ·refine⟨by omega,by omega,λhneg=>?_⟩
     cases ho:outB p'.1
     ·exact absurd ⟨hneg,ho⟩ hs
     ·rfl
    ·exact h2 p' hp
theorem refW_of{b:Pl->Int}{l:List Mv}:∀ {r:List Pl},(∀ p∈r,OkBal p (b p+enA l p))->refW b l r 0=0
 |[],_=>rfl
 |p :: r,h=>by
  unfold refW
  obtain⟨h1,h2,h3⟩:=h p List.mem_cons_self
  rw[if_neg (by omega),if_neg (λh=>by rw[h3 h.1] at h;exact absurd h.2 (by decide))]
  exact refW_of λp' hp=>h p' (List.mem_cons_of_mem _ hp)
theorem refE_0{b:Pl->Int}{l:List Mv}(hb:∀ p,OkBal p (b p)):refE b l=0 ↔ ∀ p,OkBal p (b p+enA l p):=by
 constructor
 ·intro h p
  by_cases hp:p∈plcs l
  ·exact (refW_0 h).2 p hp
  ·rw[enA_off hp];simpa using hb p
 ·intro h
  exact refW_of λp _=>h p
theorem refW_cases(b:Pl->Int)(l:List Mv):∀ (r:List Pl) (e:Int),refW b l r e=5\/refW b l r e=10\/refW b l r e=e
 |[],e=>.inr (.inr rfl)
 |p :: r,e=>by
  unfold refW
  split
  ·exact .inl rfl
  ·split
   ·rcases refW_cases b l r 10 with h|h|h
    ·exact .inl h
    ·exact .inr (.inl h)
    ·exact .inr (.inl h)
   ·exact refW_cases b l r e
def putL(n:Nat):Nat->List UInt8
 |0=>[]
 |k+1=>UInt8.ofNat (n/256 ^ k) :: putL n k
theorem putL_len(n:Nat):∀ k,(putL n k).length=k
 |0=>rfl
 |k+1=>by unfold putL;rw[List.length_cons,putL_len n k]
def encS(s:ByteArray):List UInt8:=UInt8.ofNat s.size :: s.data.toList
def encM(m:Mv):List UInt8:=encS m.f++encS m.t++encS m.i++putL m.q.toNat 4
def bodyL(l:List Mv):List UInt8:=UInt8.ofNat l.length :: l.flatMap encM
def sumS(s:Nat)(c:UInt8):Nat:=(((s*32)%4294967296+s/134217728)*31+c.toNat)%4294967296
def sumL(b:List UInt8):Nat:=b.foldl sumS ((b.length+1)%4294967296)
def encE(l:List Mv):List UInt8:=putL (bodyL l).length 2++putL (sumL (bodyL l)) 4++bodyL l
theorem encS_len(s:ByteArray):(encS s).length=s.size+1:=by unfold encS;rw[List.length_cons,Array.length_toList];rfl
theorem encM_len(m:Mv):(encM m).length=m.f.size+m.t.size+m.i.size+7:=by
 unfold encM
 rw[List.length_append,List.length_append,List.length_append,encS_len,encS_len,encS_len,putL_len]
 omega
def nmSz(l:List Mv):Nat:=(l.map λm=>m.f.size+m.t.size+m.i.size+7).sum
theorem encE_len(l:List Mv):(encE l).length=7+nmSz l:=by
 unfold encE bodyL nmSz
 rw[List.length_append,List.length_append,putL_len,putL_len,List.length_cons]
 have:(l.flatMap encM).length=(l.map λm=>m.f.size+m.t.size+m.i.size+7).sum:=by
  rw[List.length_flatMap]
  congr 1
  exact List.map_congr_left λm _=>encM_len m
 omega
theorem nmSz_cons(m:Mv)(l:List Mv):nmSz (m :: l)=m.f.size+m.t.size+m.i.size+7+nmSz l:=by
 unfold nmSz
 rw[List.map_cons,List.sum_cons]
theorem nmSz_le{l:List Mv}(h:∀ m∈l,mvOk m=true):nmSz l<=43*l.length:=by
 induction l with
 |nil=>exact Nat.le_refl _
 |cons m l ih =>
  rw[nmSz_cons,List.length_cons]
  have h1:=ih λx hx=>h x (List.mem_cons_of_mem _ hx)
  have h2:=h m List.mem_cons_self
  unfold mvOk nameB at h2
  simp only[Bool.and_eq_true,decide_eq_true_eq] at h2
  omega
structure Dk where
 B:List UInt8
 safe:Nat
 down:Bool
 left:Nat
def Dk.new:Dk:=⟨[],0,false,0⟩
def Dk.act(d:Dk):Dk×Bool:=if d.left=0 then (d,false) else ({ d with left:=d.left-1,down:=decide (d.left-1=0) },decide (d.left-1=0))
def Dk.app(d:Dk)(x:List UInt8):Dk×Int:=
 if d.down then (d,11) else if 65536-d.B.length<x.length then (d,9) else
  ({ d with B:=d.B++x }.act.1,if { d with B:=d.B++x }.act.2 then 11 else 0)
def Dk.sync(d:Dk):Dk×Int:=
 if d.down then (d,11) else if d.act.2 then (d.act.1,11) else ({ d.act.1 with safe:=d.act.1.B.length },0)
def Dk.Ok(d:Dk):Prop:=d.B.length<=65536/\d.safe<=d.B.length/\d.left<1000000000000
structure Bk where
 E:List (List Mv)
 br:Bool
def Bk.would(b:Bk)(l:List Mv):Int:=if b.br then 8 else if enOk l then refE (balE b.E) l else 1
def postB(d:Dk)(b:Bk)(l:List Mv):Dk×Bk×Int:=
 if b.would l≠0 then (d,b,b.would l) else
 if (d.app (encE l)).2=9 then (d,b,9) else
 if (d.app (encE l)).2≠0 then ((d.app (encE l)).1,⟨b.E,true⟩,(d.app (encE l)).2) else
 if ((d.app (encE l)).1.sync).2≠0 then ((d.app (encE l)).1.sync.1,⟨b.E,true⟩,(d.app (encE l)).1.sync.2) else
 ((d.app (encE l)).1.sync.1,⟨b.E++[l],b.br⟩,0)
end
section
open Go.RowKit
structure Kx(S:Nat->Prop)(W W':World):Prop where
 os:W'.os=W.os
 tape:W'.tape=W.tape
 output:W'.output=W.output
 size:W.heap.size<=W'.heap.size
 block:∀ j,j<W.heap.size->¬ S j->W'.heap[j]?=W.heap[j]?
section
variable{S T:Nat->Prop}{A B C:World}
theorem Kx.refl(S:Nat->Prop)(W:World):Kx S W W:=⟨rfl,rfl,rfl,Nat.le_refl _,λ_ _ _=>rfl⟩
theorem Kx.trans(h:Kx S A B)(k:Kx T B C)(hs:∀ j,j<A.heap.size->T j->S j):Kx S A C:=
 ⟨k.os.trans h.os,k.tape.trans h.tape,k.output.trans h.output,Nat.le_trans h.size k.size,λj hj hn=>(k.block j (Nat.lt_of_lt_of_le hj h.size) (λht=>hn (hs j hj ht))).trans (h.block j hj hn)⟩
theorem Kx.mono(h:Kx S A B)(hs:∀ j,S j->T j):Kx T A B:=⟨h.os,h.tape,h.output,h.size,λj hj hn=>h.block j hj (λht=>hn (hs j ht))⟩
theorem Kx.drewN(h:Kx S A B)(q:Nat):Kx S A (B.drewN q):=⟨h.os,h.tape,h.output,h.size,h.block⟩
theorem Kx.grown{row:Option Nat}(h:Kx S A B)(hg:B.grownBy C row)(hs:∀ j,row=some j->S j\/A.heap.size<=j):Kx S A C:=
 ⟨hg.os.trans h.os,hg.tape.trans h.tape,hg.output.trans h.output,Nat.le_trans h.size hg.size,λj hj hn=>(hg.block j (Nat.lt_of_lt_of_le hj h.size) (λe=>by
  rcases hs j e.symm with h'|h'
  ·exact hn h'
  ·omega)).trans (h.block j hj hn)⟩
theorem Kx.below(h:Kx S A B)(hb:Below B.heap.size B C):Kx S A C:=
 ⟨hb.os.trans h.os,hb.tape.trans h.tape,hb.output.trans h.output,Nat.le_trans h.size hb.size,λj hj hn=>(hb.block j (Nat.lt_of_lt_of_le hj h.size)).trans (h.block j hj hn)⟩
theorem Kx.low{w:World}{b:Nat}(hb:Below b w A)(h:Kx S A B)(hs:∀ j,S j->b<=j)(hba:b<=A.heap.size):Below b w B:=
 ⟨h.os.trans hb.os,h.tape.trans hb.tape,h.output.trans hb.output,Nat.le_trans hb.size h.size,λj hj=>(h.block j (by omega) (λht=>by have:=hs j ht;omega)).trans (hb.block j hj)⟩
end
theorem kx_set{S:Nat->Prop}{W W':World}{b:Nat}(h:Kx S W W')(hs:S b)(k:Nat)(v:Value):Kx S W (W'.setCell ⟨b,k,none⟩ v):=
 ⟨h.os,h.tape,h.output,by have:=h.size;simpa[World.setCell] using this,λj hj hn=>(Below.heap_setCell W' ⟨b,k,none⟩ v j (λe=>hn (e ▸ hs))).trans (h.block j hj hn)⟩
end
section
section
open Go.RowKit
theorem hcell5{W:World}{b:Nat}{t:TypeId}{u0 u1 u2 u3 u4:Value}(h:W.heap[b]?=some (.cells #[u0,u1,u2,u3,u4] t (0,0))) :
 W.cell? ⟨b,0,none⟩=some u0/\W.cell? ⟨b,1,none⟩=some u1/\W.cell? ⟨b,2,none⟩=some u2/\W.cell? ⟨b,3,none⟩=some u3/\W.cell? ⟨b,4,none⟩=some u4/\(∀ j,W.frozen? ⟨b,j,none⟩=false):=
 ⟨by rw[cell_of_row _ _ 0 _ _ (0,0) h];rfl,by rw[cell_of_row _ _ 1 _ _ (0,0) h];rfl,by rw[cell_of_row _ _ 2 _ _ (0,0) h];rfl,by rw[cell_of_row _ _ 3 _ _ (0,0) h];rfl,by rw[cell_of_row _ _ 4 _ _ (0,0) h];rfl,λj=>by simp[World.frozen?,h]⟩
theorem hset{W:World}{b i:Nat}{C:Array Value}{ty:TypeId}{v:Value}(h:W.heap[b]?=some (.cells C ty (0,0))):(W.setCell ⟨b,i,none⟩ v).heap[b]?=some (.cells (C.setIfInBounds i v) ty (0,0)):=by
 simp only[World.setCell,Array.getElem?_modify,h]
 simp
theorem hset_ne{W:World}{a b i:Nat}{v:Value}(h:a≠b):(W.setCell ⟨b,i,none⟩ v).heap[a]?=W.heap[a]?:=Below.heap_setCell W ⟨b,i,none⟩ v a h
theorem hsize_set(W:World)(a:Addr)(v:Value):(W.setCell a v).heap.size=W.heap.size:=by simp[World.setCell]
def byE(c:UInt8):List Value:=[.int .u8 (c.toNat:Int)]
theorem byE_len(c:UInt8):(byE c).length=1:=rfl
theorem by_one(l:List UInt8):∀ u∈l.flatMap byE,u.oneCell'=true:=by
 intro u hu
 obtain⟨x,_,hx⟩:=List.mem_flatMap.1 hu
 simp only[byE,List.mem_cons,List.not_mem_nil,or_false] at hx
 subst hx
 rfl
def Up(W:World)(F:Nat->Prop):Prop:=∀ b,W.heap.size<=b->F b
theorem Up.kx{W w:World}{S F:Nat->Prop}(h:Up W F)(k:Kx S W w):Up w F:=λb hb=>h b (Nat.le_trans k.size hb)
theorem Up.below{W w:World}{F:Nat->Prop}(h:Up W F){b:Nat}(k:Below b W w):Up w F:=λb hb=>h b (Nat.le_trans k.size hb)
theorem kx_of_below{W w:World}{S:Nat->Prop}(h:Below W.heap.size W w):Kx S W w:=⟨h.os,h.tape,h.output,h.size,λj hj _=>h.block j hj⟩
def DkS(W:World)(F:Nat->Prop)(a:Nat):Nat->Prop:=λj=>j=a\/F j/\∃ C,W.heap[j]?=some (.cells C 5 (0,0))
def dkC(v:Value)(d:Dk):Array Value:=#[.bool true,v,.int .i64 (d.safe:Int),.bool d.down,.int .i64 (d.left:Int)]
def Dsk(W:World)(F:Nat->Prop)(a:Nat)(d:Dk):Prop:=
 d.Ok/\F a/\∃ A c,W.heap[a]?=some (.cells (dkC (.slice A d.B.length c) d) 158 (0,0))/\
  W.ownsRow 0 5 1 (.slice A d.B.length c) d.B.length (d.B.flatMap byE)/\∀ g,(Value.slice A d.B.length c).ownBlock=some g->F g
section
variable{W w:World}{F S:Nat->Prop}{a:Nat}{d:Dk}
theorem own_heap{W w:World}{base e sz n:Nat}{v:Value}{xs:List Value}(h:W.ownsRow base e sz v n xs)(hk:∀ g,v.ownBlock=some g->w.heap[g]?=W.heap[g]?):w.ownsRow base e sz v n xs:=by
 refine⟨h.1,?_⟩
 rcases h.2 with h0|⟨g,c,cur,hv,h1,h2,h3⟩
 ·exact .inl h0
 ·subst hv
  exact .inr ⟨g,c,cur,rfl,h1,(hk g (by simp[Value.ownBlock])).trans h2,h3⟩
theorem own_lt{W:World}{base e sz n:Nat}{v:Value}{xs:List Value}(h:W.ownsRow base e sz v n xs){g:Nat}(hg:v.ownBlock=some g):g<W.heap.size:=(h.lt g hg).2
theorem Dsk.keep(h:Dsk W F a d)(hk:∀ b,F b->b<W.heap.size->w.heap[b]?=W.heap[b]?):Dsk w F a d:=by
 obtain⟨h0,h1,A,c,h2,h3,h4⟩:=h
 exact⟨h0,h1,A,c,(hk a h1 (Array.getElem?_eq_some_iff.1 h2).1).trans h2,own_heap h3 λg hg=>hk g (h4 g hg) (own_lt h3 hg),h4⟩
theorem Dsk.below(h:Dsk W F a d)(k:Below W.heap.size W w):Dsk w F a d:=h.keep λb _ hb=>k.block b hb
end
theorem ready_any(w:World)(F:Nat->Prop)(a:Nat)(d:Dk)(h:Dsk w F a d):Calls Tryz.prog 55 #[.pointer (some ⟨a,0,none⟩)] w λe w'=>e=.returned (.int .i64 (if d.down then 11 else 0))/\w=w':=by
 obtain⟨_,_,A,c,h2,_,_⟩:=h
 obtain⟨B,sf,dn,lf⟩:=d
 unfold dkC at h2
 dsimp only at h2
 obtain⟨c0,c1,c2,c3,c4,-⟩:=hcell5 h2
 clear h2
 cases dn
 ·go_enter Tryz.func55,Tryz.ntmps55
  go_wp2
  go_ret
  exact⟨rfl,rfl⟩
 ·go_enter Tryz.func55,Tryz.ntmps55
  go_wp2
  go_ret
  exact⟨rfl,rfl⟩
theorem kx_put(W:World)(b i:Nat)(v:Value):Kx (λj=>j=b) W (W.setCell ⟨b,i,none⟩ v):=kx_set (S:=λj=>j=b) (Kx.refl _ W) rfl i v
theorem Dsk.set{w:World}{F:Nat->Prop}{a:Nat}{d':Dk}{A:Option Addr}{c i:Nat}{v:Value}{C:Array Value}(hf:F a)(hd:d'.Ok)(h:w.heap[a]?=some (.cells C 158 (0,0)))(hC:C.setIfInBounds i v=dkC (.slice A d'.B.length c) d')
 (ho:w.ownsRow 0 5 1 (.slice A d'.B.length c) d'.B.length (d'.B.flatMap byE)) (hF:∀ g,(Value.slice A d'.B.length c).ownBlock=some g->F g) (hne:∀ g,(Value.slice A d'.B.length c).ownBlock=some g->g≠a):Dsk (w.setCell ⟨a,i,none⟩ v) F a d':=
 ⟨hd,hf,A,c,by rw[← hC];exact hset h,own_heap ho λg hg=>hset_ne (hne g hg),hF⟩
theorem own_nea{w:World}{a:Nat}{C:Array Value}{ty e:TypeId}{base sz n:Nat}{v:Value}{xs:List Value}(h:w.heap[a]?=some (.cells C ty (0,0)))(ho:w.ownsRow base e sz v n xs)(hne:e≠ty):∀ g,v.ownBlock=some g->g≠a:=by
 intro g hg e'
 subst e'
 rcases ho.2 with⟨rfl,_⟩|⟨g1,c1,cur1,rfl,_,hh,_⟩
 ·simp[Value.ownBlock] at hg
 ·have:g1=g:=by simpa[Value.ownBlock] using hg
  subst this
  rw[h] at hh
  simp only[Option.some.injEq,Obj.cells.injEq] at hh
  exact hne hh.2.1.symm
theorem dact_any(w:World)(F:Nat->Prop)(a:Nat)(d:Dk)(h:Dsk w F a d):Calls Tryz.prog 123 #[.pointer (some ⟨a,0,none⟩)] w λe w'=>e=.returned (.bool d.act.2)/\Dsk w' F a d.act.1/\Kx (λj=>j=a) w w':=by
 refine calls_cps ?_
 intro R hR
 have hh:=h
 obtain⟨hok,hf,A,c,h2,ho,hg⟩:=h
 obtain⟨B,sf,dn,lf⟩:=d
 have hne:=own_nea h2 ho (by decide)
 unfold dkC at h2
 dsimp only at h2 ho hg hne
 obtain⟨c0,c1,c2,c3,c4,f0⟩:=hcell5 h2
 by_cases h0:lf=0
 ·subst h0
  have HF:=zh (hR.out (.returned (.bool false)) w ⟨rfl,hh,Kx.refl _ _⟩)
  clear hR h2 ho hg hne hh hok
  go_enter Tryz.func123,Tryz.ntmps123
  go_wp2
  exact HF.out
 ·obtain⟨L,hL⟩:∃ L:Int,(lf:Int)=L:=⟨_,rfl⟩
  have hl1:0<L:=by omega
  have hl2:L<=1000000000000:=by have:=hok.2.2;dsimp only at this;omega
  have e0:(L==0)=false:=by rw[beq_eq_false_iff_ne];omega
  rw[hL] at c4
  have HF:∀ p:Bool,p=decide (lf-1=0)->Hid (R (.returned (.bool p)) ((w.setCell ⟨a,4,none⟩ (.int .i64 (L-1))).setCell ⟨a,3,none⟩ (.bool p))):=by
   intro p hp
   refine zh (hR.out _ _ ⟨?_,?_,?_⟩)
   ·unfold Dk.act
    rw[if_neg h0,hp]
   ·unfold Dk.act
    rw[if_neg h0]
    have h3:=hset (i:=4) (v:=.int .i64 (L-1)) h2
    refine Dsk.set (A:=A) (c:=c) (C:=#[.bool true,.slice A B.length c,.int .i64 (sf:Int),.bool dn,.int .i64 (L-1)]) hf ⟨hok.1,hok.2.1,by have:=hok.2.2;dsimp only at this ⊢;omega⟩ h3 ?_ (own_heap ho λg hg'=>hset_ne (hne g hg')) hg hne
    unfold dkC
    dsimp only
    rw[← hp,show ((lf-1:Nat):Int)=L-1 by omega]
    rfl
   ·exact (kx_put w a 4 _).trans (kx_put _ a 3 _) (λ_ _ h=>h)
  have H1:=HF (decide (lf-1=0)) rfl
  clear HF hR h2 ho hg hne hh hok
  by_cases h1:lf=1
  ·have e1:L=1:=by omega
   subst e1
   rw[show decide (lf-1=0)=true from decide_eq_true (by omega)] at H1
   clear hL h0 h1 hl1 hl2 e0
   go_enter Tryz.func123,Tryz.ntmps123
   go_wp2
   exact H1.out
  ·have e1:(L-1==0)=false:=by rw[beq_eq_false_iff_ne];omega
   rw[show decide (lf-1=0)=false from decide_eq_false (by omega)] at H1
   clear hL h0 h1
   go_enter Tryz.func123,Tryz.ntmps123
   go_wp2
   exact H1.out
theorem infoBy:(Tryz.prog.info? 5).map (λi=>(i.zero,i.size,i.bytes))=some (some (.int .u8 0),1,1):=by kernel_rfl
theorem elemBy:ElemOk Tryz.prog 156 5 1 1:=ElemOk.of (z:=.int .u8 0) Tryz.underlying156 infoBy rfl (by omega)
theorem own_blk{w:World}{base e sz n g:Nat}{v:Value}{xs:List Value}(h:w.ownsRow base e sz v n xs)(hg:v.ownBlock=some g):∃ C,w.heap[g]?=some (.cells C e (0,0)):=by
 rcases h.2 with⟨rfl,_⟩|⟨g1,c1,cur1,rfl,_,hh,_⟩
 ·simp[Value.ownBlock] at hg
 ·have:g1=g:=by simpa[Value.ownBlock] using hg
  subst this
  exact⟨_,hh⟩
theorem dsk_app{w w1:World}{F:Nat->Prop}{a n:Nat}{A0 A':Option Addr}{c0 c1:Nat}{B x:List UInt8}{sf lf:Nat}(hu:Up w F)(hf:F a)(ok1:B.length<=65536)(ok2:sf<=B.length)(ok3:lf<1000000000000)(hn:n=x.length)(hb:n<=65536-B.length)
 (h2:w.heap[a]?=some (.cells #[.bool true,.slice A0 B.length c0,.int .i64 (sf:Int),.bool false,.int .i64 (lf:Int)] 158 (0,0)))
 (hg:∀ g,(Value.slice A0 B.length c0).ownBlock=some g->F g) (hne:∀ g,(Value.slice A0 B.length c0).ownBlock=some g->g≠a)
 (ho0:w.ownsRow 0 5 1 (.slice A0 B.length c0) B.length (B.flatMap byE)) (ho:w1.ownsRow 0 5 1 (.slice A' (B.length+n) c1) (B.length+n) (B.flatMap byE++x.flatMap byE)) (hg1:w.grownBy w1 (Value.slice A0 B.length c0).ownBlock)
 (hl1:(Value.slice A' (B.length+n) c1).ownBlock=(Value.slice A0 B.length c0).ownBlock\/(Value.slice A' (B.length+n) c1).ownBlock=some w.heap.size) :
 w1.heap[a]?=some (.cells #[.bool true,.slice A0 B.length c0,.int .i64 (sf:Int),.bool false,.int .i64 (lf:Int)] 158 (0,0))/\
 Dsk (w1.setCell ⟨a,1,none⟩ (.slice A' (B.length+n) c1)) F a ⟨B++x,sf,false,lf⟩/\Kx (DkS w F a) w (w1.setCell ⟨a,1,none⟩ (.slice A' (B.length+n) c1)):=by
 have hl:B.length+n=(B++x).length:=by rw[List.length_append,hn]
 have ha:a<w.heap.size:=(Array.getElem?_eq_some_iff.1 h2).1
 have h3:=(hg1.block a ha λe=>hne a e.symm rfl).trans h2
 have hF:∀ g,(Value.slice A' (B.length+n) c1).ownBlock=some g->F g:=λg hg'=>by
  rcases hl1 with h|h
  ·exact hg g (h ▸ hg')
  ·rw[h] at hg'
   cases hg'
   exact hu _ (Nat.le_refl _)
 refine⟨h3,?_,((Kx.refl (DkS w F a) w).grown hg1 λj hj=>.inl (.inr ⟨hg j hj,own_blk ho0 hj⟩)).trans (kx_put _ a 1 _) λj _ hj=>.inl hj⟩
 rw[hl] at ho hF ⊢
 refine Dsk.set (A:=A') (c:=c1) hf ⟨by show (B++x).length<=65536;omega,by show sf<=(B++x).length;omega,ok3⟩ h3 rfl ?_ hF (own_nea h3 ho (by decide))
 rw[List.flatMap_append]
 exact ho
theorem dapp_any(w:World)(F:Nat->Prop)(a:Nat)(d:Dk)(h:Dsk w F a d)(hu:Up w F)(A:Option Addr)(n c:Nat)(x:List UInt8)(hx:SlE byE 1 w A n x)(_hn:n<=1000000) :
 Calls Tryz.prog 370 #[.pointer (some ⟨a,0,none⟩),.slice A n c] w λe w'=>e=.returned (.int .i64 (d.app x).2)/\Dsk w' F a (d.app x).1/\Kx (DkS w F a) w w':=by
 refine calls_cps ?_
 intro R hR
 have hh:=h
 obtain⟨hok,hf,A0,c',h2,ho,hg⟩:=h
 obtain⟨B,sf,dn,lf⟩:=d
 have hne:=own_nea h2 ho (by decide)
 have hd:=ready_any w F a _ hh
 have hxn:=hx.1
 obtain⟨ok1,ok2,ok3⟩:=hok
 unfold dkC at h2
 dsimp only at h2 ho hg hne hd ok1 ok2 ok3
 obtain⟨c0,c1,c2,c3,c4,f0⟩:=hcell5 h2
 cases dn
 ·rcases Nat.lt_or_ge (65536-B.length) n with hb|hb
  ·have HF:=zh (hR.out (.returned (.int .i64 9)) w (by
    unfold Dk.app
    rw[if_neg (by simp),if_pos (by rw[← hxn];exact hb)]
    exact⟨rfl,hh,Kx.refl _ _⟩))
   have i1:(n:Int) > 65536-(B.length:Int):=by omega
   have HD:=zh hd
   clear hR h2 ho hg hne hh hx hxn hd
   go_enter Tryz.func370,Tryz.ntmps370
   go_wp2_with (go_at_call 55;(with_reducible refine (HD.out).mono ?_);rintro e w' ⟨rfl,rfl⟩)
   exact HF.out
  ·have i1:¬ (n:Int) > 65536-(B.length:Int):=by omega
   have e1:(({ B:=B,safe:=sf,down:=false,left:=lf }:Dk).app x)=(({ B:=B++x,safe:=sf,down:=false,left:=lf }:Dk).act.1,if ({ B:=B++x,safe:=sf,down:=false,left:=lf }:Dk).act.2 then 11 else 0):=by
    unfold Dk.app
    rw[if_neg (by simp),if_neg (by dsimp only;omega)]
   rw[e1] at hR
   have HD:=zh hd
   have HO:=zh ho
   have HX:=zh hx
   have Hg:=zh hg
   have Hne:=zh hne
   have Hr:=zh hR
   have Hxn:=zh hxn
   have HS:=zh (λ(A':Option Addr) (c1:Nat) (w1:World) h1 h3 h4=>dsk_app (A':=A') (c1:=c1) (w1:=w1) hu hf ok1 ok2 ok3 hxn hb h2 hg hne ho h1 h3 h4)
   clear hR ho hg hne hx hxn hd e1 hh h2
   go_enter Tryz.func370,Tryz.ntmps370
   go_wp2_with (first
    |(go_at_call 55;(with_reducible refine (HD.out).mono ?_);rintro e w' ⟨rfl,rfl⟩)
    |(at_builtin;refine wpList_app rfl (.tmp 24) (.tmp 25) _ rfl elemBy 0 _ _ _ rfl HO.out _ _ _ _ rfl HX.out.2 (by_one _) (by unfold maxLen;omega) (by omega) (Nat.zero_le _) ?_;intro A' c1' w1 ho1 hg1 hl1;obtain⟨hq1,hq2,hq3⟩:=HS.out A' c1' w1 ho1 hg1 hl1;obtain⟨c0,c1,c2,c3,c4,f0⟩:=hcell5 hq1;have HQ2:=zh hq2;have HQ3:=zh hq3;clear hq1 hq2 hq3 ho1 hg1 hl1)
    |(go_at_call 123;(with_reducible refine (dact_any _ _ _ _ HQ2.out).mono ?_);rintro e w3 ⟨rfl,hd3,hk3⟩))
   all_goals
    refine Hr.out.out _ _ ⟨?_,hd3,HQ3.out.trans hk3 (λ_ _ e=>.inl e)⟩
    first
     |(rw[if_pos (by assumption)];rfl)
     |(rw[if_neg (by simp[*])];rfl)
 ·have HF:=zh (hR.out (.returned (.int .i64 11)) w (by
   unfold Dk.app
   rw[if_pos rfl]
   exact⟨rfl,hh,Kx.refl _ _⟩))
  have HD:=zh hd
  clear hR h2 ho hg hne hh hx hxn hd
  go_enter Tryz.func370,Tryz.ntmps370
  go_wp2_with (go_at_call 55;(with_reducible refine (HD.out).mono ?_);rintro e w' ⟨rfl,rfl⟩)
  exact HF.out
theorem dsync_any(w:World)(F:Nat->Prop)(a:Nat)(d:Dk)(h:Dsk w F a d):Calls Tryz.prog 59 #[.pointer (some ⟨a,0,none⟩)] w λe w'=>e=.returned (.int .i64 d.sync.2)/\Dsk w' F a d.sync.1/\Kx (λj=>j=a) w w':=by
 refine calls_cps ?_
 intro R hR
 have HD:=zh (ready_any w F a _ h)
 have HA:=zh (dact_any w F a _ h)
 cases hdn:d.down
 ·have HH:=zh hdn
  rw[hdn] at HD
  unfold Dk.sync at hR
  rw[hdn,if_neg (by simp)] at hR
  have Hr:=zh hR
  clear hR hdn h
  go_enter Tryz.func59,Tryz.ntmps59
  go_wp2_with (first
   |(go_at_call 55;(with_reducible refine (HD.out).mono ?_);rintro e w' ⟨rfl,rfl⟩)
   |(go_at_call 123;(with_reducible refine (HA.out).mono ?_);rintro e w3 ⟨rfl,hd3,hk3⟩;have HD3:=zh hd3;obtain⟨-,-,A3,k3,q3,-,-⟩:=hd3;obtain⟨d0,d1,d2,d3,d4,e3⟩:=hcell5 q3;clear q3))
  ·rename_i h1
   exact Hr.out.out _ _ (by rw[if_pos h1];exact⟨rfl,HD3.out,hk3⟩)
  ·rename_i h1
   have h1:d.act.2=false:=by simpa using h1
   refine Hr.out.out _ _ ?_
   rw[if_neg (by rw[h1];decide)]
   refine⟨rfl,?_,hk3.trans (kx_put _ a 2 _) (λ_ _ h=>h)⟩
   obtain⟨ok,hf,A,c,h2,ho,hg⟩:=HD3.out
   have hne:=own_nea h2 ho (by decide)
   have hd4:A3=A/\k3=c:=by
    have:=(hcell5 h2).2.1
    rw[d1] at this
    simp only[Option.some.injEq,Value.slice.injEq] at this
    exact⟨this.1,this.2.2⟩
   exact Dsk.set (A:=A) (c:=c) hf ⟨ok.1,Nat.le_refl _,ok.2.2⟩ h2 rfl ho hg hne
 ·have HF:=zh (hR.out (.returned (.int .i64 11)) w (by
   unfold Dk.sync
   rw[if_pos hdn]
   exact⟨rfl,h,Kx.refl _ _⟩))
  rw[hdn] at HD
  clear hR h hdn HA
  go_enter Tryz.func59,Tryz.ntmps59
  go_wp2_with (go_at_call 55;(with_reducible refine (HD.out).mono ?_);rintro e w' ⟨rfl,rfl⟩)
  exact HF.out
theorem Dsk.kx_ty{w w':World}{S F:Nat->Prop}{a:Nat}{d:Dk}(h:Dsk w F a d)(k:Kx S w w')(h1:∀ C,w.heap[a]?=some (.cells C 158 (0,0))->¬ S a)(h2:∀ j C,w.heap[j]?=some (.cells C 5 (0,0))->¬ S j):Dsk w' F a d:=by
 obtain⟨q0,q1,A,c,q2,q3,q4⟩:=h
 refine⟨q0,q1,A,c,(k.block a (Array.getElem?_eq_some_iff.1 q2).1 (h1 _ q2)).trans q2,own_heap q3 λg hg=>?_,q4⟩
 obtain⟨C,hC⟩:=own_blk q3 hg
 exact k.block g (Array.getElem?_eq_some_iff.1 hC).1 (h2 g C hC)
theorem ndisk_any(w:World)(F:Nat->Prop)(hu:Up w F):Calls Tryz.prog 21 #[] w λe w'=>e=.returned (.pointer (some ⟨w.heap.size,0,none⟩))/\Dsk w' F w.heap.size Dk.new/\Below w.heap.size w w':=by
 refine calls_cps ?_
 intro R hR
 have HF:=zh (hR.out (.returned (.pointer (some ⟨w.heap.size,0,none⟩))) (w.alloc (.cells #[.bool true,.slice none 0 0,.int .i64 0,.bool false,.int .i64 0] 158)) ⟨rfl,⟨⟨by decide,by decide,by decide⟩,hu _ (Nat.le_refl _),none,0,heap_alloc_new w _,World.ownsRow_nil _ _ _ _,λg hg=>by simp[Value.ownBlock] at hg⟩,below_new w _⟩)
 clear hR
 go_enter Tryz.func21,Tryz.ntmps21
 go_wp2
 exact HF.out
end
end
section
section
open Go.RowKit
theorem put_any(A:Option Addr)(m c n size B:Nat)(xs:List UInt8)(w:World)(ho:w.ownsRow B 5 1 (.slice A m c) m (xs.flatMap byE))(hB:B<=w.heap.size)(_hn:n<4294967296)(hs:size<=4)(hm:m<=100000) :
 Calls Tryz.prog 394 #[.slice A m c,.int .u32 (n:Int),.int .i64 (size:Int)] w λe w'=>∃ A' c',e=.returned (.slice A' (m+size) c')/\w'.ownsRow B 5 1 (.slice A' (m+size) c') (m+size) ((xs++putL n size).flatMap byE)/\Below B w w':=by
 refine calls_cps ?_
 intro R hR
 have Hr:=zh hR.out
 have HO:=zh ho
 clear hR ho
 go_enter Tryz.func394,Tryz.ntmps394
 go_wp2_with fail
 go_loopw [0,7] (λs0 s7 wr=>∃ (k:Nat) (dn:List UInt8) (A':Option Addr) (c' l:Nat),k<=size/\s7=.int .i64 ((k:Int)-1)/\Hid (putL n size=dn++putL n k)/\s0=.slice A' l c'/\l<=100004/\Hid (l=m+(size-k))/\Hid (wr.ownsRow B 5 1 (.slice A' l c') l ((xs++dn).flatMap byE))/\Hid (Below B w wr)) (λ_ s7 _=>(intOf s7+1).toNat)
 case atStart=>exact⟨size,[],A,c,m,Nat.le_refl _,rfl,zh rfl,rfl,by omega,zh (by omega),zh (by rw[List.append_nil];exact HO.out),zh (Below.refl _ _)⟩
 case round =>
  obtain⟨k,dn,A',c',l,hk,rfl,Hp,rfl,hl,Hl,Ho,Hb⟩:=hrel
  cases k with
  |zero =>
   rw[show ((0:Nat):Int)-1 = -1 from rfl]
   have Hf:=zh (show R (.returned (.slice A' l c')) wr from Hr.out _ _ (by
    have hl':=Hl.out
    have hp:=Hp.out
    have ho:=Ho.out
    simp only[Nat.sub_zero] at hl'
    subst hl'
    simp only[putL,List.append_nil] at hp
    rw[← hp] at ho
    exact⟨A',c',rfl,ho,Hb.out⟩))
   clear Hr HO Ho Hb Hp Hl
   go_wp2
   exact Hf.out
  |succ k =>
   rw[show (((k+1:Nat):Int)-1)=(k:Int) by omega]
   have i1:0<=8*(k:Int):=by omega
   have i2:8*(k:Int)<=24:=by omega
   have HA:∀ o,Hid ((wr.alloc o).ownsRow B 5 1 (.slice A' l c') l ((xs++dn).flatMap byE)):=λo=>zh (Ho.out.alloc o)
   have HBs:=zh (Nat.le_trans hB Hb.out.size)
   go_wp2_with (at_builtin;refine wpList_app rfl (.tmp 14) (.tmp 20) _ rfl elemBy B _ _ _ rfl (HA _).out _ _ _ _ rfl (Sl.newAt wr #[.int .u8 ((n:Int)/2 ^ (8*k)%256)] _ 1 1 rfl rfl) (by simp[Value.oneCell']) (by unfold maxLen;omega) (by omega) (by simp;exact Nat.le_succ_of_le HBs.out) ?_;intro A2 c2 w1 ho1 hg1 hl1)
   refine⟨⟨k,dn++[UInt8.ofNat (n/256 ^ k)],A2,c2,l+1,by omega,rfl,zh ?_,rfl,by have:=Hl.out;omega,zh (by have:=Hl.out;omega),zh ?_,zh ?_⟩,by simp[intOf]⟩
   ·rw[Hp.out,putL,List.append_assoc];rfl
   ·have e:byE (UInt8.ofNat (n/256 ^ k))=[.int .u8 ((n:Int)/2 ^ (8*k)%256)]:=by
     unfold byE
     rw[UInt8.toNat_ofNat',show (256:Nat)=2 ^ 8 from rfl,← Nat.pow_mul]
     simp
    rw[← List.append_assoc,List.flatMap_append,List.flatMap_cons,e]
    simpa using ho1
   ·exact below_own (Hb.out.alloc HBs.out _) ((HA _).out) (Nat.le_refl _) (by simp;exact Nat.le_succ_of_le HBs.out) hg1
theorem or_add(a b:Nat)(hb:b<32):(a*32) ||| b=a*32+b:=by
 have:=Nat.two_pow_add_eq_or_of_lt (i:=5) (b:=b) (by simpa using hb) a
 rw[show 2 ^ 5*a=a*32 by omega] at this
 exact this.symm
theorem rot5_any(x:Nat)(hx:x<4294967296)(w:World) :
 Calls Tryz.prog 237 #[.int .u32 (x:Int),.int .i64 5] w λe w'=>e=.returned (.int .u32 (((x*32)%4294967296+x/134217728:Nat):Int))/\w=w':=by
 have e1:bits BinOp.and IntKind.u64 5 31=5:=by decide +kernel
 have hx':(x:Int)<4294967296:=by omega
 go_enter Tryz.func237,Tryz.ntmps237
 go_wp2_with fail
 go_ret
 refine⟨ret_int ?_,rfl⟩
 have e2:((x:Int)*32%4294967296)=((x*32%4294967296:Nat):Int):=by omega
 have e3:((x:Int)/134217728)=((x/134217728:Nat):Int):=by omega
 rw[e2,e3,u32_or_nat _ _ (by omega) (by omega)]
 have e4:x*32%4294967296=(x%134217728)*32:=by omega
 rw[e4,or_add _ _ (by omega)]
def rotN(s:Nat):Nat:=(s*32)%4294967296+s/134217728
theorem rotN_lt{s:Nat}(h:s<4294967296):rotN s<4294967296:=by unfold rotN;omega
theorem sumS_eq(s:Nat)(c:UInt8):((rotN s*31%4294967296)+c.toNat)%4294967296=sumS s c:=by unfold sumS rotN;omega
theorem sumL_lt(x:List UInt8):sumL x<4294967296:=by
 unfold sumL
 have:∀ (x:List UInt8) (s:Nat),s<4294967296->x.foldl sumS s<4294967296:=by
  intro x
  induction x with
  |nil=>intro s h;exact h
  |cons c r ih=>intro s _;exact ih _ (by unfold sumS;omega)
 exact this x _ (Nat.mod_lt _ (by decide))
theorem sumS_lt(s:Nat)(c:UInt8):sumS s c<4294967296:=by unfold sumS;omega
theorem sum_any(A:Option Addr)(n c:Nat)(x:List UInt8)(w:World)(h:SlE byE 1 w A n x)(hn:n<=100000) :
 Calls Tryz.prog 119 #[.slice A n c] w λe w'=>e=.returned (.int .u32 (sumL x:Nat))/\w=w':=by
 refine calls_cps ?_
 intro R hR
 have Hr:=zh (show ∀ v,v=sumL x->R (.returned (.int .u32 (v:Nat))) w from λv hv=>hR.out _ _ ⟨by rw[hv],rfl⟩)
 have HX:=zh h
 have Hn:=zh h.1
 clear hR h
 have i0:(n:Int)<4294967295:=by omega
 go_enter Tryz.func119,Tryz.ntmps119
 go_wp2_with fail
 go_loopw [3,12] (λs3 s12 wr=>∃ (k v:Nat),k<=n/\s12=.int .i64 (k:Int)/\s3=.int .u32 (v:Int)/\v<4294967296/\Hid (v=(x.take k).foldl sumS ((x.length+1)%4294967296))/\w=wr) (λ_ s12 _=>n-(intOf s12).toNat)
 case atStart=>exact⟨0,n+1,Nat.zero_le _,rfl,by simp,by omega,zh (by rw[← Hn.out,List.take_zero];show n+1=(n+1)%4294967296;omega),rfl⟩
 case round =>
  obtain⟨k,v,hk,rfl,rfl,hv,Hv,rfl⟩:=hrel
  by_cases hlt:k<n
  ·obtain⟨b,o,y,rfl,hb,hy,hc⟩:=HX.out.at_ byE_len hlt
   have q0:=hc 0 _ rfl
   have hy256:(y.toNat:Int)<256:=by have:=y.toNat_lt;omega
   have i1:(k:Int)<(n:Int):=by omega
   have Hy:=zh hy
   simp only[Nat.mul_one,Nat.add_zero] at q0
   clear hc hy
   have hr2:=rotN_lt hv
   go_wp2_with (go_at_call 237;(with_reducible refine (rot5_any _ hv _).mono ?_);rintro e w' ⟨rfl,rfl⟩)
   refine⟨⟨k+1,sumS v y,hlt,by go_num,?_,sumS_lt _ _,zh ?_,by trivial⟩,by simp[intOf]<;>omega⟩
   ·rw[← sumS_eq]
    unfold rotN
    congr 1
   ·rw[List.take_add_one,Hy.out,List.foldl_append,← Hv.out];rfl
  ·have hkn:k=n:=by omega
   subst hkn
   have i1:¬ (k:Int)<(k:Int):=by omega
   have Hf:=Hr.out v (by rw[Hv.out,List.take_of_length_le (by rw[← Hn.out];exact Nat.le_refl _)];rfl)
   have HF:=zh Hf
   clear Hr Hf Hv HX Hn
   go_wp2
   exact HF.out
theorem SlE.below'{α:Type}{enc:α->List Value}{sz:Nat}{w w':World}{A:Option Addr}{n:Nat}{l:List α}(h:SlE enc sz w A n l)(hb:Below w.heap.size w w'):SlE enc sz w' A n l:=h.below hb
theorem hcell4{W:World}{b:Nat}{t:TypeId}{u0 u1 u2 u3:Value}(h:W.heap[b]?=some (.cells #[u0,u1,u2,u3] t (0,0))) :
 W.cell? ⟨b,0,none⟩=some u0/\W.cell? ⟨b,1,none⟩=some u1/\W.cell? ⟨b,2,none⟩=some u2/\W.cell? ⟨b,3,none⟩=some u3/\(∀ j,W.frozen? ⟨b,j,none⟩=false):=cells4 h
theorem str_by(s:ByteArray):Lib.strCells s=s.data.toList.flatMap byE:=by
 unfold Lib.strCells
 induction s.data.toList with
 |nil=>rfl
 |cons a r ih=>rw[List.map_cons,List.flatMap_cons,ih];rfl
theorem by_size(s:ByteArray)(h:s.size<256):byE (UInt8.ofNat s.size)=[.int .u8 (s.size:Int)]:=by
 unfold byE
 rw[UInt8.toNat_ofNat',Nat.mod_eq_of_lt h]
theorem kept_box{w w':World}{tb base e sz n:Nat}{C:Array Value}{ty:TypeId}{v:Value}{xs:List Value}(hx:w.heap[tb]?=some (.cells C ty (0,0)))(ho:w.ownsRow base e sz v n xs)(hne:e≠ty)(hg:w.grownBy w' v.ownBlock):w'.heap[tb]?=some (.cells C ty (0,0)):=
 (hg.block tb (Array.getElem?_eq_some_iff.1 hx).1 λh=>own_nea hx ho hne tb h.symm rfl).trans hx
theorem enc_app(P Q:List UInt8)(s:ByteArray)(h:s.size<256):(P++Q).flatMap byE++[Value.int .u8 (s.size:Int)]++Lib.strCells s=(P++(Q++encS s)).flatMap byE:=by
 unfold encS
 rw[str_by,← by_size s h]
 simp only[List.flatMap_append,List.flatMap_cons,List.append_assoc]
theorem below_al1'{w W:World}(h:Below w.heap.size w W)(o:Obj):Below w.heap.size w (W.alloc o):=h.alloc h.size o
theorem run_idx0(s0 s1 s2:ByteArray)(w:World):(Instr.index 551 (.agg #[.string s0,.string s1,.string s2]) (.int .i64 0)).run Tryz.prog w=.ok (.string s0) w:=by kernel_rfl
theorem run_idx1(s0 s1 s2:ByteArray)(w:World):(Instr.index 551 (.agg #[.string s0,.string s1,.string s2]) (.int .i64 1)).run Tryz.prog w=.ok (.string s1) w:=by kernel_rfl
theorem run_idx2(s0 s1 s2:ByteArray)(w:World):(Instr.index 551 (.agg #[.string s0,.string s1,.string s2]) (.int .i64 2)).run Tryz.prog w=.ok (.string s2) w:=by kernel_rfl
theorem wpList_idx{P:Program}{w:World}{ops:Array Oper}{rest:List Oper}{o:Oper}{a:Act}{Q:Exit->Act->World->Prop}(hg:o.guard=none)(x i:Operand)(t:TypeId)(hop:o.op=Op.index t x i)(xv iv v:Value)
 (hx:a.eval x=xv) (hi:a.eval i=iv) (hrun:(Instr.index t xv iv).run P w=.ok v w) (h:wpList P ops Q rest (a.put o.dst v) w):wpList P ops Q (o :: rest) a w:=
 wpList_plain hg λK hK=>by
  unfold Oper.wp
  simp[execOp,hop,hx,hi,hrun,Result.andThen]
  exact hK _ _ h
def mvE(m:Mv):List Value:=[.string m.f,.string m.t,.string m.i,.int .i64 m.q]
theorem mvE_len(m:Mv):(mvE m).length=4:=rfl
theorem mv_one(l:List Mv):∀ u∈l.flatMap mvE,u.oneCell'=true:=by
 intro u hu
 obtain⟨x,_,hx⟩:=List.mem_flatMap.1 hu
 simp only[mvE,List.mem_cons,List.not_mem_nil,or_false] at hx
 rcases hx with rfl|rfl|rfl|rfl<;>rfl
theorem SlE.mv_at{w:World}{A:Option Addr}{n k:Nat}{l:List Mv}(h:SlE mvE 4 w A n l)(hk:k<n) :
 ∃ b o m,A=some ⟨b,o,none⟩/\b<w.heap.size/\l[k]?=some m/\w.cell? ⟨b,o+k*4,none⟩=some (.string m.f)/\w.cell? ⟨b,o+k*4+1,none⟩=some (.string m.t)/\w.cell? ⟨b,o+k*4+2,none⟩=some (.string m.i)/\w.cell? ⟨b,o+k*4+3,none⟩=some (.int .i64 m.q):=by
 obtain⟨b,o,m,hA,hb,hm,hc⟩:=h.at_ mvE_len hk
 exact⟨b,o,m,hA,hb,hm,hc 0 _ rfl,hc 1 _ rfl,hc 2 _ rfl,hc 3 _ rfl⟩
def mvZ(l:List Mv):Prop:=l.length<=32/\∀ m∈l,m.f.size<=12/\m.t.size<=12/\m.i.size<=12/\1<=m.q/\m.q<=1000000000
theorem mvZ_of{l:List Mv}(h:enOk l=true):mvZ l:=by
 unfold enOk mvOk nameB at h
 simp only[Bool.and_eq_true,decide_eq_true_eq,List.all_eq_true] at h
 exact⟨h.2,λm hm=>by have:=h.1.1 m hm;omega⟩
theorem encode_any(A:Option Addr)(n c:Nat)(l:List Mv)(w:World)(h:SlE mvE 4 w A n l)(hz:mvZ l) :
 Calls Tryz.prog 371 #[.slice A n c] w λe w'=>∃ A' m c',e=.returned (.slice A' m c')/\SlE byE 1 w' A' m (encE l)/\m<=1400/\Below w.heap.size w w':=by
 refine calls_cps ?_
 intro R hR
 have Hr:=zh hR.out
 have HX:=zh h
 have Hz:=zh hz
 have Hn:=zh h.1
 have hn:n<=32:=by rw[h.1];exact hz.1
 clear hR h hz
 have i0:(n:Int)<256:=by omega
 go_enter Tryz.func371,Tryz.ntmps371
 go_wp2_with fail
 go_loopw [3,15] (λs3 s15 wr=>∃ (k m c':Nat) (A':Option Addr),k<=n/\s15=.int .i64 (k:Int)/\s3=.slice A' m c'/\m<=1+43*k/\Hid (wr.ownsRow w.heap.size 5 1 (.slice A' m c') m ((UInt8.ofNat l.length :: (l.take k).flatMap encM).flatMap byE))/\Hid (Below w.heap.size w wr)) (λ_ s15 _=>n-(intOf s15).toNat)
 case atStart =>
  refine⟨0,1,1,_,Nat.zero_le _,rfl,rfl,by omega,zh ?_,zh (below_new w _)⟩
  rw[List.take_zero]
  have hc:((UInt8.ofNat l.length).toNat:Int)=(n:Int):=by
   rw[UInt8.toNat_ofNat',← Hn.out]
   omega
  have:=own_new w #[.int .u8 (n:Int)] 5 1 1 w.heap.size rfl (Nat.le_refl _) (by unfold maxLen;omega)
  show (w.alloc _).ownsRow _ _ _ _ _ [Value.int .u8 ((UInt8.ofNat l.length).toNat:Int)]
  rw[hc]
  exact this
 case round =>
  obtain⟨k,m,c',A',hk,rfl,rfl,hm,Ho,Hb⟩:=hrel
  by_cases hlt:k<n
  ·obtain⟨b,o,y,rfl,hb,hy,q0,q1,q2,q3⟩:=(HX.out.below' Hb.out).mv_at hlt
   obtain⟨z1,z2,z3,z4,z5⟩:=Hz.out.2 y (List.mem_of_getElem? hy)
   have i1:(k:Int)<(n:Int):=by omega
   have Hy:=zh hy
   obtain⟨tb,htb⟩:∃ tb,wr.heap.size=tb:=⟨_,rfl⟩
   have HT:=zh htb
   clear hy htb
   have hbox:=heap_alloc_new wr (.cells #[.string y.f,.string y.t,.string y.i,.int .i64 y.q] 264)
   rw[HT.out] at hbox
   have HBX:=zh hbox
   have HB1:=zh (below_al1' Hb.out (.cells #[.string y.f,.string y.t,.string y.i,.int .i64 y.q] 264))
   have HO1:=zh (Ho.out.alloc (.cells #[.string y.f,.string y.t,.string y.i,.int .i64 y.q] 264))
   clear hbox Ho Hb
   go_wp2_with fail
   rw[HT.out]
   go_loopw [3,26] (λs3 s26 wx=>∃ (j m' c2:Nat) (A2:Option Addr),j<=3/\s26=.int .i64 (j:Int)/\s3=.slice A2 m' c2/\m'<=m+13*j/\Hid (wx.ownsRow w.heap.size 5 1 (.slice A2 m' c2) m' (((UInt8.ofNat l.length :: (l.take k).flatMap encM)++([y.f,y.t,y.i].take j).flatMap encS).flatMap byE))/\Hid (Below w.heap.size w wx)/\Hid (wx.heap[tb]?=some (.cells #[.string y.f,.string y.t,.string y.i,.int .i64 y.q] 264 (0,0)))) (λ_ s26 _=>3-(intOf s26).toNat)
   case atStart=>exact⟨0,m,c',A',by omega,rfl,rfl,by omega,zh (by simpa using HO1.out),HB1,HBX⟩
   case round =>
    obtain⟨j,m',c2,A2,hj,rfl,rfl,hm',Ho,Hb,Hx⟩:=hrel
    by_cases hj3:j<3
    ·have HA:∀ o,Hid ((wr.alloc o).ownsRow w.heap.size 5 1 (.slice A2 m' c2) m' (((UInt8.ofNat l.length :: (l.take k).flatMap encM)++([y.f,y.t,y.i].take j).flatMap encS).flatMap byE)):=λo=>zh (Ho.out.alloc o)
     have HBs:=zh Hb.out.size
     have hs256:(y.f.size:Int)<256:=by omega
     have ht256:(y.t.size:Int)<256:=by omega
     have hi256:(y.i.size:Int)<256:=by omega
     obtain rfl|rfl|rfl:j=0\/j=1\/j=2:=by omega
     ·skip
      rw[show ((0:Nat):Int)=0 from rfl]
      have HX0:=λo=>zh ((heap_alloc_old wr o (r:=tb) (Array.getElem?_eq_some_iff.1 Hx.out).1).trans Hx.out)
      obtain⟨iby,z1by,z2by,z3by,z4by⟩:=info_parts infoBy
      go_wp2_with (first
       |(refine wpList_idx rfl (.tmp 25) (.tmp 26) 551 rfl _ _ _ rfl rfl (run_idx0 _ _ _ _) ?_)
       |(at_builtin;refine wpList_app rfl (.tmp 29) (.tmp 33) _ rfl elemBy w.heap.size _ _ _ rfl (HA _).out _ _ _ _ rfl (Sl.newAt wr #[.int .u8 (y.f.size:Int)] _ 1 1 rfl rfl) (by simp[Value.oneCell']) (by unfold maxLen;omega) (by omega) (by simp;exact Nat.le_succ_of_le HBs.out) ?_;intro A3 c3 w1 ho1 hg1 hl1;have HX1:=zh (kept_box (HX0 _).out (HA _).out (by decide) hg1);have HB1:=zh (below_own (below_al1' Hb.out _) (HA _).out (Nat.le_refl _) (below_al1' Hb.out _).size hg1);have HO1:=zh ho1;clear ho1 hg1 hl1)
       |(at_builtin;refine Lib.wpList_append_own_string _ rfl (.tmp 35) (.tmp 36) _ _ rfl w.heap.size 5 _ Tryz.underlying156 Tryz.underlying9 z1by z2by z3by z4by _ _ _ rfl HO1.out y.f rfl (by unfold maxLen;omega) (by omega) HB1.out.size ?_;intro v4 w2 ho2 hg2 hn2;obtain⟨A4,c4,rfl,-,-,ho2'⟩:=own_slice ho2;have HX2:=zh (kept_box HX1.out HO1.out (by decide) hg2);have HB2:=zh (below_own HB1.out HO1.out (Nat.le_refl _) HB1.out.size hg2);have HO2:=zh ho2;clear ho2 hg2 hn2 ho2'))
      refine⟨⟨0+1,m'+1+y.f.size,c4,A4,by omega,rfl,rfl,by omega,zh ?_,HB2,HX2⟩,by simp[intOf]⟩
      have h2:=HO2.out
      rw[enc_app _ _ _ (by omega)] at h2
      have e:([y.f,y.t,y.i].take (0+1)).flatMap encS=([y.f,y.t,y.i].take 0).flatMap encS++encS y.f:=by simp
      rw[e]
      exact h2
     ·skip
      rw[show ((1:Nat):Int)=1 from rfl]
      have HX0:=λo=>zh ((heap_alloc_old wr o (r:=tb) (Array.getElem?_eq_some_iff.1 Hx.out).1).trans Hx.out)
      obtain⟨iby,z1by,z2by,z3by,z4by⟩:=info_parts infoBy
      go_wp2_with (first
       |(refine wpList_idx rfl (.tmp 25) (.tmp 26) 551 rfl _ _ _ rfl rfl (run_idx1 _ _ _ _) ?_)
       |(at_builtin;refine wpList_app rfl (.tmp 29) (.tmp 33) _ rfl elemBy w.heap.size _ _ _ rfl (HA _).out _ _ _ _ rfl (Sl.newAt wr #[.int .u8 (y.t.size:Int)] _ 1 1 rfl rfl) (by simp[Value.oneCell']) (by unfold maxLen;omega) (by omega) (by simp;exact Nat.le_succ_of_le HBs.out) ?_;intro A3 c3 w1 ho1 hg1 hl1;have HX1:=zh (kept_box (HX0 _).out (HA _).out (by decide) hg1);have HB1:=zh (below_own (below_al1' Hb.out _) (HA _).out (Nat.le_refl _) (below_al1' Hb.out _).size hg1);have HO1:=zh ho1;clear ho1 hg1 hl1)
       |(at_builtin;refine Lib.wpList_append_own_string _ rfl (.tmp 35) (.tmp 36) _ _ rfl w.heap.size 5 _ Tryz.underlying156 Tryz.underlying9 z1by z2by z3by z4by _ _ _ rfl HO1.out y.t rfl (by unfold maxLen;omega) (by omega) HB1.out.size ?_;intro v4 w2 ho2 hg2 hn2;obtain⟨A4,c4,rfl,-,-,ho2'⟩:=own_slice ho2;have HX2:=zh (kept_box HX1.out HO1.out (by decide) hg2);have HB2:=zh (below_own HB1.out HO1.out (Nat.le_refl _) HB1.out.size hg2);have HO2:=zh ho2;clear ho2 hg2 hn2 ho2'))
      refine⟨⟨1+1,m'+1+y.t.size,c4,A4,by omega,rfl,rfl,by omega,zh ?_,HB2,HX2⟩,by simp[intOf]⟩
      have h2:=HO2.out
      rw[enc_app _ _ _ (by omega)] at h2
      have e:([y.f,y.t,y.i].take (1+1)).flatMap encS=([y.f,y.t,y.i].take 1).flatMap encS++encS y.t:=by simp
      rw[e]
      exact h2
     ·skip
      rw[show ((2:Nat):Int)=2 from rfl]
      have HX0:=λo=>zh ((heap_alloc_old wr o (r:=tb) (Array.getElem?_eq_some_iff.1 Hx.out).1).trans Hx.out)
      obtain⟨iby,z1by,z2by,z3by,z4by⟩:=info_parts infoBy
      go_wp2_with (first
       |(refine wpList_idx rfl (.tmp 25) (.tmp 26) 551 rfl _ _ _ rfl rfl (run_idx2 _ _ _ _) ?_)
       |(at_builtin;refine wpList_app rfl (.tmp 29) (.tmp 33) _ rfl elemBy w.heap.size _ _ _ rfl (HA _).out _ _ _ _ rfl (Sl.newAt wr #[.int .u8 (y.i.size:Int)] _ 1 1 rfl rfl) (by simp[Value.oneCell']) (by unfold maxLen;omega) (by omega) (by simp;exact Nat.le_succ_of_le HBs.out) ?_;intro A3 c3 w1 ho1 hg1 hl1;have HX1:=zh (kept_box (HX0 _).out (HA _).out (by decide) hg1);have HB1:=zh (below_own (below_al1' Hb.out _) (HA _).out (Nat.le_refl _) (below_al1' Hb.out _).size hg1);have HO1:=zh ho1;clear ho1 hg1 hl1)
       |(at_builtin;refine Lib.wpList_append_own_string _ rfl (.tmp 35) (.tmp 36) _ _ rfl w.heap.size 5 _ Tryz.underlying156 Tryz.underlying9 z1by z2by z3by z4by _ _ _ rfl HO1.out y.i rfl (by unfold maxLen;omega) (by omega) HB1.out.size ?_;intro v4 w2 ho2 hg2 hn2;obtain⟨A4,c4,rfl,-,-,ho2'⟩:=own_slice ho2;have HX2:=zh (kept_box HX1.out HO1.out (by decide) hg2);have HB2:=zh (below_own HB1.out HO1.out (Nat.le_refl _) HB1.out.size hg2);have HO2:=zh ho2;clear ho2 hg2 hn2 ho2'))
      refine⟨⟨2+1,m'+1+y.i.size,c4,A4,by omega,rfl,rfl,by omega,zh ?_,HB2,HX2⟩,by simp[intOf]⟩
      have h2:=HO2.out
      rw[enc_app _ _ _ (by omega)] at h2
      have e:([y.f,y.t,y.i].take (2+1)).flatMap encS=([y.f,y.t,y.i].take 2).flatMap encS++encS y.i:=by simp
      rw[e]
      exact h2
    ·have hj3':j=3:=by omega
     subst hj3'
     have hcx:=hcell4 Hx.out
     obtain⟨b0,b1,b2,b3,-⟩:=hcx
     have iq:0<=y.q:=by omega
     have iq2:y.q<4294967296:=by omega
     obtain⟨Q,hQ⟩:∃ Q:Nat,y.q=(Q:Int):=⟨y.q.toNat,by omega⟩
     have HQ:=zh hQ
     rw[hQ] at b3 iq iq2
     clear hQ
     have hQ2:Q<4294967296:=by omega
     go_wp2_with fail
     refine (put_any A2 m' c2 Q 4 w.heap.size _ wr Ho.out Hb.out.size hQ2 (by omega) (by omega)).mono ?_
     rintro e wy ⟨A3,c3,rfl,ho3,hb3⟩
     have HO3:=zh ho3
     have HB3:=zh (Hb.out.trans hb3)
     clear ho3 hb3
     go_wp2_with fail
     refine⟨⟨k+1,m'+4,c3,A3,hlt,by go_num,rfl,by omega,zh ?_,HB3⟩,by simp[intOf]<;>omega⟩
     rw[List.take_add_one,Hy.out]
     have e:[y.f,y.t,y.i].take 3=[y.f,y.t,y.i]:=rfl
     have e2:y.q.toNat=Q:=by have:=HQ.out;omega
     have h3:=HO3.out
     rw[e] at h3
     have e3:UInt8.ofNat l.length :: (l.take k++(some y).toList).flatMap encM=(UInt8.ofNat l.length :: (l.take k).flatMap encM)++[y.f,y.t,y.i].flatMap encS++putL Q 4:=by
      rw[List.flatMap_append]
      show _=UInt8.ofNat l.length :: ((l.take k).flatMap encM++[y.f,y.t,y.i].flatMap encS++putL Q 4)
      congr 1
      rw[List.append_assoc]
      congr 1
      show encM y++[]=_
      rw[List.append_nil,← e2]
      show encS y.f++encS y.t++encS y.i++putL y.q.toNat 4=(encS y.f++(encS y.t++(encS y.i++[])))++putL y.q.toNat 4
      simp only[List.append_assoc,List.append_nil]
     rw[e3]
     exact h3
  ·have hkn:k=n:=by omega
   subst hkn
   have i1:¬ (k:Int)<(k:Int):=by omega
   have e0:UInt8.ofNat l.length :: (l.take k).flatMap encM=bodyL l:=by
    unfold bodyL
    rw[List.take_of_length_le (by rw[← Hn.out];exact Nat.le_refl _)]
   rw[e0] at Ho
   have hm9:m<4294967296:=by omega
   have hml:=Ho.out.1
   rw[flat_length byE_len,Nat.mul_one,Nat.mul_one] at hml
   have HML:=zh hml
   have HY0:=zh (SlE.of_own Ho.out hml.symm)
   clear e0 hml HX Hz
   go_wp2_with fail
   refine (put_any none 0 0 m 2 wr.heap.size [] wr (World.ownsRow_nil _ _ _ _) (Nat.le_refl _) hm9 (by omega) (by omega)).mono ?_
   rintro e w2 ⟨A2,c2,rfl,ho2,hb2⟩
   have HO2:=zh ho2
   have HB2:=zh hb2
   have HY2:=zh (HY0.out.below hb2)
   clear ho2 hb2
   go_wp2_with fail
   refine (sum_any A' m c' (bodyL l) w2 HY2.out (by omega)).mono ?_
   rintro e w2' ⟨rfl,rfl⟩
   have hsl:sumL (bodyL l)<4294967296:=sumL_lt _
   go_wp2_with fail
   refine (put_any A2 (0+2) c2 (sumL (bodyL l)) 4 wr.heap.size _ w2 HO2.out HB2.out.size hsl (by omega) (by omega)).mono ?_
   rintro e w3 ⟨A3,c3,rfl,ho3,hb3⟩
   have HO3:=zh ho3
   have HB3:=zh (HB2.out.trans hb3)
   have HY3:=zh (HY0.out.below HB3.out)
   clear ho3 hb3
   go_wp2_with (at_builtin;refine wpList_app rfl (.tmp 52) (.tmp 53) _ rfl elemBy wr.heap.size _ _ _ rfl HO3.out _ _ _ _ rfl HY3.out.2 (by_one _) (by unfold maxLen;omega) (by omega) HB3.out.size ?_;intro A4 c4 w4 ho4 hg4 hl4)
   refine Hr.out _ _ ⟨A4,0+2+4+m,c4,rfl,?_,by omega,?_⟩
   ·have h5:([]++putL m 2++putL (sumL (bodyL l)) 4).flatMap byE++(bodyL l).flatMap byE=(encE l).flatMap byE:=by
     unfold encE
     rw[← HML.out,List.nil_append,← List.flatMap_append]
    rw[h5] at ho4
    refine SlE.of_own ho4 ?_
    unfold encE
    rw[List.length_append,List.length_append,putL_len,putL_len,← HML.out]
   ·exact Hb.out.trans ((below_own HB3.out HO3.out (Nat.le_refl _) HB3.out.size hg4).mono Hb.out.size)
end
end
section
section
open Go.RowKit Go.Maps
theorem plRow:(268:TypeId)<Tryz.prog.types.size:=of_decide_eq_true (by kernel_rfl)
theorem plWide:(match Tryz.prog.underlying 268 with|some (.array _ _)|some (.struct _)=>true|_=>false)=true:=by kernel_rfl
theorem plLaid:laidOutB Tryz.prog=true:=by kernel_rfl
theorem plKey:Tryz.prog.keyType 268=true:=by kernel_rfl
theorem plAt:Tryz.prog.keyTypeAt 2 268=true:=by kernel_rfl
theorem plLaw0:WideMaps.KeyLaw Tryz.prog 268:=deep_law_laid plLaid (m:=2) (by omega) plRow plAt plWide
theorem plLaw:Keyed Tryz.prog 268:=Keyed.of_law plLaw0
def keyV(p:Pl):Value:=.agg #[.string p.1,.string p.2]
def keyL(p:Pl):Lit:=.string (keyBytes [.string p.1.data.toList,.string p.2.data.toList])
def PlZ(p:Pl):Prop:=p.1.size<=1000000/\p.2.size<=1000000
theorem key_of{p:Pl}(h:PlZ p):keyOf Tryz.prog 268 (keyV p)=some (keyL p):=by
 obtain⟨a,i⟩:=p
 obtain⟨h1,h2⟩:=h
 dsimp only at h1 h2
 have m1:a.size<=maxLen:=by unfold maxLen;omega
 have m2:i.size<=maxLen:=by unfold maxLen;omega
 obtain⟨m,hm⟩:∃ m,Tryz.prog.types.size=m+1:=⟨Tryz.prog.types.size-1,by have:0<Tryz.prog.types.size:=Nat.lt_of_le_of_lt (Nat.zero_le _) plRow;omega⟩
 have hkt:=plKey
 have hc:Tryz.prog.cellsOf 268=2:=by kernel_rfl
 have hcs:Tryz.prog.cellsOf 9=1:=by kernel_rfl
 unfold keyOf
 simp only[Tryz.underlying268]
 rw[if_pos (by simp[hkt,keyV,Value.formed,Tryz.underlying268,hc]),hm]
 unfold Program.keyLits
 simp only[Tryz.underlying268,keyV,Value.cells]
 rw[if_pos (by rw[hc];simp)]
 simp[hcs,Program.keyLits,Tryz.underlying9,m1,m2,keyL]
theorem key_inj{p p':Pl}(h:PlZ p)(h':PlZ p')(e:keyL p=keyL p'):p=p':=by
 have:=plLaw0.inj (key_of h) (e ▸ key_of h')
 unfold keyV at this
 simp only[Value.agg.injEq] at this
 obtain⟨a,i⟩:=p
 obtain⟨a',i'⟩:=p'
 simp at this
 rw[this.1,this.2]
section
open Go.WideElems Go.ChangeMaps Go.MapKept
variable{H:Type}{P:Program}{w:World}{t k e:TypeId}{R:Value->Option (DataW H×List MemPlace)}{b n:Nat}{D:DataW H}
theorem own_entry(K0:WideMaps.KeyLaw P k)(K:Keyed P k)(h:w.ownsMap P k R b n D)(ht:P.underlying t=some (.map k e)){z:Value}(hz:∀ u:World,(zeroValue e).run P u=.ok z u)(hn:n<maxLen){key:Value}{kl:Lit}(hkey:keyOf P k key=some kl)
 {zd:DataW H} (hzd:R z=some (zd,[])) (hR:∀ v x,R v=some x->x.2=[]) :
 ∃ (v0:Value) (st:Nat) (w1:World),(Instr.mapEntry t (.map (some b)) key).run P w=.ok (.tuple #[v0,goInt st]) w1/\R v0=some (D.atKey kl zd,[])/\
  (∃ D1,w1.ownsMap P k R b (n+1) D1/\∀ kl',D1.atKey kl' zd=D.atKey kl' zd)/\w.mapTurned w1 b/\
  ∀ val d,R val=some (d,[])->∃ w2,(Instr.entryStore t (.map (some b)) (goInt st) val).run P w1=.ok () w2/\w2.ownsMap P k R b (n+1) (D.put kl d)/\w.mapTurned w2 b:=by
 have hh:=h
 obtain⟨es,clock,hb,F,hs,hD⟩:=h
 obtain⟨s1,s2,_⟩:=F.stamped
 rcases K0.find w hkey es.toList F.keys with⟨h1,h2⟩|⟨j,e0,h1,h2,h3⟩
 ·have hat:∀ zd,D.atKey kl zd=zd:=by
   rw[hD]
   rcases Maps.fit_look true K ht (hz w) hb F hkey with⟨_,_,hat⟩|⟨e0,y,he,hk,_⟩
   ·exact hat
   ·exact absurd hk (h2 e0 he)
  have key_run:∀ val,(Instr.mapUpdate t (.map (some b)) key val).run P w=.ok () (setBlock w b (.map (es.push ⟨key,val,clock⟩) (clock+1))):=λval=>by
   simp[Instr.mapUpdate,run_underlying ht,MapKept.run_getObj_map hb,K0.check w false hkey,h1,MapKept.run_setObj_map _ hb,Result.andThen,setBlock]
  have upd:∀ val d,R val=some (d,[])->(setBlock w b (.map (es.push ⟨key,val,clock⟩) (clock+1))).ownsMap P k R b (n+1) (D.put kl d)/\w.mapTurned (setBlock w b (.map (es.push ⟨key,val,clock⟩) (clock+1))) b:=λval d hv=>by
   obtain⟨wv,hrv,hov,htv⟩:=hh.store K ht hn hkey hv
   rw[key_run val] at hrv
   cases hrv
   exact⟨hov,htv⟩
  refine⟨z,clock,setBlock w b (.map (es.push ⟨key,z,clock⟩) (clock+1)),?_,by rw[hat zd];exact hzd,⟨D.put kl zd,(upd z zd hzd).1,λkl'=>?_⟩,(upd z zd hzd).2,λval d hv=>⟨setBlock w b (.map (es.push ⟨key,val,clock⟩) (clock+1)),?_,upd val d hv⟩⟩
  ·simp[Instr.mapEntry,run_underlying ht,MapKept.run_getObj_map hb,K0.check w false hkey,h1,hz,MapKept.run_setObj_map _ hb,Result.andThen,setBlock]
  ·by_cases e1:kl'=kl
   ·rw[e1,Maps.atKey_put_same hh.isMap (K.key hkey),hat]
   ·rw[Maps.atKey_put_other e1]
  ·have hw2:(setBlock w b (.map (es.push ⟨key,z,clock⟩) (clock+1))).heap[b]?=some (.map (es.push ⟨key,z,clock⟩) (clock+1)):=heap_setBlock_same hb _
   have hidx:(es.push ⟨key,z,clock⟩).findIdx? (λe=>((e.born:Nat):Int)==((clock:Nat):Int))=some es.size:=by
    rw[findIdx_arr]
    have:=findIdx_born (l:=(es.push ⟨key,z,clock⟩).toList) (j:=es.size) (e0:=⟨key,z,clock⟩) (by
     simp only[Array.toList_push,List.map_append,List.map_cons,List.map_nil]
     refine List.nodup_append.2 ⟨s2,by simp,λa ha c hc e1=>?_⟩
     simp only[List.mem_singleton] at hc
     obtain⟨x,hx,rfl⟩:=List.mem_map.1 ha
     have:=s1 x hx
     omega) (by simp)
    exact this
   have hmod:(es.push ⟨key,z,clock⟩).modify es.size (λe=>{ e with val:=val })=es.push ⟨key,val,clock⟩:=by
    apply Array.ext'
    rw[Array.toList_modify,Array.toList_push,Array.toList_push,← Array.length_toList,modify_last]
   have gen:∀ w2:World,w2.heap[b]?=some (.map (es.push ⟨key,z,clock⟩) (clock+1))->(Instr.entryStore t (.map (some b)) (goInt clock) val).run P w2=.ok () (setBlock w2 b (.map (es.push ⟨key,val,clock⟩) (clock+1))):=λw2 hw2=>by
    simp[Instr.entryStore,MapKept.run_getObj_map hw2,asInt,asIntOf,goInt,hidx,hmod,MapKept.run_setObj_map _ hw2,Result.andThen,setBlock]
   rw[gen _ hw2]
   simp[setBlock]
 ·have hj:es[j]?=some e0:=by simpa using h2
  have hsame:es.modify j (λe=>{ e with key:=key })=es:=by
   apply Array.ext'
   rw[Array.toList_modify,modify_eq_set _ _ _ _ h2]
   have:({ e0 with key:=key }:MapEntry)=e0:=by rw[← h3]
   rw[this]
   exact set_self _ _ _ h2
  have hval:R e0.val=some (D.atKey kl zd,[]):=by
   rw[hD]
   rcases Maps.fit_look true K ht (hz w) hb F hkey with⟨_,hno,_⟩|⟨e1,y,he,hk,_,hy,hat,_⟩
   ·exact absurd h3 (hno e0 (List.mem_of_getElem? h2))
   ·have hee:e1=e0:=entry_eq_of_key ((stamped_iff _ _).1 F.stamped).2.2 he (List.mem_of_getElem? h2) (hk.trans h3.symm)
    rw[hat zd,← hee,hy,← hR _ _ hy]
  have hself:setBlock w b (.map es clock)=w:=by
   unfold setBlock
   congr 1
   apply Array.ext_getElem?
   intro i
   by_cases e1:i=b
   ·subst e1
    rw[Array.getElem?_setIfInBounds_self_of_lt (Array.getElem?_eq_some_iff.1 hb).1,hb]
   ·rw[Array.getElem?_setIfInBounds_ne (λe=>e1 e.symm)]
  have key_run:∀ val,(Instr.mapUpdate t (.map (some b)) key val).run P w=.ok () (setBlock w b (.map (es.modify j (λe'=>{ e' with key:=key,val:=val })) clock)):=λval=>by
   simp[Instr.mapUpdate,run_underlying ht,MapKept.run_getObj_map hb,K0.check w false hkey,h1,hj,h3,K0.stays w hkey,MapKept.run_setObj_map _ hb,Result.andThen,setBlock]
  refine⟨e0.val,e0.born,w,?_,hval,⟨D,hh.mono (Nat.le_succ _),λ_=>rfl⟩,hh.turned_refl,λval d hv=>?_⟩
  ·have:(Instr.mapEntry t (.map (some b)) key).run P w=.ok (.tuple #[e0.val,goInt e0.born]) (setBlock w b (.map es clock)):=by
    simp[Instr.mapEntry,run_underlying ht,MapKept.run_getObj_map hb,K0.check w false hkey,h1,hj,h3,K0.stays w hkey,hsame,MapKept.run_setObj_map _ hb,Result.andThen,setBlock]
   rw[this,hself]
  ·obtain⟨wv,hrv,hov,htv⟩:=hh.store K ht hn hkey hv
   rw[key_run val] at hrv
   cases hrv
   refine⟨_,?_,hov,htv⟩
   have hidx:es.findIdx? (λe=>((e.born:Nat):Int)==((e0.born:Nat):Int))=some j:=by
    rw[findIdx_arr]
    exact findIdx_born s2 h2
   have hmod:es.modify j (λe=>{ e with val:=val })=es.modify j (λe'=>{ e' with key:=key,val:=val }):=by
    apply Array.ext'
    rw[Array.toList_modify,Array.toList_modify,modify_eq_set _ _ _ _ h2,modify_eq_set _ _ _ _ h2,← h3]
   simp[Instr.entryStore,MapKept.run_getObj_map hb,asInt,asIntOf,goInt,hidx,hmod,MapKept.run_setObj_map _ hb,Result.andThen,setBlock]
end
theorem plZero(w:World):(zeroValue 3).run Tryz.prog w=.ok (.int .i64 0) w:=by kernel_rfl
theorem plT1:Tryz.prog.underlying 161=some (.map 268 3):=Tryz.underlying161
theorem plT2:Tryz.prog.underlying 160=some (.map 268 3):=Tryz.underlying160
def i64D(x:Int):DataW Unit:=.lit (.int .i64 x)
def BalD(W:World)(b n:Nat)(D:DataW Unit)(f:Pl->Int):Prop:=
 W.ownsMap Tryz.prog 268 (plainElem Tryz.prog 3) b n D/\∀ p,PlZ p->D.atKey (keyL p) (i64D 0)=i64D (f p)
def BalZ(W:World)(b n:Nat)(f:Pl->Int):Prop:=∃ D,BalD W b n D f/\(∀ p,PlZ p->Maps.has D (keyL p)=decide (f p≠0))/\∀ kl,Maps.has D kl=true->∃ p,PlZ p/\kl=keyL p
def i64B(x:Int):Prop := -9223372036854775808<=x/\x<=9223372036854775807
theorem elI{x:Int}(h:i64B x):plainElem Tryz.prog 3 (.int .i64 x)=some (i64D x,[]):=plainElem_int Tryz.underlying3 (by
 obtain⟨h1,h2⟩:=h
 simp[Lit.wf,IntKind.min,IntKind.max,IntKind.signed,IntKind.bits]
 omega)
section
variable{W w:World}{b n:Nat}{D:DataW Unit}{f:Pl->Int}{p:Pl}{T:TypeId}
theorem BalD.keep(h:BalD W b n D f)(hk:w.heap[b]?=W.heap[b]?):BalD w b n D f:=by
 obtain⟨⟨es,clock,hb,F,hs,hD⟩,h2⟩:=h
 exact⟨⟨es,clock,hk.trans hb,F,hs,hD⟩,h2⟩
theorem BalD.lt(h:BalD W b n D f):b<W.heap.size:=h.1.lt
theorem BalZ.keep(h:BalZ W b n f)(hk:w.heap[b]?=W.heap[b]?):BalZ w b n f:=let ⟨D,h1,h2⟩:=h;⟨D,h1.keep hk,h2⟩
theorem BalZ.lt(h:BalZ W b n f):b<W.heap.size:=let ⟨_,h1,_⟩:=h;h1.lt
theorem BalD.look(h:BalD W b n D f)(hT:Tryz.prog.underlying T=some (.map 268 3))(hp:PlZ p):(Instr.lookup T (.map (some b)) (keyV p) false).run Tryz.prog W=.ok (.int .i64 (f p)) W:=by
 obtain⟨h1,h2⟩:=h
 obtain⟨c,hrun,hat,_⟩:=h1.lookup_int plLaw hT Tryz.underlying3 (plZero W) (key_of hp)
 have:=h2 p hp
 unfold i64D at this
 rw[hat] at this
 simp only[DataW.lit.injEq,Lit.int.injEq,true_and] at this
 rw[hrun,this]
def updF(f:Pl->Int)(p:Pl)(x:Int):Pl->Int:=λq=>if q=p then x else f q
theorem BalD.upd(h:BalD W b n D f)(hp:PlZ p){x:Int}{m:Nat}(ho:w.ownsMap Tryz.prog 268 (plainElem Tryz.prog 3) b m (D.put (keyL p) (i64D x))):BalD w b m (D.put (keyL p) (i64D x)) (updF f p x):=by
 refine⟨ho,λq hq=>?_⟩
 unfold updF
 by_cases e:q=p
 ·subst e
  rw[if_pos rfl,Maps.atKey_put_same h.1.isMap (plLaw.key (key_of hp))]
 ·rw[if_neg e,Maps.atKey_put_other (λh'=>e (key_inj hq hp h'))]
  exact h.2 q hq
theorem BalD.entry(h:BalD W b n D f)(hT:Tryz.prog.underlying T=some (.map 268 3))(hp:PlZ p)(hn:n<maxLen) :
 ∃ (st:Nat) (w1:World),(Instr.mapEntry T (.map (some b)) (keyV p)).run Tryz.prog W=.ok (.tuple #[.int .i64 (f p),goInt st]) w1/\(∃ D1,BalD w1 b (n+1) D1 f)/\W.mapTurned w1 b/\
  ∀ x,i64B x->∃ w2,(Instr.entryStore T (.map (some b)) (goInt st) (.int .i64 x)).run Tryz.prog w1=.ok () w2/\BalD w2 b (n+1) (D.put (keyL p) (i64D x)) (updF f p x)/\W.mapTurned w2 b:=by
 obtain⟨v0,st,w1,hr,hv,⟨D1,hD1,hD2⟩,ht1,hst⟩:=own_entry plLaw0 plLaw h.1 hT plZero hn (key_of hp) (zd:=i64D 0) (elI ⟨by omega,by omega⟩) (λv x hx=>plainElem_places hx)
 rw[h.2 p hp] at hv
 obtain⟨c,rfl,hc,_⟩:=plainElem_int_inv Tryz.underlying3 hv
 have hc':f p=c:=by
  have:=congrArg Prod.fst hc
  simpa[i64D] using this
 subst hc'
 refine⟨st,w1,hr,⟨D1,hD1,λq hq=>(hD2 _).trans (h.2 q hq)⟩,ht1,λx hx=>?_⟩
 obtain⟨w2,hr2,ho2,ht2⟩:=hst _ _ (elI hx)
 exact⟨w2,hr2,h.upd hp ho2,ht2⟩
end
end
end
section
section
open Go.RowKit Go.Maps
theorem add_any(w:World)(b n:Nat)(f:Pl->Int)(a i:ByteArray)(x:Int)(h:BalZ w b n f)(hn:n<1000000000)(hp:PlZ (a,i))(hf:i64B (f (a,i)))(hx:i64B x)(hs:i64B (f (a,i)+x)) :
 Calls Tryz.prog 122 #[.map (some b),.agg #[.string a,.string i],.int .i64 x] w λe w'=>e=.returned (.tuple #[])/\BalZ w' b (n+1) (λq=>f q+if q=(a,i) then x else 0)/\Kx (λj=>j=b) w w':=by
 refine calls_cps ?_
 intro R hR
 obtain⟨D,hD,hZ,hY⟩:=h
 obtain⟨W0,hW0⟩:∃ W0,w.alloc (.cells #[.string a,.string i] 268)=W0:=⟨_,rfl⟩
 have hbx:W0.heap[w.heap.size]?=some (.cells #[.string a,.string i] 268 (0,0)):=by rw[← hW0];exact heap_alloc_new w _
 have hD0:BalD W0.drew b n D f:=hD.keep (by rw[← hW0];exact heap_alloc_old w _ hD.lt)
 have hl:=hD0.look plT1 hp
 obtain⟨st,w1,he,⟨D1,hD1⟩,ht1,hst⟩:=hD0.entry plT1 hp (by unfold maxLen;omega)
 have hl1:=hD1.look plT1 hp
 obtain⟨w2,hs2,hD2,ht2⟩:=hst (f (a,i)+x) hs
 have hg1:=ht1.grown
 have hg2:=ht2.grown
 have hne:w.heap.size≠b:=Nat.ne_of_gt hD.lt
 have hsz:w.heap.size<W0.heap.size:=by rw[← hW0];simp
 have hb1:w1.heap[w.heap.size]?=some (.cells #[.string a,.string i] 268 (0,0)):=(hg1.block _ hsz (λe=>hne (by injection e))).trans hbx
 have hb2:w2.heap[w.heap.size]?=some (.cells #[.string a,.string i] 268 (0,0)):=(hg2.block _ hsz (λe=>hne (by injection e))).trans hbx
 obtain⟨c0,c1,-⟩:=cells2 hbx
 obtain⟨d0,d1,-⟩:=cells2 hb1
 obtain⟨e0,e1,-⟩:=cells2 hb2
 obtain⟨hf1,hf2⟩:=hf
 obtain⟨hx1,hx2⟩:=hx
 obtain⟨hs1,hs2'⟩:=hs
 have HD2:=zh hD2
 have HG2:=zh hg2
 have HZ:=zh hZ
 have HY:=zh hY
 have HDm:=zh hD.1.isMap
 have hl2:=hD2.look plT1 hp
 have hup:updF f (a,i) (f (a,i)+x) (a,i)=f (a,i)+x:=by unfold updF;rw[if_pos rfl]
 rw[hup] at hl2
 obtain⟨v,hv⟩:∃ v,f (a,i)=v:=⟨_,rfl⟩
 rw[hv] at hl hl1 he hf1 hf2 hs1 hs2' hs2 hl2
 have HV:=zh hv
 have HW0:=zh hW0
 have hwr:IntKind.i64.wrap (v+x)=v+x:=IntWalk.i64_in _ (by omega)
 have hl:(Instr.lookup 161 (.map (some b)) (.agg #[.string a,.string i]) false).run Tryz.prog W0.drew=.ok (.int .i64 v) W0.drew:=hl
 have hl1:(Instr.lookup 161 (.map (some b)) (.agg #[.string a,.string i]) false).run Tryz.prog w1=.ok (.int .i64 v) w1:=hl1
 have hl2:(Instr.lookup 161 (.map (some b)) (.agg #[.string a,.string i]) false).run Tryz.prog w2=.ok (.int .i64 (v+x)) w2:=hl2
 have he:(Instr.mapEntry 161 (.map (some b)) (.agg #[.string a,.string i])).run Tryz.prog W0.drew=.ok (.tuple #[.int .i64 v,goInt st]) w1:=he
 have hs2:(Instr.entryStore 161 (.map (some b)) (.int .i64 st) (.int .i64 (v+x))).run Tryz.prog w1=.ok () w2:=hs2
 unfold goInt at he
 clear hD hZ hY hD0 hst hD1 ht1 ht2 hg1 hg2 hb1 hb2 hbx hv hD2 hup hsz
 go_enter Tryz.func122,Tryz.ntmps122
 go_upto_region 1 with fail
 go_region
 have hfun:updF f (a,i) (v+x)=λq=>f q+if q=(a,i) then x else 0:=by
  funext q
  unfold updF
  by_cases e:q=(a,i)
  ·rw[if_pos e,if_pos e,e,HV.out]
  ·rw[if_neg e,if_neg e,Int.add_zero]
 have Hfun:=zh hfun
 have HK:=zh (show Kx (λj=>j=b) w w2 from by
  have h0:Kx (λj=>j=b) w W0:=by rw[← hW0];exact kx_of_below (below_new w _)
  exact (h0.drewN 1).grown HG2.out λj hj=>.inl (by injection hj with e;exact e.symm))
 have HP:=zh hp
 clear hfun hp hl hl1 he hs2
 by_cases hz:v+x=0
 ·have z1:(v+x==0)=true:=by rw[beq_iff_eq];exact hz
  have HE:=zh hz
  clear hz
  go_wp2_with (at_delete;refine wpList_delete_own _ rfl _ _ 161 268 rfl 3 plLaw plT1 _ b (n+1) _ rfl HD2.out.1 (.agg #[.string a,.string i]) _ rfl (key_of HP.out) ?_;intro w3 ho3 ht3)
  go_end0
  refine hR.out _ _ ⟨rfl,⟨_,⟨ho3,λq hq=>?_⟩,λq hq=>?_,λkl hk=>?_⟩,HK.out.grown ht3.grown λj hj=>.inl (by injection hj with e;exact e.symm)⟩
  ·by_cases e:q=(a,i)
   ·subst e
    rw[Maps.atKey_del_same]
    show i64D 0=i64D (f (a,i)+if (a,i)=(a,i) then x else 0)
    rw[if_pos rfl,HV.out,HE.out]
   ·rw[Maps.atKey_del_other (λh'=>e (key_inj hq HP.out h'))]
    have h2:=HD2.out.2 q hq
    have e3:=Hfun.out
    rw[← HV.out] at e3
    rw[e3] at h2
    exact h2
  ·by_cases e:q=(a,i)
   ·subst e
    rw[Maps.has_del_same]
    show _=decide ((f (a,i)+if (a,i)=(a,i) then x else 0)≠0)
    rw[if_pos rfl,HV.out,HE.out]
    rfl
   ·rw[Maps.has_del_other (λh'=>e (key_inj hq HP.out h')),Maps.has_put_other (λh'=>e (key_inj hq HP.out h')),HZ.out q hq]
    show _=decide ((f q+if q=(a,i) then x else 0)≠0)
    rw[if_neg e,Int.add_zero]
  ·by_cases e:kl=keyL (a,i)
   ·exact⟨(a,i),HP.out,e⟩
   ·rw[Maps.has_del_other e,Maps.has_put_other e] at hk
    exact HY.out kl hk
 ·have z1:(v+x==0)=false:=by rw[beq_eq_false_iff_ne];exact hz
  have HE:=zh hz
  clear hz
  go_wp2
  go_end0
  refine hR.out _ _ ⟨rfl,⟨D.put (keyL (a,i)) (i64D (f (a,i)+x)),?_,λq hq=>?_,λkl hk=>?_⟩,HK.out⟩
  ·have e3:=Hfun.out
   rw[← HV.out] at e3
   rw[← e3]
   exact HD2.out
  ·by_cases e:q=(a,i)
   ·subst e
    rw[Maps.has_put_same HDm.out (plLaw.key (key_of HP.out))]
    show _=decide ((f (a,i)+if (a,i)=(a,i) then x else 0)≠0)
    rw[if_pos rfl,HV.out]
    exact (decide_eq_true HE.out).symm
   ·rw[Maps.has_put_other (λh'=>e (key_inj hq HP.out h')),HZ.out q hq]
    show _=decide ((f q+if q=(a,i) then x else 0)≠0)
    rw[if_neg e,Int.add_zero]
  ·by_cases e:kl=keyL (a,i)
   ·exact⟨(a,i),HP.out,e⟩
   ·rw[Maps.has_put_other e] at hk
    exact HY.out kl hk
theorem Sl.kx{w w':World}{S:Nat->Prop}{sz n:Nat}{A:Option Addr}{xs:List Value}(h:Sl w sz A n xs)(k:Kx S w w')(hs:∀ a,0<n->A=some a->¬ S a.block):Sl w' sz A n xs:=
 ⟨h.1,λhn=>by
  obtain⟨b,o,e,hb,hc⟩:=h.2 hn
  exact⟨b,o,e,Nat.lt_of_lt_of_le hb k.size,λj u hu=>(World.cell?_of_block (w:=w) (k.block b hb (hs _ hn e))).trans (hc j u hu)⟩⟩
theorem bal_ne{w:World}{b n blk o:Nat}{f:Pl->Int}{u:Value}(h:BalZ w b n f)(hc:w.cell? ⟨blk,o,none⟩=some u):blk≠b:=by
 obtain⟨D,⟨⟨es,clock,hb,_⟩,_⟩,_⟩:=h
 intro e
 subst e
 simp[World.cell?,hb] at hc
theorem SlE.bal{α:Type}{enc:α->List Value}{sz:Nat}{w w':World}{A:Option Addr}{n b m:Nat}{l:List α}{f:Pl->Int}(hz:∀ x,(enc x).length=sz)(hsz:0<sz)(h:SlE enc sz w A n l)(hb:BalZ w b m f)(k:Kx (λj=>j=b) w w'):SlE enc sz w' A n l:=by
 refine⟨h.1,h.2.kx k λa hn hA hab=>?_⟩
 obtain⟨b0,o,x,hA',_,_,hc⟩:=h.at_ hz hn
 rw[hA] at hA'
 cases hA'
 have h0:∃ u,(enc x)[0]?=some u:=⟨_,List.getElem?_eq_getElem (by rw[hz];exact hsz)⟩
 obtain⟨u,hu⟩:=h0
 exact bal_ne hb (hc 0 u hu) hab
theorem enA_take{l:List Mv}{k:Nat}{m:Mv}(h:l[k]?=some m)(q:Pl):enA (l.take (k+1)) q=enA (l.take k) q+mvA m q:=by
 rw[List.take_add_one,h]
 exact enA_snoc m _ q
theorem mvA_bd{m:Mv}(h1:1<=m.q)(h2:m.q<=1000000000)(q:Pl) : -1000000000<=mvA m q/\mvA m q<=1000000000:=by
 unfold mvA
 split<;>split<;>omega
theorem enA_bd{l:List Mv}(h:∀ m∈l,1<=m.q/\m.q<=1000000000)(q:Pl) : -(1000000000*(l.length:Int))<=enA l q/\enA l q<=1000000000*(l.length:Int):=by
 induction l with
 |nil=>exact⟨by simp[enA],by simp[enA]⟩
 |cons m l ih =>
  obtain⟨h1,h2⟩:=ih λx hx=>h x (List.mem_cons_of_mem _ hx)
  obtain⟨h3,h4⟩:=mvA_bd (h m List.mem_cons_self).1 (h m List.mem_cons_self).2 q
  rw[enA_cons,List.length_cons]
  omega
theorem updF_bd{f:Pl->Int}{lo hi:Int}(h:∀ q,lo<=f q/\f q<=hi){p:Pl}{x:Int}(hx:lo-1000000000<=x/\x<=hi+1000000000)(q:Pl):lo-1000000000<=updF f p x q/\updF f p x q<=hi+1000000000:=by
 unfold updF
 have:=h q
 split<;>omega
def BalB(f:Pl->Int):Prop:=∀ q,-2000000000000<=f q/\f q<=2000000000000
theorem do_any(w:World)(b n0:Nat)(f:Pl->Int)(A:Option Addr)(n c:Nat)(l:List Mv)(h:BalZ w b n0 f)(hn0:n0<900000000)(hf:BalB f)(hX:SlE mvE 4 w A n l)(hz:mvZ l) :
 Calls Tryz.prog 57 #[.map (some b),.slice A n c] w λe w'=>e=.returned (.tuple #[])/\BalZ w' b (n0+2*n) (λq=>f q+enA l q)/\Kx (λj=>j=b) w w':=by
 refine calls_cps ?_
 intro R hR
 have Hr:=zh hR.out
 have HX:=zh hX
 have HB:=zh h
 have Hf:=zh hf
 have Hz:=zh hz
 have Hn:=zh hX.1
 have hn:n<=32:=by rw[hX.1];exact hz.1
 clear hR hX hz hf h
 go_enter Tryz.func57,Tryz.ntmps57
 go_wp2_with fail
 go_loopw [8] (λs8 wr=>∃ k:Nat,k<=n/\s8=.int .i64 (k:Int)/\Hid (BalZ wr b (n0+2*k) (λq=>f q+enA (l.take k) q))/\Hid (Kx (λj=>j=b) w wr)) (λs8 _=>n-(intOf s8).toNat)
 case atStart =>
  exact⟨0,Nat.zero_le _,rfl,zh (by simpa[enA] using HB.out),zh (Kx.refl _ _)⟩
 case round =>
  obtain⟨k,hk,rfl,Hb,Hk⟩:=hrel
  by_cases hlt:k<n
  ·obtain⟨b0,o,y,rfl,hb,hy,q0,q1,q2,q3⟩:=(HX.out.bal mvE_len (by omega) HB.out Hk.out).mv_at hlt
   obtain⟨z1,z2,z3,z4,z5⟩:=Hz.out.2 y (List.mem_of_getElem? hy)
   have i1:(k:Int)<(n:Int):=by omega
   have Hy:=zh hy
   obtain⟨gf,hgf⟩:∃ gf:Pl->Int,(λq=>f q+enA (l.take k) q)=gf:=⟨_,rfl⟩
   have hgb:∀ q,-2100000000000<=gf q/\gf q<=2100000000000:=λq=>by
    have h1:=Hf.out q
    have h2:=enA_bd (l:=l.take k) (λm hm=>by have:=Hz.out.2 m (List.mem_of_mem_take hm);omega) q
    rw[List.length_take] at h2
    rw[← hgf]
    dsimp only
    omega
   rw[hgf] at Hb
   have HG:=zh hgf
   have HGB:=zh hgb
   have hneg:IntKind.i64.wrap (-y.q) = -y.q:=IntWalk.i64_in _ (by omega)
   have hbox:=heap_alloc_new wr (.cells #[.string y.f,.string y.t,.string y.i,.int .i64 y.q] 264)
   have HBX:=zh hbox
   have hne:wr.heap.size≠b:=Nat.ne_of_gt Hb.out.lt
   have HNE:=zh hne
   have HB1:=zh (Hb.out.keep (w:=wr.alloc (.cells #[.string y.f,.string y.t,.string y.i,.int .i64 y.q] 264)) (heap_alloc_old wr _ Hb.out.lt))
   have HK1:=zh (Hk.out.below (below_new wr (.cells #[.string y.f,.string y.t,.string y.i,.int .i64 y.q] 264)))
   have p1:PlZ (y.f,y.i):=⟨by dsimp only;omega,by dsimp only;omega⟩
   have p2:PlZ (y.t,y.i):=⟨by dsimp only;omega,by dsimp only;omega⟩
   have g1:=hgb (y.f,y.i)
   have g2:=hgb (y.t,y.i)
   clear hy hgf hgb hbox hne
   go_wp2_with fail
   refine (add_any _ b (n0+2*k) gf y.f y.i (-y.q) HB1.out (by omega) p1 ⟨by omega,by omega⟩ ⟨by omega,by omega⟩ ⟨by omega,by omega⟩).mono ?_
   rintro e w2 ⟨rfl,hb2,hk2⟩
   have hbx2:=(hk2.block wr.heap.size (by simp) HNE.out).trans HBX.out
   obtain⟨r0,r1,r2,r3,-⟩:=cells4 hbx2
   have HB2:=zh hb2
   have HK2:=zh (HK1.out.trans hk2 (λ_ _ h=>h))
   have g3:i64B (gf (y.t,y.i)+if (y.t,y.i)=(y.f,y.i) then -y.q else 0):=by
    split
    ·exact⟨by omega,by omega⟩
    ·exact⟨by omega,by omega⟩
   have g4:i64B ((gf (y.t,y.i)+if (y.t,y.i)=(y.f,y.i) then -y.q else 0)+y.q):=by
    split
    ·exact⟨by omega,by omega⟩
    ·exact⟨by omega,by omega⟩
   have HG3:=zh g3
   have HG4:=zh g4
   clear hb2 hk2 hbx2 g3 g4
   go_wp2_with fail
   refine (add_any _ b (n0+2*k+1) _ y.t y.i y.q HB2.out (by omega) p2 HG3.out ⟨by omega,by omega⟩ HG4.out).mono ?_
   rintro e w3 ⟨rfl,hb3,hk3⟩
   have HB3:=zh hb3
   have HK3:=zh (HK2.out.trans hk3 (λ_ _ h=>h))
   clear hb3 hk3
   go_wp2_with fail
   refine⟨⟨k+1,hlt,by go_num,zh ?_,HK3⟩,by simp[intOf]<;>omega⟩
   have hb3:=HB3.out
   have e1:(λq=>(gf q+if q=(y.f,y.i) then -y.q else 0)+if q=(y.t,y.i) then y.q else 0)=λq=>f q+enA (l.take (k+1)) q:=by
    funext q
    rw[enA_take Hy.out,← HG.out]
    unfold mvA
    dsimp only
    by_cases e1:q=(y.f,y.i)
    ·by_cases e2:q=(y.t,y.i)
     ·rw[if_pos e1,if_pos e2,if_pos e2.symm,if_pos e1.symm]
      omega
     ·rw[if_pos e1,if_neg e2,if_neg (λh=>e2 h.symm),if_pos e1.symm]
      omega
    ·by_cases e2:q=(y.t,y.i)
     ·rw[if_neg e1,if_pos e2,if_pos e2.symm,if_neg (λh=>e1 h.symm)]
      omega
     ·rw[if_neg e1,if_neg e2,if_neg (λh=>e2 h.symm),if_neg (λh=>e1 h.symm)]
      omega
   rw[e1] at hb3
   exact hb3
  ·have hkn:k=n:=by omega
   subst hkn
   have i1:¬ (k:Int)<(k:Int):=by omega
   go_wp2_with fail
   go_end0
   have hb:=Hb.out
   rw[List.take_of_length_le (by rw[← Hn.out];exact Nat.le_refl _)] at hb
   exact Hr.out _ _ ⟨rfl,hb,Hk.out⟩
end
end
end Go.Proofs.YtjibohkeapdalaaGreatDoor
