/-
Contracts of must and of the reader's shape; conditions: those of each theorem.
-/
import Derived.Test.YtgbnicokglpdbaaGreatDoorDe
import Derived.Deep.RegionLaw
namespace Go.Proofs.YtgbnicokglpdbaaGreatDoor
set_option maxHeartbeats 4000000
set_option maxRecDepth 100000
section
open Go.RowKit
def rj:List PanicEntry:=[{ v:=.iface 257 (.agg #[]),recovered:=false }]
theorem fY(w:World):Calls Tryz.prog 157 #[.bool true] w λe w'=>e=.returned (.tuple #[])/\w=w':=by
 go_enter Tryz.func157,Tryz.ntmps157
 go_wp2
 go_end0
 exact⟨rfl,rfl⟩
theorem eV(w:World):Calls Tryz.prog 157 #[.bool false] w λe w'=>e=.panicked rj/\w=w':=by
 unfold rj
 go_enter Tryz.func157,Tryz.ntmps157
 go_wp2
 exact⟨rfl,rfl,rfl⟩
def th(W:World)(p:Nat)(k:Int)(B:Option Addr)(m d:Nat)(A:Option Addr)(n c:Nat)(v:Value):Prop:=W.heap[p]?=some (.cells #[.int .i64 k,.slice B m d,.slice A n c,v] 261 (0,0))
theorem yn(p:Nat)(k:Int)(B:Option Addr)(m d:Nat)(A:Option Addr)(n c:Nat)(v:Value)(ss:List aj)(i:Nat)(s:aj)(w:World)(hp:th w p k B m d A n c v)(hS:ag aj.enc 4 w B m ss)(hi:ss[i]?=some s)(_hm:m<=9223372036854775807) :
 Calls Tryz.prog 224 #[.pointer (some ⟨p,0,none⟩),.int .i64 i] w λe w'=>e=.returned (.agg #[.int .i64 s.W,.int .i64 s.H,.int .i64 s.V,.bool s.T])/\Below w.heap.size w w':=by
 refine ae ?_
 intro R hR
 obtain⟨q0,q1,q2,q3,q4⟩:=an hp
 have bi:i<m:=by rw[hS.1];exact (List.getElem?_eq_some_iff.1 hi).1
 obtain⟨b,o,s',rfl,ei,cT,c0,c1,c2,c3⟩:=hS.at4 bi
 obtain rfl:s=s':=by
  rw[hi] at cT
  injection cT
 have Hs:=zh cT
 have en:p<w.heap.size:=(Array.getElem?_eq_some_iff.1 hp).1
 clear cT hi hS
 have i1:(i:Int)<(m:Int):=by omega
 go_enter Tryz.func224,Tryz.ntmps224
 go_wp2_with (go_at_call 157;refine (fY _).mono ?_;rintro e w' ⟨rfl,rfl⟩)
 refine bodyPost_ret (v:=.agg #[.int .i64 s.W,.int .i64 s.H,.int .i64 s.V,.bool s.T]) ?_ rfl (hR.out _ _ ⟨rfl,?_⟩)
 ·simp[results,Tryz.results224,go_sem]
 exact ab _ _
theorem ym(p:Nat)(k:Int)(B:Option Addr)(m d:Nat)(A:Option Addr)(n c:Nat)(v:Value)(i:Int)(w:World)(hp:th w p k B m d A n c v)(hi:¬ (0<=i/\i<(m:Int)))(_hm:m<=9223372036854775807) :
 Calls Tryz.prog 224 #[.pointer (some ⟨p,0,none⟩),.int .i64 i] w λe w'=>e=.panicked rj/\Below w.heap.size w w':=by
 refine ae ?_
 intro R hR
 obtain⟨q0,q1,q2,q3,q4⟩:=an hp
 have en:p<w.heap.size:=(Array.getElem?_eq_some_iff.1 hp).1
 by_cases h0:0<=i
 ·have h1:¬ i<(m:Int):=λh=>hi ⟨h0,h⟩
  go_enter Tryz.func224,Tryz.ntmps224
  go_wp2_with (go_at_call 157;refine (eV _).mono ?_;rintro e w' ⟨rfl,rfl⟩)
  exact⟨rfl,hR.out _ _ ⟨rfl,ab _ _⟩⟩
 go_enter Tryz.func224,Tryz.ntmps224
 go_wp2_with (go_at_call 157;refine (eV _).mono ?_;rintro e w' ⟨rfl,rfl⟩)
 exact⟨rfl,hR.out _ _ ⟨rfl,ab _ _⟩⟩
end
section
open Go.RowKit
def pK(q:Pc):List Value:=[.int .i64 q.X,.int .i64 q.Y,.int .i64 q.W,.int .i64 q.H,.int .i64 q.S]
theorem Iz(q:Pc):(pK q).length=5:=rfl
theorem CE:au Tryz.prog 176 180 5 40:=au.of (z:=.agg #[.int .i64 0,.int .i64 0,.int .i64 0,.int .i64 0,.int .i64 0]) Tryz.underlying176 (by kernel_rfl) rfl (by omega)
structure Kp(p:Nat)(row:Option Nat)(W W':World):Prop where
 os:W'.os=W.os
 tape:W'.tape=W.tape
 output:W'.output=W.output
 size:W.heap.size<=W'.heap.size
 block:∀ j,j<W.heap.size->j≠p->some j≠row->W'.heap[j]?=W.heap[j]?
section
variable{W W1 W2:World}{p:Nat}{row:Option Nat}
theorem Kp.refl(p:Nat)(row:Option Nat)(W:World):Kp p row W W:=⟨rfl,rfl,rfl,Nat.le_refl _,λ_ _ _ _=>rfl⟩
theorem Kp.below(h:Kp p row W W1)(hb:Below W1.heap.size W1 W2):Kp p row W W2:=
 ⟨hb.os.trans h.os,hb.tape.trans h.tape,hb.output.trans h.output,Nat.le_trans h.size hb.size,λj h1 h2 h3=>(hb.block j (Nat.lt_of_lt_of_le h1 h.size)).trans (h.block j h1 h2 h3)⟩
theorem Kp.setp(h:Kp p row W W1)(i:Nat)(u:Value):Kp p row W (W1.setCell ⟨p,i,none⟩ u):=
 ⟨h.os,h.tape,h.output,by simpa[World.setCell] using h.size,λj h1 h2 h3=>(Below.heap_setCell W1 _ u j (by dsimp only;exact h2)).trans (h.block j h1 h2 h3)⟩
theorem Kp.trans{row':Option Nat}(h:Kp p row W W1)(h':Kp p row' W1 W2)(hr:row'=none\/row'=row\/∃ g,row'=some g/\W.heap.size<=g):Kp p row W W2:=
 ⟨h'.os.trans h.os,h'.tape.trans h.tape,h'.output.trans h.output,Nat.le_trans h.size h'.size,λj h1 h2 h3=>by
  refine (h'.block j (Nat.lt_of_lt_of_le h1 h.size) h2 ?_).trans (h.block j h1 h2 h3)
  rcases hr with rfl|rfl|⟨g,rfl,hg⟩
  ·simp
  ·exact h3
  simp;omega⟩
theorem Kp.grown{row':Option Nat}(h:Kp p row W W1)(hg:W1.grownBy W2 row')(hr:row'=none\/row'=row\/∃ g,row'=some g/\W.heap.size<=g):Kp p row W W2:=
 h.trans (W2:=W2) (row':=row') ⟨hg.os,hg.tape,hg.output,hg.size,λj h1 _ h3=>hg.block j h1 h3⟩ hr
end
theorem Eu{W:World}{p:Nat}{t:TypeId}{u0 u1 u2 u3 u:Value}(h:W.heap[p]?=some (.cells #[u0,u1,u2,u3] t (0,0))):(W.setCell ⟨p,2,none⟩ u).heap[p]?=some (.cells #[u0,u1,u,u3] t (0,0)):=by
 simp[World.setCell,Array.getElem?_modify,h]
theorem Ev{W:World}{p:Nat}{t:TypeId}{u0 u1 u2 u3 u:Value}(h:W.heap[p]?=some (.cells #[u0,u1,u2,u3] t (0,0))):(W.setCell ⟨p,3,none⟩ u).heap[p]?=some (.cells #[u0,u1,u2,u] t (0,0)):=by
 simp[World.setCell,Array.getElem?_modify,h]
structure kj(W:World)(p base:Nat)(k:Int)(B:Option Addr)(m d:Nat)(ss:List aj)(A:Option Addr)(n c:Nat)(l:dG)(v:Value)(np:Nat)(pcs:List Pc):Prop where
 box:th W p k B m d A n c v
 sh:ag aj.enc 4 W B m ss
 pl:ag ep 2 W A n l
 own:W.ownsRow base 180 5 v np (pcs.flatMap pK)
 nB:0<m->∀ a,B=some a->a.block<base/\a.block≠p
 nA:0<n->∀ a,A=some a->a.block<base/\a.block≠p
 pb:p<base
 bs:base<=W.heap.size
 cnt:np=pcs.length
 nc:n<=c
 cb:c<=9223372036854775807
section
variable{W W1 W2:World}{p base:Nat}{k:Int}{B A A1:Option Addr}{m d n c n1 c1 np:Nat}{ss:List aj}{l l1:dG}{v v1:Value}{pcs:List Pc}
theorem kj.plt(t:kj W p base k B m d ss A n c l v np pcs):p<W.heap.size:=Nat.lt_of_lt_of_le t.pb t.bs
theorem kj.below(t:kj W p base k B m d ss A n c l v np pcs)(hb:Below W.heap.size W W1):kj W1 p base k B m d ss A n c l v np pcs:=
 ⟨(hb.block p t.plt).trans t.box,t.sh.below hb,t.pl.below hb,ai t.own hb,t.nB,t.nA,t.pb,Nat.le_trans t.bs hb.size,t.cnt,t.nc,t.cb⟩
theorem kj.adv(t:kj W p base k B m d ss A n c l v np pcs)(hp:ag ep 2 W A1 n1 l1)(hA:0<n1->∀ a,A1=some a->a.block<base/\a.block≠p)(hn:n1<=c1)(hc:c1<=9223372036854775807) :
 kj (W.setCell ⟨p,2,none⟩ (.slice A1 n1 c1)) p base k B m d ss A1 n1 c1 l1 v np pcs:=
 ⟨Eu t.box,⟨t.sh.1,t.sh.2.setCell (λh a ha=>(t.nB h a ha).2) _⟩,⟨hp.1,hp.2.setCell (λh a ha=>(hA h a ha).2) _⟩,ownsRow_setCell_below t.own (a:=⟨p,2,none⟩) t.pb _,t.nB,hA,t.pb,by simpa[World.setCell] using t.bs,t.cnt,hn,hc⟩
theorem kj.push(t:kj W p base k B m d ss A n c l v np pcs){q:Pc}(ho:W1.ownsRow base 180 5 v1 (np+1) (pcs.flatMap pK++pK q))(hg:W.grownBy W1 v.ownBlock) :
 kj (W1.setCell ⟨p,3,none⟩ v1) p base k B m d ss A n c l v1 (np+1) (pcs++[q]):=by
 have bi:∀ g,v.ownBlock=some g->base<=g:=λg hg=>(t.own.lt g hg).1
 have cA:some p≠v.ownBlock:=λe=>by have:=bi p e.symm;have:=t.pb;omega
 refine⟨Ev ((hg.block p t.plt cA).trans t.box),⟨t.sh.1,(t.sh.2.grown hg λh a ha e=>?_).setCell (λh a ha=>(t.nB h a ha).2) _⟩,⟨t.pl.1,(t.pl.2.grown hg λh a ha e=>?_).setCell (λh a ha=>(t.nA h a ha).2) _⟩,
  ownsRow_setCell_below (by simpa using ho) (a:=⟨p,3,none⟩) t.pb _,t.nB,t.nA,t.pb,by have:=t.bs;have:=hg.size;simp[World.setCell];omega,by simp[t.cnt],t.nc,t.cb⟩
 ·have:=bi _ e.symm;have:=(t.nB h a ha).1;omega
 have:=bi _ e.symm;have:=(t.nA h a ha).1;omega
end
structure Rb(W:World)(p bc:Nat)(k:Int)(B:Option Addr)(m d:Nat)(A:Option Addr)(n c:Nat)(v:Value)(cc a:Int):Prop where
 box:th W p k B m d A n c v
 cbox:W.heap[bc]?=some (.cells #[.int .i64 cc,.int .i64 a] 253 (0,0))
section
variable{W W1:World}{p bc:Nat}{k cc a:Int}{B A:Option Addr}{m d n c:Nat}{v:Value}
theorem Rb.below(t:Rb W p bc k B m d A n c v cc a)(hb:Below W.heap.size W W1):Rb W1 p bc k B m d A n c v cc a:=
 ⟨(hb.block p (Array.getElem?_eq_some_iff.1 t.box).1).trans t.box,(hb.block bc (Array.getElem?_eq_some_iff.1 t.cbox).1).trans t.cbox⟩
theorem Rb.alloc(t:Rb W p bc k B m d A n c v cc a)(o:Obj):Rb (W.alloc o) p bc k B m d A n c v cc a:=t.below (ab _ _)
theorem Rb.drew(t:Rb W p bc k B m d A n c v cc a):Rb W.drew p bc k B m d A n c v cc a:=t.below ((Below.refl _ _).drew)
theorem Rb.grown(t:Rb W p bc k B m d A n c v cc a){row:Option Nat}(hg:W.grownBy W1 row)(h1:some p≠row)(h2:some bc≠row):Rb W1 p bc k B m d A n c v cc a:=
 ⟨(hg.block p (Array.getElem?_eq_some_iff.1 t.box).1 h1).trans t.box,(hg.block bc (Array.getElem?_eq_some_iff.1 t.cbox).1 h2).trans t.cbox⟩
end
theorem ag.tail{W:World}{b o n c:Nat}{x:Int×Int}{r:dG}(h:ag ep 2 W (some ⟨b,o,none⟩) n (x :: r))(hn:n<=c):ag ep 2 W (if c=1 then some ⟨b,o,none⟩ else some ⟨b,o+2,none⟩) (n-1) r:=by
 have dx:n=r.length+1:=by simpa using h.1
 refine⟨by omega,by rw[bU nH];omega,λh0=>?_⟩
 rw[if_neg (by omega)]
 obtain⟨b',o',hA,hb,hc⟩:=h.2.2 (by omega)
 simp only[Option.some.injEq,Addr.mk.injEq,and_true] at hA
 obtain⟨rfl,rfl⟩:=hA
 refine⟨b,o+2,rfl,hb,λj u hu=>?_⟩
 have:=hc (j+2) u (by
  rw[List.flatMap_cons,List.getElem?_append_right (by simp[nH])]
  simpa[nH] using hu)
 rw[show o+2+j=o+(j+2) by omega]
 exact this
end
section
open Go.RowKit
def Cc(W W':World)(p base:Nat)(k:Int)(B:Option Addr)(m d:Nat)(ss:List aj)(v:Value)(np:Nat)(pcs:List Pc)(l':dG)(pc':List Pc):Prop:=
 ∃ A' c' v',kj W' p base k B m d ss A' l'.length c' l' v' (np+pc'.length) (pcs++pc')/\(v'.ownBlock=v.ownBlock\/∃ g,v'.ownBlock=some g/\W.heap.size<=g)/\Kp p v.ownBlock W W'
def I5(W:World)(p base:Nat)(k:Int)(B:Option Addr)(m d:Nat)(ss:List aj)(v:Value)(np:Nat)(pcs:List Pc)(res:Option (dG×List Pc))(e:Ending)(W':World):Prop:=
 (∃ l' pc',res=some (l',pc')/\e=.returned (.tuple #[])/\Cc W W' p base k B m d ss v np pcs l' pc')\/(res=none/\e=.panicked rj/\Kp p v.ownBlock W W')
theorem FS(k:Int)(fb:0<=k)(cN:k<=8)(ss:List aj)(fo:ss.length<=16)(cx:∀ s∈ss,(1<=s.W/\s.W<=64)/\(1<=s.H/\s.H<=64)/\0<=s.V/\s.V<=1000000)(p base:Nat)(B:Option Addr)(m d:Nat) :
 ∀ (f:Nat) (x y wd ht:Int) (A:Option Addr) (n c:Nat) (l:dG) (v:Value) (np:Nat) (pcs:List Pc) (w:World),l.length<f->kj w p base k B m d ss A n c l v np pcs->1<=wd->wd<=64->1<=ht->ht<=64->0<=x->x<=10000->0<=y->y<=10000->x+wd<=64->y+ht<=64->np+l.length<=10000->
  Calls Tryz.prog 156 #[.pointer (some ⟨p,0,none⟩),.int .i64 x,.int .i64 y,.int .i64 wd,.int .i64 ht] w (I5 w p base k B m d ss v np pcs (rd k ss f x y wd ht l)):=by
 intro f
 induction f with
 |zero=>intro x y wd ht A n c l v np pcs w h;omega
 |succ f ih =>
  intro x y wd ht A n c l v np pcs w hl hr fu fz e9 fa cV c4 c6 c8 f0 f1 cS
  refine ae ?_
  intro R hR
  have ad:=zh (show rd k ss (f+1) x y wd ht l=none->∀ W',Kp p v.ownBlock w W'->R (.panicked rj) W' from λh W' hk=>hR.out _ _ (.inr ⟨h,rfl,hk⟩))
  have dk:=zh (show ∀ l' pc',rd k ss (f+1) x y wd ht l=some (l',pc')->∀ W',Cc w W' p base k B m d ss v np pcs l' pc'->R (.returned (.tuple #[])) W' from λl' pc' h W' hs=>hR.out _ _ (.inl ⟨l',pc',h,rfl,hs⟩))
  clear hR
  have Ih:=zh ih
  clear ih
  have bk:=zh cx
  obtain⟨q0,q1,q2,q3,q4⟩:=an hr.box
  have hn:=hr.pl.1
  cases l with
  |nil =>
   obtain rfl:n=0:=by simpa using hn
   have aa:=zh (ad.out (by simp[rd]) w (Kp.refl _ _ _))
   clear ad dk Ih bk hn
   go_enter Tryz.func156,Tryz.ntmps156
   go_wp2_with (go_at_call 157;refine (eV _).mono ?_;rintro e w' ⟨rfl,rfl⟩)
   exact⟨rfl,aa.out⟩
  |cons ca r =>
   obtain⟨cc,a⟩:=ca
   have dx:n=r.length+1:=by simpa using hn
   obtain⟨b,o,s,rfl,ei,hs,c0,c1⟩:=hr.pl.at2 (k:=0) (by omega)
   simp only[List.getElem?_cons_zero,Option.some.injEq] at hs
   subst hs
   dsimp only at c0 c1
   rw[Nat.zero_mul,Nat.add_zero] at c0 c1
   have e4:=hr.nc
   have e8:=hr.cb
   obtain⟨A1,cL⟩:∃ A1,(if c=1 then some (⟨b,o,none⟩:Addr) else some ⟨b,o+2,none⟩)=A1:=⟨_,rfl⟩
   have eg:=ag.tail hr.pl e4
   rw[cL] at eg
   have et:=zh cL
   have ej:0<n-1->∀ a,A1=some a->a.block<base/\a.block≠p:=λ_ a ha=>by
    have:=hr.nA (by omega) _ rfl
    rw[← cL] at ha
    split at ha<;>(injection ha with ha;subst ha;exact this)
   have eo:=(hr.adv eg ej (n1:=n-1) (c1:=c-1) (by omega) (by omega))
   have cO:r.length<f:=by simpa using hl
   have fc:=hr.pb
   have en:=hr.plt
   have e7:=hr.bs
   have i0:(0:Int)<(n:Int):=by omega
   have i0n:0<n:=by omega
   have c9:=zh dx
   have aF:=eo.below (ab _ (.cells #[.int .i64 cc,.int .i64 a] 253))
   have bt:=heap_alloc_new (w.setCell ⟨p,2,none⟩ (.slice A1 (n-1) (c-1))) (.cells #[.int .i64 cc,.int .i64 a] 253)
   rw[show (w.setCell ⟨p,2,none⟩ (.slice A1 (n-1) (c-1))).heap.size=w.heap.size by simp[World.setCell]] at bt
   have a9:Kp p v.ownBlock w ((w.setCell ⟨p,2,none⟩ (.slice A1 (n-1) (c-1))).alloc (.cells #[.int .i64 cc,.int .i64 a] 253)):=((Kp.refl p v.ownBlock w).setp 2 _).below (ab _ _)
   have es:w.heap.size+1=((w.setCell ⟨p,2,none⟩ (.slice A1 (n-1) (c-1))).alloc (.cells #[.int .i64 cc,.int .i64 a] 253)).heap.size:=by simp[World.setCell]
   have ev:=zh es
   clear cL hn dx eg ej es eo
   go_enter Tryz.func156,Tryz.ntmps156
   go_upto_region 3 with (go_at_call 157;refine (fY _).mono ?_;rintro e w' ⟨rfl,rfl⟩)
   simp only[et.out]
   clear q0 q1 q2 q3 q4 c0 c1 ei
   generalize ((w.setCell ⟨p,2,none⟩ (.slice A1 (n-1) (c-1))).alloc (.cells #[.int .i64 cc,.int .i64 a] 253))=w2 at *
   obtain⟨e0,e1,e2⟩:=ap bt
   have ci:w.heap.size<w2.heap.size:=by rw[← ev.out];omega
   have e6:rd k ss (f+1) x y wd ht ((cc,a) :: r)=rd k ss (f+1) x y wd ht ((cc,a) :: r):=rfl
   have am:=zh (show ∀ W' pc' v' A' c' l',rd k ss (f+1) x y wd ht ((cc,a) :: r)=some (l',pc')->kj W' p base k B m d ss A' l'.length c' l' v' (np+pc'.length) (pcs++pc')->(v'.ownBlock=v.ownBlock\/∃ g,v'.ownBlock=some g/\w.heap.size<=g)->Kp p v.ownBlock w W'->R (.returned (.tuple #[])) W' from λW' pc' v' A' c' l' h1 h2 h3 h4=>dk.out l' pc' h1 W' ⟨A',c',v',h2,h3,h4⟩)
   clear e6 dk
   by_cases k0:cc=0
   ·subst k0
    by_cases ka:a=0
    ·subst ka
     have aa:=zh (am.out w2 [] v A1 (c-1) r (by simp[rd]) (by
      have h:=aF
      rw[show n-1=r.length by rw[c9.out];simp] at h
      simpa using h) (.inl rfl) a9)
     clear am ad Ih bk
     go_wp2_with (go_at_call 157;refine (fY _).mono ?_;rintro e w' ⟨rfl,rfl⟩)
     go_end0
     exact aa.out
    have ka':(a==0)=false:=by simp[ka]
    have aa:=zh (ad.out (by simp[rd,ka]) w2 a9)
    clear am ad Ih bk ka
    go_wp2_with (go_at_call 157;refine (eV _).mono ?_;rintro e w' ⟨rfl,rfl⟩)
    exact⟨rfl,aa.out⟩
   by_cases k1:cc=1
   ·subst k1
    by_cases b9:0<=a/\a<(m:Int)
    ·obtain⟨i,rfl⟩:∃ i:Nat,a=(i:Int):=⟨a.toNat,by omega⟩
     obtain⟨s,hs⟩:∃ s,ss[i]?=some s:=⟨ss[i]'(by rw[← aF.sh.1];omega),List.getElem?_eq_getElem _⟩
     have bj:=Aw hs wd ht false
     have b6:m<=9223372036854775807:=by rw[aF.sh.1];omega
     have Hs:=zh hs
     clear hs b9
     go_wp2_with fail
     refine (yn p k B m d A1 (n-1) (c-1) v ss i s _ aF.box aF.sh Hs.out b6).mono ?_
     rintro e w3 ⟨rfl,bg⟩
     have cI:=aF.below bg
     have bu:=bg
     obtain⟨b1,cl⟩:∃ b,(s.W==wd)=b:=⟨_,rfl⟩
     obtain⟨b2,cn⟩:∃ b,(s.H==ht)=b:=⟨_,rfl⟩
     have Hb:=zh (show iJ wd ht s false=(b1&&b2) by simp[iJ,cl,cn])
     rw[Hb.out] at bj
     have cj:=zh bj
     clear bj
     cases b1<;>cases b2
     case true.true =>
      go_wp2_with (go_at_call 157;refine (fY _).mono ?_;rintro e w' ⟨rfl,rfl⟩)
      clear bg Ih ad bk
      generalize hw4:w3.alloc _=w4
      have a0:kj w4 p base k B m d ss A1 (n-1) (c-1) r v np pcs:=by rw[← hw4];exact cI.below (ab _ _)
      have cq:Kp p v.ownBlock w w4:=by rw[← hw4];exact (a9.below bu).below (ab _ _)
      have bp:w4.heap[w.heap.size]?=some (.cells #[.int .i64 1,.int .i64 i] 253 (0,0)):=by rw[← hw4];exact (Below.heap_alloc _ _ _ (Nat.lt_of_lt_of_le ci bu.size)).trans ((bu.block _ ci).trans bt)
      have cd:w.heap.size<w4.heap.size:=(Array.getElem?_eq_some_iff.1 bp).1
      have e5:p<w4.heap.size:=a0.plt
      obtain⟨q0,q1,q2,q3,q4⟩:=an a0.box
      obtain⟨e0,e1,e2⟩:=ap bp
      have bi:∀ g,v.ownBlock=some g->base<=g:=λg hg=>(a0.own.lt g hg).1
      have b7:np+1<=10000:=by simp at cS;omega
      have eI:=a0.bs
      have cA:some p≠v.ownBlock:=λe=>by have:=bi p e.symm;omega
      have dq:some w.heap.size≠v.ownBlock:=λe=>by have:=(hr.own.lt _ e.symm).2;omega
      have d7:Rb w4 p w.heap.size k B m d A1 (n-1) (c-1) v 1 (i:Int):=⟨a0.box,bp⟩
      have eu:=zh bi
      clear hw4 bi cI aF a9 bt bu q1 q2 e0 e2 cl cn
      go_region_law (first
       |(refine er rfl (.tmp 66) (.tmp 74) _ rfl CE base v np (pcs.flatMap pK) rfl (by repeat (first|with_reducible exact a0.own|with_reducible refine oU ?_|with_reducible refine World.ownsRow.alloc ?_ _)) _ 1 1 (#[Value.int .i64 x,.int .i64 y,.int .i64 wd,.int .i64 ht,.int .i64 i]:Array Value).toList rfl (by first|((with_reducible refine Sl.newAt _ _ _ 5 1 ?_ ?_)<;>(simp;done))|((with_reducible refine Sl.drew (Sl.newAt _ _ _ 5 1 ?_ ?_))<;>(simp;done))) (by intro u hu;simp at hu;rcases hu with rfl|rfl|rfl|rfl|rfl<;>rfl) (by unfold maxLen;omega) (by omega) (by first|omega|(simp;done)|(simp;omega)) ?_;intro A5 c5 w5 dz bS d2;have ec:Rb w5 p w.heap.size k B m d A1 (n-1) (c-1) v 1 (i:Int):=Rb.grown (by repeat (first|with_reducible exact d7|with_reducible refine Rb.drew ?_|with_reducible refine Rb.alloc ?_ _)) bS cA dq;obtain⟨z0,z1,z2,z3,z4⟩:=an ec.box))
      all_goals
       have cC:=(a0.below (by repeat (first|with_reducible exact Below.refl _ _|with_reducible refine Below.drew ?_|with_reducible refine Below.alloc ?_ (by first|(simp;done)|(simp;omega)) _))).push (q:=⟨x,y,wd,ht,(i:Int)⟩) dz bS
       have cr:=(((cq.below (by repeat (first|with_reducible exact Below.refl _ _|with_reducible refine Below.drew ?_|with_reducible refine Below.alloc ?_ (by first|(simp;done)|(simp;omega)) _))).grown bS (.inr (.inl rfl))).setp 3 (.slice A5 (np+1) c5))
       have aa:=zh (am.out _ [⟨x,y,wd,ht,(i:Int)⟩] (.slice A5 (np+1) c5) A1 (c-1) r (by have:=cj.out;simp at this;simp[rd,this]) (by
        have h:=cC
        rw[show n-1=r.length by rw[c9.out];simp] at h
        exact h) (by rcases d2 with h | h
                     ·exact .inl h
                     exact .inr ⟨_,h,Nat.le_trans cq.size (by first|(simp;done)|(simp;omega))⟩) cr)
       clear cC cr am
       go_wp2
       go_end0
       exact aa.out
     all_goals
      have aa:=zh (λW'=>ad.out (by have:=cj.out;simp at this;simp[rd,this]) W')
      clear am ad Ih bk
      go_wp2_with (go_at_call 157;refine (eV _).mono ?_;rintro e w' ⟨rfl,rfl⟩)
      exact⟨rfl,aa.out _ ((a9.below bg).below (ab _ _))⟩
    have bj:kW ss a wd ht false=false:=x9 (by rw[← aF.sh.1];exact b9)
    have b6:m<=9223372036854775807:=by rw[aF.sh.1];omega
    have aa:=zh (λW'=>ad.out (by simp[rd,bj]) W')
    clear am ad Ih bk bj
    go_wp2_with fail
    refine (ym p k B m d A1 (n-1) (c-1) v a _ aF.box b9 b6).mono ?_
    rintro e w3 ⟨rfl,bg⟩
    exact⟨rfl,aa.out _ (a9.below bg)⟩
   by_cases k2:cc=2
   ·subst k2
    by_cases b9:0<=a/\a<(m:Int)
    ·obtain⟨i,rfl⟩:∃ i:Nat,a=(i:Int):=⟨a.toNat,by omega⟩
     obtain⟨s,hs⟩:∃ s,ss[i]?=some s:=⟨ss[i]'(by rw[← aF.sh.1];omega),List.getElem?_eq_getElem _⟩
     have bj:=Aw hs wd ht true
     have b6:m<=9223372036854775807:=by rw[aF.sh.1];omega
     have Hs:=zh hs
     clear hs b9
     go_wp2_with fail
     refine (yn p k B m d A1 (n-1) (c-1) v ss i s _ aF.box aF.sh Hs.out b6).mono ?_
     rintro e w3 ⟨rfl,bg⟩
     have cI:=aF.below bg
     have bu:=bg
     obtain⟨b0,eF⟩:∃ b,s.T=b:=⟨_,rfl⟩
     obtain⟨b1,cl⟩:∃ b,(s.H==wd)=b:=⟨_,rfl⟩
     obtain⟨b2,cn⟩:∃ b,(s.W==ht)=b:=⟨_,rfl⟩
     have Hb:=zh (show iJ wd ht s true=(b0&&b1&&b2) by simp[iJ,eF,cl,cn])
     rw[Hb.out] at bj
     have cj:=zh bj
     clear bj
     cases b0<;>cases b1<;>cases b2
     case true.true.true =>
      go_wp2_with (go_at_call 157;refine (fY _).mono ?_;rintro e w' ⟨rfl,rfl⟩)
      clear bg Ih ad bk
      generalize hw4:w3.alloc _=w4
      have a0:kj w4 p base k B m d ss A1 (n-1) (c-1) r v np pcs:=by rw[← hw4];exact cI.below (ab _ _)
      have cq:Kp p v.ownBlock w w4:=by rw[← hw4];exact (a9.below bu).below (ab _ _)
      have bp:w4.heap[w.heap.size]?=some (.cells #[.int .i64 2,.int .i64 i] 253 (0,0)):=by rw[← hw4];exact (Below.heap_alloc _ _ _ (Nat.lt_of_lt_of_le ci bu.size)).trans ((bu.block _ ci).trans bt)
      have cd:w.heap.size<w4.heap.size:=(Array.getElem?_eq_some_iff.1 bp).1
      have e5:p<w4.heap.size:=a0.plt
      obtain⟨q0,q1,q2,q3,q4⟩:=an a0.box
      obtain⟨e0,e1,e2⟩:=ap bp
      have bi:∀ g,v.ownBlock=some g->base<=g:=λg hg=>(a0.own.lt g hg).1
      have b7:np+1<=10000:=by simp at cS;omega
      have eI:=a0.bs
      have cA:some p≠v.ownBlock:=λe=>by have:=bi p e.symm;omega
      have dq:some w.heap.size≠v.ownBlock:=λe=>by have:=(hr.own.lt _ e.symm).2;omega
      have d7:Rb w4 p w.heap.size k B m d A1 (n-1) (c-1) v 2 (i:Int):=⟨a0.box,bp⟩
      have eu:=zh bi
      clear hw4 bi cI aF a9 bt bu q1 q2 e0 e2 cl cn
      go_region_law (first
       |(refine er rfl (.tmp 103) (.tmp 111) _ rfl CE base v np (pcs.flatMap pK) rfl (by repeat (first|with_reducible exact a0.own|with_reducible refine oU ?_|with_reducible refine World.ownsRow.alloc ?_ _)) _ 1 1 (#[Value.int .i64 x,.int .i64 y,.int .i64 wd,.int .i64 ht,.int .i64 i]:Array Value).toList rfl (by first|((with_reducible refine Sl.newAt _ _ _ 5 1 ?_ ?_)<;>(simp;done))|((with_reducible refine Sl.drew (Sl.newAt _ _ _ 5 1 ?_ ?_))<;>(simp;done))) (by intro u hu;simp at hu;rcases hu with rfl|rfl|rfl|rfl|rfl<;>rfl) (by unfold maxLen;omega) (by omega) (by first|omega|(simp;done)|(simp;omega)) ?_;intro A5 c5 w5 dz bS d2;have ec:Rb w5 p w.heap.size k B m d A1 (n-1) (c-1) v 2 (i:Int):=Rb.grown (by repeat (first|with_reducible exact d7|with_reducible refine Rb.drew ?_|with_reducible refine Rb.alloc ?_ _)) bS cA dq;obtain⟨z0,z1,z2,z3,z4⟩:=an ec.box))
      all_goals
       have cC:=(a0.below (by repeat (first|with_reducible exact Below.refl _ _|with_reducible refine Below.drew ?_|with_reducible refine Below.alloc ?_ (by first|(simp;done)|(simp;omega)) _))).push (q:=⟨x,y,wd,ht,(i:Int)⟩) dz bS
       have cr:=(((cq.below (by repeat (first|with_reducible exact Below.refl _ _|with_reducible refine Below.drew ?_|with_reducible refine Below.alloc ?_ (by first|(simp;done)|(simp;omega)) _))).grown bS (.inr (.inl rfl))).setp 3 (.slice A5 (np+1) c5))
       have aa:=zh (am.out _ [⟨x,y,wd,ht,(i:Int)⟩] (.slice A5 (np+1) c5) A1 (c-1) r (by have:=cj.out;simp at this;simp[rd,this]) (by
        have h:=cC
        rw[show n-1=r.length by rw[c9.out];simp] at h
        exact h) (by rcases d2 with h | h
                     ·exact .inl h
                     exact .inr ⟨_,h,Nat.le_trans cq.size (by first|(simp;done)|(simp;omega))⟩) cr)
       clear cC cr am
       go_wp2
       go_end0
       exact aa.out
     all_goals
      have aa:=zh (λW'=>ad.out (by have:=cj.out;simp at this;simp[rd,this]) W')
      clear am ad Ih bk
      go_wp2_with (go_at_call 157;refine (eV _).mono ?_;rintro e w' ⟨rfl,rfl⟩)
      exact⟨rfl,aa.out _ ((a9.below bg).below (ab _ _))⟩
    have bj:kW ss a wd ht true=false:=x9 (by rw[← aF.sh.1];exact b9)
    have b6:m<=9223372036854775807:=by rw[aF.sh.1];omega
    have aa:=zh (λW'=>ad.out (by simp[rd,bj]) W')
    clear am ad Ih bk bj
    go_wp2_with fail
    refine (ym p k B m d A1 (n-1) (c-1) v a _ aF.box b9 b6).mono ?_
    rintro e w3 ⟨rfl,bg⟩
    exact⟨rfl,aa.out _ (a9.below bg)⟩
   by_cases k3:cc=3
   ·subst k3
    by_cases ha:1<=a/\a<wd
    ·obtain⟨bf,bm⟩:=ha
     have dt:some w.heap.size≠v.ownBlock:=λe=>by have:=(hr.own.lt _ e.symm).2;omega
     have ds:w.heap.size≠p:=by omega
     have b7:np+r.length<=10000:=by simp at cS;omega
     cases h1:rd k ss f x y a ht r with
     |none =>
      have aa:=zh (ad.out (by simp[rd,bf,bm,h1]) )
      have H1:=zh h1
      clear ad am h1 cx
      go_wp2_with (go_at_call 157;refine (fY _).mono ?_;rintro e w' ⟨rfl,rfl⟩)
      refine (Ih.out x y a ht A1 (n-1) (c-1) r v np pcs w2 cO aF (by omega) (by omega) (by omega) (by omega) cV c4 c6 c8 (by omega) (by omega) b7).mono ?_
      rw[H1.out]
      rintro e w3 (⟨l',pc',h,_⟩|⟨_,rfl,bq⟩)
      ·cases h
      exact⟨rfl,aa.out _ (a9.trans bq (.inr (.inl rfl)))⟩
     |some u =>
      obtain⟨l1,p1⟩:=u
      have H1:=zh h1
      have e3:=(BU k ss f _ _ _ _ r l1 p1 h1).len
      clear h1 cx
      go_wp2_with (go_at_call 157;refine (fY _).mono ?_;rintro e w' ⟨rfl,rfl⟩)
      refine (Ih.out x y a ht A1 (n-1) (c-1) r v np pcs w2 cO aF (by omega) (by omega) (by omega) (by omega) cV c4 c6 c8 (by omega) (by omega) b7).mono ?_
      rw[H1.out]
      rintro e w3 (⟨l',pc',h,rfl,A3,c3,v3,a0,d3,bq⟩|⟨h,_⟩)
      rotate_left
      ·cases h
      simp only[Option.some.injEq,Prod.mk.injEq] at h
      obtain⟨rfl,rfl⟩:=h
      have cp:=a9.trans bq (.inr (.inl rfl))
      have bw:=(bq.block _ ci ds dt).trans bt
      obtain⟨q0,q1,q2,q3,q4⟩:=an a0.box
      obtain⟨z0,z1,z2⟩:=ap bw
      have bE:v3.ownBlock=v.ownBlock\/∃ g,v3.ownBlock=some g/\w.heap.size<=g:=by
       rcases d3 with h|⟨g,h,hg⟩
       ·exact .inl h
       exact .inr ⟨g,h,by omega⟩
      have y1:IntKind.i64.wrap (wd-a)=wd-a:=IntWalk.i64_in _ (by omega)
      have y2:IntKind.i64.wrap (wd-a-k)=wd-a-k:=IntWalk.i64_in _ (by omega)
      clear aF bq bt e0 e1 e2 q1 q2 q3 z0
      go_wp2_with fail
      go_quiet (fail)
      clear y1 y2
      generalize hw4:w3.drewN _=w4
      have bv:Below w3.heap.size w3 w4:=by rw[← hw4];exact⟨rfl,rfl,rfl,Nat.le_refl _,λ_ _=>rfl⟩
      have cd:w4.heap.size=w3.heap.size:=by rw[← hw4];rfl
      have bI:=a0.below bv
      have bD:=cp.below bv
      have bp:=(bv.block _ (Array.getElem?_eq_some_iff.1 bw).1).trans bw
      have eB:=zh cd
      clear hw4 bv a0 cp bw q0 q4 z1 z2 cd
      obtain⟨q0,q1,q2,q3,q4⟩:=an bI.box
      obtain⟨z0,z1,z2⟩:=ap bp
      by_cases b8:1<=wd-a-k
      ·have ct:np+p1.length+l1.length<=10000:=by omega
       cases h2:rd k ss f (x+a+k) y (wd-a-k) ht l1 with
       |none =>
        have aa:=zh (ad.out (by simp[rd,bf,bm,H1.out,b8,h2]))
        have H2:=zh h2
        clear ad am h2
        go_wp2_with fail
        have y1:IntKind.i64.wrap (x+a)=x+a:=IntWalk.i64_in _ (by omega)
        have y2:IntKind.i64.wrap (x+a+k)=x+a+k:=IntWalk.i64_in _ (by omega)
        go_still_tail 13,(by kernel_rfl)
        clear y1 y2
        go_wp2_with fail
        refine (Ih.out (x+a+k) y (wd-a-k) ht A3 l1.length c3 l1 v3 (np+p1.length) (pcs++p1) w4.drew (by omega) (bI.below ((Below.refl _ _).drew)) (by omega) (by omega) (by omega) (by omega) (by omega) (by omega) (by omega) (by omega) (by omega) (by omega) ct).mono ?_
        rw[H2.out]
        rintro e w7 (⟨l',pc',h,_⟩|⟨_,rfl,b5⟩)
        ·cases h
        exact⟨rfl,aa.out _ ((bD.below ((Below.refl _ _).drew)).trans b5 (.inr bE))⟩
       |some u2 =>
        obtain⟨l2,p2⟩:=u2
        have H2:=zh h2
        have dd:=zh (show rd k ss (f+1) x y wd ht ((3,a) :: r)=some (l2,p1++p2) by simp[rd,bf,bm,H1.out,b8,h2])
        clear ad h2
        go_wp2_with fail
        have y1:IntKind.i64.wrap (x+a)=x+a:=IntWalk.i64_in _ (by omega)
        have y2:IntKind.i64.wrap (x+a+k)=x+a+k:=IntWalk.i64_in _ (by omega)
        go_still_tail 13,(by kernel_rfl)
        clear y1 y2
        go_wp2_with fail
        refine (Ih.out (x+a+k) y (wd-a-k) ht A3 l1.length c3 l1 v3 (np+p1.length) (pcs++p1) w4.drew (by omega) (bI.below ((Below.refl _ _).drew)) (by omega) (by omega) (by omega) (by omega) (by omega) (by omega) (by omega) (by omega) (by omega) (by omega) ct).mono ?_
        rw[H2.out]
        rintro e w7 (⟨l',pc',h,rfl,A7,c7,v7,d6,d4,b5⟩|⟨h,_⟩)
        rotate_left
        ·cases h
        simp only[Option.some.injEq,Prod.mk.injEq] at h
        obtain⟨rfl,rfl⟩:=h
        have cN:=(bD.below ((Below.refl _ _).drew)).trans b5 (.inr bE)
        have d5:v7.ownBlock=v.ownBlock\/∃ g,v7.ownBlock=some g/\w.heap.size<=g:=by
         rcases d4 with h|⟨g,h,hg⟩
         ·rw[h];exact bE
         exact .inr ⟨g,h,Nat.le_trans bD.size hg⟩
        have aa:=zh (am.out w7 (p1++p2) v7 A7 c7 l2 dd.out (by
         have h:=d6
         rw[Nat.add_assoc,← List.length_append,List.append_assoc] at h
         exact h) d5 cN)
        clear am
        go_wp2
        go_end0
        exact aa.out
      have aa:=zh (am.out w4 p1 v3 A3 c3 l1 (by simp[rd,bf,bm,H1.out,b8]) bI bE bD)
      clear ad am
      go_wp2
      go_end0
      exact aa.out
    have aa:=zh (ad.out (by simp[rd,ha]) w2 a9)
    clear am ad Ih bk
    by_cases bf:1<=a
    ·have bm:¬ a<wd:=λh=>ha ⟨bf,h⟩
     clear ha
     go_wp2_with (go_at_call 157;refine (eV _).mono ?_;rintro e w' ⟨rfl,rfl⟩)
     exact⟨rfl,aa.out⟩
    clear ha
    go_wp2_with (go_at_call 157;refine (eV _).mono ?_;rintro e w' ⟨rfl,rfl⟩)
    exact⟨rfl,aa.out⟩
   by_cases k4:cc=4
   ·subst k4
    by_cases ha:1<=a/\a<ht
    ·obtain⟨bf,bm⟩:=ha
     have dt:some w.heap.size≠v.ownBlock:=λe=>by have:=(hr.own.lt _ e.symm).2;omega
     have ds:w.heap.size≠p:=by omega
     have b7:np+r.length<=10000:=by simp at cS;omega
     cases h1:rd k ss f x y wd a r with
     |none =>
      have aa:=zh (ad.out (by simp[rd,bf,bm,h1]) )
      have H1:=zh h1
      clear ad am h1 cx
      go_wp2_with (go_at_call 157;refine (fY _).mono ?_;rintro e w' ⟨rfl,rfl⟩)
      refine (Ih.out x y wd a A1 (n-1) (c-1) r v np pcs w2 cO aF (by omega) (by omega) (by omega) (by omega) cV c4 c6 c8 (by omega) (by omega) b7).mono ?_
      rw[H1.out]
      rintro e w3 (⟨l',pc',h,_⟩|⟨_,rfl,bq⟩)
      ·cases h
      exact⟨rfl,aa.out _ (a9.trans bq (.inr (.inl rfl)))⟩
     |some u =>
      obtain⟨l1,p1⟩:=u
      have H1:=zh h1
      have e3:=(BU k ss f _ _ _ _ r l1 p1 h1).len
      clear h1 cx
      go_wp2_with (go_at_call 157;refine (fY _).mono ?_;rintro e w' ⟨rfl,rfl⟩)
      refine (Ih.out x y wd a A1 (n-1) (c-1) r v np pcs w2 cO aF (by omega) (by omega) (by omega) (by omega) cV c4 c6 c8 (by omega) (by omega) b7).mono ?_
      rw[H1.out]
      rintro e w3 (⟨l',pc',h,rfl,A3,c3,v3,a0,d3,bq⟩|⟨h,_⟩)
      rotate_left
      ·cases h
      simp only[Option.some.injEq,Prod.mk.injEq] at h
      obtain⟨rfl,rfl⟩:=h
      have cp:=a9.trans bq (.inr (.inl rfl))
      have bw:=(bq.block _ ci ds dt).trans bt
      obtain⟨q0,q1,q2,q3,q4⟩:=an a0.box
      obtain⟨z0,z1,z2⟩:=ap bw
      have bE:v3.ownBlock=v.ownBlock\/∃ g,v3.ownBlock=some g/\w.heap.size<=g:=by
       rcases d3 with h|⟨g,h,hg⟩
       ·exact .inl h
       exact .inr ⟨g,h,by omega⟩
      have y1:IntKind.i64.wrap (ht-a)=ht-a:=IntWalk.i64_in _ (by omega)
      have y2:IntKind.i64.wrap (ht-a-k)=ht-a-k:=IntWalk.i64_in _ (by omega)
      clear aF bq bt e0 e1 e2 q1 q2 q3 z0
      go_wp2_with fail
      go_quiet (fail)
      clear y1 y2
      generalize hw4:w3.drewN _=w4
      have bv:Below w3.heap.size w3 w4:=by rw[← hw4];exact⟨rfl,rfl,rfl,Nat.le_refl _,λ_ _=>rfl⟩
      have cd:w4.heap.size=w3.heap.size:=by rw[← hw4];rfl
      have bI:=a0.below bv
      have bD:=cp.below bv
      have bp:=(bv.block _ (Array.getElem?_eq_some_iff.1 bw).1).trans bw
      have eB:=zh cd
      clear hw4 bv a0 cp bw q0 q4 z1 z2 cd
      obtain⟨q0,q1,q2,q3,q4⟩:=an bI.box
      obtain⟨z0,z1,z2⟩:=ap bp
      by_cases b8:1<=ht-a-k
      ·have ct:np+p1.length+l1.length<=10000:=by omega
       cases h2:rd k ss f x (y+a+k) wd (ht-a-k) l1 with
       |none =>
        have aa:=zh (ad.out (by simp[rd,bf,bm,H1.out,b8,h2]))
        have H2:=zh h2
        clear ad am h2
        go_wp2_with fail
        have y1:IntKind.i64.wrap (y+a)=y+a:=IntWalk.i64_in _ (by omega)
        have y2:IntKind.i64.wrap (y+a+k)=y+a+k:=IntWalk.i64_in _ (by omega)
        go_still_tail 13,(by kernel_rfl)
        clear y1 y2
        go_wp2_with fail
        refine (Ih.out x (y+a+k) wd (ht-a-k) A3 l1.length c3 l1 v3 (np+p1.length) (pcs++p1) w4.drew (by omega) (bI.below ((Below.refl _ _).drew)) (by omega) (by omega) (by omega) (by omega) (by omega) (by omega) (by omega) (by omega) (by omega) (by omega) ct).mono ?_
        rw[H2.out]
        rintro e w7 (⟨l',pc',h,_⟩|⟨_,rfl,b5⟩)
        ·cases h
        exact⟨rfl,aa.out _ ((bD.below ((Below.refl _ _).drew)).trans b5 (.inr bE))⟩
       |some u2 =>
        obtain⟨l2,p2⟩:=u2
        have H2:=zh h2
        have dd:=zh (show rd k ss (f+1) x y wd ht ((4,a) :: r)=some (l2,p1++p2) by simp[rd,bf,bm,H1.out,b8,h2])
        clear ad h2
        go_wp2_with fail
        have y1:IntKind.i64.wrap (y+a)=y+a:=IntWalk.i64_in _ (by omega)
        have y2:IntKind.i64.wrap (y+a+k)=y+a+k:=IntWalk.i64_in _ (by omega)
        go_still_tail 13,(by kernel_rfl)
        clear y1 y2
        go_wp2_with fail
        refine (Ih.out x (y+a+k) wd (ht-a-k) A3 l1.length c3 l1 v3 (np+p1.length) (pcs++p1) w4.drew (by omega) (bI.below ((Below.refl _ _).drew)) (by omega) (by omega) (by omega) (by omega) (by omega) (by omega) (by omega) (by omega) (by omega) (by omega) ct).mono ?_
        rw[H2.out]
        rintro e w7 (⟨l',pc',h,rfl,A7,c7,v7,d6,d4,b5⟩|⟨h,_⟩)
        rotate_left
        ·cases h
        simp only[Option.some.injEq,Prod.mk.injEq] at h
        obtain⟨rfl,rfl⟩:=h
        have cN:=(bD.below ((Below.refl _ _).drew)).trans b5 (.inr bE)
        have d5:v7.ownBlock=v.ownBlock\/∃ g,v7.ownBlock=some g/\w.heap.size<=g:=by
         rcases d4 with h|⟨g,h,hg⟩
         ·rw[h];exact bE
         exact .inr ⟨g,h,Nat.le_trans bD.size hg⟩
        have aa:=zh (am.out w7 (p1++p2) v7 A7 c7 l2 dd.out (by
         have h:=d6
         rw[Nat.add_assoc,← List.length_append,List.append_assoc] at h
         exact h) d5 cN)
        clear am
        go_wp2
        go_end0
        exact aa.out
      have aa:=zh (am.out w4 p1 v3 A3 c3 l1 (by simp[rd,bf,bm,H1.out,b8]) bI bE bD)
      clear ad am
      go_wp2
      go_end0
      exact aa.out
    have aa:=zh (ad.out (by simp[rd,ha]) w2 a9)
    clear am ad Ih bk
    by_cases bf:1<=a
    ·have bm:¬ a<ht:=λh=>ha ⟨bf,h⟩
     clear ha
     go_wp2_with (go_at_call 157;refine (eV _).mono ?_;rintro e w' ⟨rfl,rfl⟩)
     exact⟨rfl,aa.out⟩
    clear ha
    go_wp2_with (go_at_call 157;refine (eV _).mono ?_;rintro e w' ⟨rfl,rfl⟩)
    exact⟨rfl,aa.out⟩
   have aa:=zh (ad.out (by simp[rd,k0,k1,k2,k3,k4]) w2 a9)
   have g0:(cc==0)=false:=by simp[k0]
   have g1:(cc==1)=false:=by simp[k1]
   have g2:(cc==2)=false:=by simp[k2]
   have g3:(cc==3)=false:=by simp[k3]
   have g4:(cc==4)=false:=by simp[k4]
   clear am ad Ih bk k0 k1 k2 k3 k4
   go_wp2_with (go_at_call 157;refine (eV _).mono ?_;rintro e w' ⟨rfl,rfl⟩)
   exact⟨rfl,aa.out⟩
end
end Go.Proofs.YtgbnicokglpdbaaGreatDoor
