/-
Contracts of the small functions of the panel; conditions: those of each theorem.
-/
import Derived.Test.YtgbnicokglpdbaaGreatDoorD0
import Derived.Deep.RegionHeld3
import Derived.LoopIn
import Derived.LoopNIn
import Derived.OwnWalkIn
import Derived.RangeFuncBound
import Derived.RangeFuncNested
import Derived.Shelf.RegionOpen
namespace Go.Proofs.YtgbnicokglpdbaaGreatDoor
set_option maxHeartbeats 400000
section
open Go.RowKit
theorem tz(v hi:Int)(w:World) :
 Calls Tryz.prog 153 #[.int .i64 v,.int .i64 hi] w λe w'=>e=.returned (.bool (jG v 1 hi))/\w=w':=by
 unfold jG
 by_cases h1:1<=v<;>by_cases h2:v<=hi
 all_goals
  go_enter Tryz.func153,Tryz.ntmps153
  go_wp2
  go_ret
  exact⟨by simp[*],rfl⟩
end
section
def J7(w h:Int)(s:aj):Prop:=(s.W<=w/\s.H<=h)\/(s.T=true/\s.H<=w/\s.W<=h)
theorem Gp(k:Int)(ss:List aj)(hk:0<=k)(D c w0 h0:Int)(hc:0<=c)
 (hs:∀ s∈ss,J7 w0 h0 s->s.V*D<=c*(s.W*s.H)):∀ (f:Nat) (w h:Int),w.toNat+h.toNat<=f->0<=w->0<=h->w<=w0->h<=h0->val k ss w h*D<=c*(w*h):=by
 intro f
 induction f with
 |zero =>
  intro w h hf hw hh _ _
  rw[fD k ss w h (by omega),Int.zero_mul]
  exact Int.mul_nonneg hc (Int.mul_nonneg hw hh)
 |succ f ih =>
  intro w h hf hw hh a9 a0
  have aF:0<=c*(w*h):=Int.mul_nonneg hc (Int.mul_nonneg hw hh)
  by_cases aa:w<1\/h<1
  ·rw[fD k ss w h aa,Int.zero_mul];exact aF
  obtain⟨x,hx,he⟩:=xL (val k ss) k ss w h
  rw[← yx k ss hk w h (by omega) (by omega)] at he
  rw[← he]
  rcases (lR _ k ss w h (by omega) (by omega) x).1 hx with rfl|⟨j,s,hj,⟨h1,h2,rfl⟩|⟨bc,h1,h2,rfl⟩⟩|⟨a,bf,bg,rfl⟩|⟨a,bf,bg,rfl⟩
  ·simpa using aF
  ·have:=hs s (List.mem_of_getElem? hj) (.inl ⟨by omega,by omega⟩)
   rwa [h1,h2] at this
  ·have:=hs s (List.mem_of_getElem? hj) (.inr ⟨bc,by omega,by omega⟩)
   rwa [h1,h2,Int.mul_comm h w] at this
  ·have i1:=ih a h (by omega) (by omega) hh (by omega) a0
   have i2:val k ss (w-a-k) h*D<=c*((w-a)*h):=by
    by_cases hr:w-a-k<1
    ·rw[fD k ss _ h (.inl hr),Int.zero_mul];exact Int.mul_nonneg hc (Int.mul_nonneg (by omega) hh)
    have i3:=ih (w-a-k) h (by omega) (by omega) hh (by omega) a0
    refine Int.le_trans i3 (Int.mul_le_mul_of_nonneg_left (Int.mul_le_mul_of_nonneg_right (by omega) hh) hc)
   have e1:w*h=a*h+(w-a)*h:=by rw[← Int.add_mul];congr 1;omega
   simp only[Int.add_mul]
   rw[e1,Int.mul_add]
   omega
  have i1:=ih w a (by omega) hw (by omega) a9 (by omega)
  have i2:val k ss w (h-a-k)*D<=c*(w*(h-a)):=by
   by_cases hr:h-a-k<1
   ·rw[fD k ss w _ (.inr hr),Int.zero_mul];exact Int.mul_nonneg hc (Int.mul_nonneg hw (by omega))
   have i3:=ih w (h-a-k) (by omega) hw (by omega) a9 (by omega)
   refine Int.le_trans i3 (Int.mul_le_mul_of_nonneg_left (Int.mul_le_mul_of_nonneg_left (by omega) hw) hc)
  have e1:w*h=w*a+w*(h-a):=by rw[← Int.mul_add];congr 1;omega
  simp only[Int.add_mul]
  rw[e1,Int.mul_add]
  omega
theorem vP(k:Int)(ss:List aj)(hk:0<=k)(hs:∀ s∈ss,1<=s.W/\1<=s.H/\0<=s.V/\s.V<=1000000)(w h:Int)(hw:w<=64)(hh:h<=64):val k ss w h<=4096000000:=by
 by_cases aa:w<1\/h<1
 ·rw[fD k ss w h aa];omega
 have h1:=Gp k ss hk 1 1000000 64 64 (by omega) (λs bj _=>by
  obtain⟨h1,h2,h3,h4⟩:=hs s bj
  have:1<=s.W*s.H:=by have:=Int.mul_le_mul h1 h2 (by omega) (by omega);simpa using this
  omega) _ w h (Nat.le_refl _) (by omega) (by omega) hw hh
 have h2:w*h<=64*64:=Int.mul_le_mul hw hh (by omega) (by omega)
 omega
theorem fi{w h k:Int}{ss:List aj}(hp:eP w h k ss=true):1<=w/\w<=64/\1<=h/\h<=64/\0<=k/\k<=8/\ss.length<=16/\∀ s∈ss,(1<=s.W/\s.W<=64)/\(1<=s.H/\s.H<=64)/\0<=s.V/\s.V<=1000000:=by
 simp only[eP,jG,Bool.and_eq_true,decide_eq_true_eq,List.all_eq_true,lC] at hp
 obtain⟨⟨⟨⟨⟨h1,h2⟩,h3,h4⟩,h5,h6⟩,h7⟩,h8⟩:=hp
 exact⟨h1,h2,h3,h4,h5,h6,h7,λs hs=>by have:=h8 s hs;omega⟩
end
section
open Go.RowKit
def qr(w h:Int)(s:aj)(t:Bool):Bool:=(t&&s.T&&(w==s.H)&&(h==s.W))||(!t&&(w==s.W)&&(h==s.H))
end
section
open Go.RowKit
theorem tJ:au Tryz.prog 95 253 2 16:=au.of (z:=.agg #[.int .i64 0,.int .i64 0]) Tryz.underlying95 (by kernel_rfl) rfl (by omega)
theorem lG:au Tryz.prog 27 3 1 8:=au.of (z:=.int .i64 0) Tryz.underlying27 (by kernel_rfl) rfl (by omega)
theorem Cm(w h:Int)(s:aj):qr w h s false=true ↔ (s.W=w/\s.H=h):=by
 simp only[qr,Bool.false_and,Bool.false_or,Bool.not_false,Bool.true_and,Bool.and_eq_true,beq_iff_eq]
 exact⟨λ⟨a,b⟩=>⟨a.symm,b.symm⟩,λ⟨a,b⟩=>⟨a.symm,b.symm⟩⟩
theorem Eo(w h:Int)(s:aj):qr w h s true=true ↔ (s.T=true/\s.H=w/\s.W=h):=by
 simp only[qr,Bool.true_and,Bool.not_true,Bool.false_and,Bool.or_false,Bool.and_eq_true,beq_iff_eq]
 exact⟨λ⟨⟨t,a⟩,b⟩=>⟨t,a.symm,b.symm⟩,λ⟨t,a,b⟩=>⟨⟨t,a.symm⟩,b.symm⟩⟩
theorem fU(w h:Int)(i:Nat)(s:aj):eQ w h i s=(if qr w h s false then [((1,(i:Int)),s.V)] else [])++(if qr w h s true then [((2,(i:Int)),s.V)] else []):=by
 unfold eQ
 simp only[Cm,Eo]
theorem Fw(a b:Int):∀ u∈(#[Value.int .i64 a,Value.int .i64 b]:Array Value).toList,u.oneCell'=true:=by simp[Value.oneCell']
end
section
open Go.RowKit
end
section
open Go.RowKit
theorem vu(k:Int)(ss:List aj)(hk:0<=k):∀ (f:Nat) (w h:Int),w.toNat+h.toNat<=f->1<=w->1<=h->((aK k ss w h).length:Int)+1<=2*(w*h):=by
 intro f
 induction f with
 |zero=>intro w h hf hw hh;omega
 |succ f ih =>
  intro w h hf hw hh
  obtain⟨⟨⟨c,a⟩,v⟩,hp,hm,hv⟩:=kG k ss hk w h hw hh
  rw[rt k ss hk w h hw hh hp]
  have bm:1<=w*h:=by have:=Int.mul_le_mul hw hh (by omega) (by omega);simpa using this
  rcases (lR _ k ss w h hw hh _).1 hm with h1|⟨j,s,_,⟨_,_,h1⟩|⟨_,_,_,h1⟩⟩|⟨b,ad,bi,h1⟩|⟨b,ad,bi,h1⟩<;>simp only[Prod.mk.injEq] at h1<;>obtain⟨⟨rfl,rfl⟩,rfl⟩:=h1
  ·simp;omega
  ·simp;omega
  ·simp;omega
  ·simp only[if_true,List.length_cons,List.length_append]
   have i1:=ih a h (by omega) ad hh
   have e1:w*h=a*h+(w-a)*h:=by rw[← Int.add_mul];congr 1;omega
   have i2:((aK k ss (w-a-k) h).length:Int)+1<=2*((w-a)*h):=by
    by_cases hr:w-a-k<1
    ·rw[iH k ss _ h (.inl hr)]
     have:1<=(w-a)*h:=by have:=Int.mul_le_mul (show 1<=w-a by omega) hh (by omega) (by omega);simpa using this
     simp;omega
    have i3:=ih (w-a-k) h (by omega) (by omega) hh
    have:=Int.mul_le_mul_of_nonneg_right (show w-a-k<=w-a by omega) (show 0<=h by omega)
    omega
   omega
  simp only[if_neg (show ¬ (4:Int)=3 by omega),if_true,List.length_cons,List.length_append]
  have i1:=ih w a (by omega) hw ad
  have e1:w*h=w*a+w*(h-a):=by rw[← Int.mul_add];congr 1;omega
  have i2:((aK k ss w (h-a-k)).length:Int)+1<=2*(w*(h-a)):=by
   by_cases hr:h-a-k<1
   ·rw[iH k ss w _ (.inr hr)]
    have:1<=w*(h-a):=by have:=Int.mul_le_mul hw (show 1<=h-a by omega) (by omega) (by omega);simpa using this
    simp;omega
   have i3:=ih w (h-a-k) (by omega) hw (by omega)
   have:=Int.mul_le_mul_of_nonneg_left (show h-a-k<=h-a by omega) (show 0<=w by omega)
   omega
  omega
theorem qI(k:Int)(ss:List aj)(hk:0<=k)(w h:Int)(hw:w<=64)(hh:h<=64):(aK k ss w h).length<=8192:=by
 by_cases aa:w<1\/h<1
 ·rw[iH k ss w h aa];simp
 have h1:=vu k ss hk _ w h (Nat.le_refl _) (by omega) (by omega)
 have h2:w*h<=64*64:=Int.mul_le_mul hw hh (by omega) (by omega)
 omega
def zy(w:World)(base:Nat)(v:Value)(l:List (Int×Int)):Prop:=w.ownsRow base 253 2 v l.length (l.flatMap ep)
theorem dT{B:Nat}{W W':World}(h:Below B W W')(n:Nat):Below B W (W'.drewN n):=⟨h.os,h.tape,h.output,h.size,h.block⟩
theorem rp{W:World}{b b' e s n:Nat}{v:Value}{xs:List Value}(h:W.ownsRow b e s v n xs)(hb:b'<=b):W.ownsRow b' e s v n xs:=by
 refine⟨h.1,?_⟩
 rcases h.2 with h0|⟨g,c,cur,h1,h2,h3⟩
 ·exact .inl h0
 exact .inr ⟨g,c,cur,h1,Nat.le_trans hb h2,h3⟩
end
section
open Go.RowKit
theorem ag.drew{α:Type}{enc:α->List Value}{sz:Nat}{W:World}{A:Option Addr}{n:Nat}{l:List α}(h:ag enc sz W A n l):ag enc sz W.drew A n l:=h
end
section
open Go.RowKit
section
variable{P:Program}{ops:Array Oper}{C:World->Prop}{md:Region.Mode}{l n:Nat}
def qe(ops:Array Oper):Bool:=ops.all λo=>match o.op with | .defer _=>false|_=>true
theorem BA{i:Nat}{o:Oper}(h:qe ops=true)(ho:ops[i]?=some o):∀ c,o.op≠.defer c:=by
 intro c hc
 obtain⟨hi,rfl⟩:=Array.getElem?_eq_some_iff.1 ho
 have:=Array.all_eq_true.1 h i hi
 rw[hc] at this
 cases this
theorem wm{o:Oper}{a:Act}{K:Act->Prop}{K':Act->World->Prop}{Q':Exit->Act->World->Prop}{w:World}(hd:∀ c,o.op≠.defer c)(hw:C w)(h:∀ a w',C w'->K a->K' a w')(hh:o.quiet P a C K) :
 o.wpIn (Fence.wide.inRound l) n P a w K' Q':=by
 obtain⟨v,h1,h2⟩:=hh
 have h3:=h1 w hw
 unfold Oper.quietAt at h3
 refine⟨λ_ _=>trivial,?_⟩
 rw[show (Fence.wide.inRound l).round=some l from rfl,Oper.semAt_some l a.eval o hd]
 generalize (execOp a.eval o).run P w=r at *
 cases r with
 |ok x w' =>
  cases x<;>simp only[Oper.quietUpon] at h3<;>simp only[Oper.uponIn]
  case value u =>
   obtain⟨e1,e2⟩:=h3
   rw[e1,e2]
   exact h _ _ hw h2
  case skip =>
   obtain⟨e1,e2⟩:=h3
   rw[e1,← e2]
   exact h _ _ hw h2
  case enter f args =>
   obtain⟨e1,hc⟩:=h3
   rw[e1]
   refine⟨λh0=>by simp[Fence.wide,Fence.inRound] at h0,CallsIn.inRound l (callsIn_wide.2 (hc.mono λe w'' ⟨he,bk⟩=>?_))⟩
   subst he
   exact h _ _ bk h2
 |halt x w'=>simp only[Oper.quietUpon] at h3
theorem wn{i:Nat}{a:Act}{K:Act->Prop}{K':Act->World->Prop}{Q':Exit->Act->World->Prop}{w:World}(hd:qe ops=true)(hC:C w)(h:∀ a w',C w'->K a->K' a w')(hh:qOp P ops C i K a) :
 wpOpIn (Fence.wide.inRound l) n P ops Q' i K' a w:=by
 unfold qOp at hh
 unfold wpOpIn
 split
 ·rename_i ho;simp only[ho] at hh;exact h _ _ hC hh
 rename_i o ho
 simp only[ho] at hh
 split
 ·rename_i hw;simp only[hw,if_true] at hh;exact wm (BA hd ho) hC h hh
 rename_i hw;simp only[hw] at hh;exact⟨λ_ _=>trivial,h _ _ hC hh⟩
theorem mh{Q:Act->Prop}{Q':Exit->Act->World->Prop}(hd:qe ops=true)(hQ:∀ a w,C w->Q a->Q' .normal a w):∀ (fuel:Nat) (listed:Array Bool) (a:Act) (w:World),C w->
 wpAnyQ P md ops C Q fuel listed a->wpAnyIn (Fence.wide.inRound l) n P md ops Q' fuel listed a w
 |0,_,_,_,hw,h=>⟨h.1,hQ _ _ hw h.2⟩
 |fuel+1,_,_,_,hw,h=>⟨λh0=>hQ _ _ hw (h.1 h0),λi hi=>wn hd hw (λa' w' am=>mh hd hQ fuel _ a' w' am) (h.2 i hi)⟩
theorem cG{id:Nat}{Q:Exit->Act->World->Prop}{a:Act}{w:World}{lo:List Oper}(hm:P.follows .mixedOrders=true)(hB:Region.lexB .any lo.toArray=true)(hd:qe lo.toArray=true)
 (h:wpQuiet P lo.toArray (λw'=>∃ n,w'=w.drewN n) (λa'=>∀ w',(∃ n,w'=w.drewN n)->Q .normal a' w') lo a):(Code.region id lo.toArray true).wpIn (Fence.wide.inRound l) n P Q a w:=by
 simp only[Region.lexB,Bool.and_eq_true] at hB
 refine wpIn_region_any hm (mh (C:=λw'=>∃ n,w'=w.drewN n) (Q:=λa'=>∀ w',(∃ n,w'=w.drewN n)->Q .normal a' w') hd (λ_ w' am h=>h w' am) _ _ _ _ ⟨1,rfl⟩ ?_)
 have:=wpAnyQ_lex (C:=λw'=>∃ n,w'=w.drewN n) (md:=.any) hB.1 lo 0 (Array.replicate lo.toArray.size false) a (by simp) (by simpa using hB.2) h
 simpa using this
end
def KC(mo:Option Nat)(W W':World):Prop:=W.heap.size<=W'.heap.size/\∀ j o,W.heap[j]?=some o->o.isCells=true->some j≠mo->W'.heap[j]?=some o
section
variable{mo:Option Nat}{A B C:World}
theorem KC.refl(mo:Option Nat)(W:World):KC mo W W:=⟨Nat.le_refl _,λ_ _ h _ _=>h⟩
theorem KC.trans(h:KC mo A B)(k:KC mo B C):KC mo A C:=⟨Nat.le_trans h.1 k.1,λj o hj ho hm=>k.2 j o (h.2 j o hj ho hm) ho hm⟩
theorem KC.cell(h:KC mo A B){p:Addr}{v:Value}(hp:A.cell? p=some v)(hm:some p.block≠mo):B.cell? p=some v:=by
 obtain⟨o,ho,hc⟩:=cells_of_cell hp
 exact (World.cell?_of_block (w:=A) ((h.2 p.block o ho hc hm).trans ho.symm)).trans hp
theorem KC.putObj(W:World)(l:Nat)(o o':Obj)(h:W.heap[l]?=some o)(hc:o.isCells=false):KC mo W (W.putObj l o'):=
 ⟨(grownBy_putObj' W l o').size, fun j u hj hu _ => ((grownBy_putObj' W l o').block j (Array.getElem?_eq_some_iff.1 hj).1 (fun e => by
   injection e with e
   subst e
   rw[h] at hj
   injection hj with hj
   subst hj
   rw[hc] at hu
   cases hu)).trans hj⟩
theorem KC.grown{row:Option Nat}(h:A.grownBy B row)(hr:∀ b,row=some b->mo=some b\/A.heap.size<=b):KC mo A B:=
 ⟨h.size,λj o hj _ hm=>(h.block j (Array.getElem?_eq_some_iff.1 hj).1 (λe=>by
  rcases hr j e.symm with h'|h'
  ·exact hm h'.symm
  have:=(Array.getElem?_eq_some_iff.1 hj).1;omega)).trans hj⟩
theorem KC.alloc(W:World)(o:Obj):KC mo W (W.alloc o):=KC.grown (World.grownBy_alloc W o none) (λb h=>by cases h)
theorem KC.setCell(W:World){b o:Nat}(hb:mo=some b)(u:Value):KC mo W (W.setCell ⟨b,o,none⟩ u):=
 ⟨by simp[World.setCell],λj c hj _ hm=>(Below.heap_setCell _ _ _ _ (λe=>by
  dsimp only at e
  subst e
  exact hm hb.symm)).trans hj⟩
end
end
end Go.Proofs.YtgbnicokglpdbaaGreatDoor
