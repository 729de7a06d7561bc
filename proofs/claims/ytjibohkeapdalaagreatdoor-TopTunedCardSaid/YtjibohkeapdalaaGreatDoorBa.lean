/-
  Contracts of the small functions of temper: in, within, weights; no condition but those that each contract states. Contracts of temper.Check and of the document's Check: whether a ring is valid; condition: the two lists of weights can be read.
-/
import Derived.Test.YtjibohkeapdalaaGreatDoorA0
namespace Go.Proofs.YtjibohkeapdalaaGreatDoor
set_option maxHeartbeats 8000000
set_option maxRecDepth 8000
section
open Go.RowKit
def inBT(v lo hi:Int):Bool:=decide (lo<=v)&&decide (v<=hi)
theorem all_of_takeT{α:Type}(p:α->Bool)(l:List α)(k:Nat)(x:α)(h:(l.take k).all p=true)(hx:l[k]?=some x)(hp:p x=true):(l.take (k+1)).all p=true:=by
 obtain⟨hk,rfl⟩:=List.getElem?_eq_some_iff.1 hx
 rw[List.take_succ_eq_append_getElem hk,List.all_append,h]
 simp[hp]
theorem all_false_ofT{α:Type}(p:α->Bool)(l:List α)(k:Nat)(x:α)(hx:l[k]?=some x)(hp:p x=false):l.all p=false:=by
 rw[List.all_eq_false]
 exact⟨x,List.mem_of_getElem? hx,by simp[hp]⟩
theorem withinT_any(v lo hi:Int)(w:World) :
 Calls Tryz.prog 70 #[.int .i64 v,.int .i64 lo,.int .i64 hi] w λe w'=>e=.returned (.bool (inBT v lo hi))/\w=w':=by
 unfold inBT
 by_cases h1:lo<=v<;>by_cases h2:v<=hi
 all_goals
  go_enter Tryz.func70,Tryz.ntmps70
  go_wp2
  go_ret
  exact⟨by simp[*],rfl⟩
theorem weights_any(A:Option Addr)(n c:Nat)(l:List Int)(m:Int)(w:World)(hS:SlE intE 1 w A n l)(hn:n<=9223372036854775807) :
 Calls Tryz.prog 71 #[.slice A n c,.int .i64 m] w λe w'=>e=.returned (.bool (l.all (λx=>inBT x 0 1000)&&decide ((n:Int)=m)))/\w=w':=by
 refine calls_cps ?_
 intro R hR
 have hL:=zh hS.1
 go_enter Tryz.func71,Tryz.ntmps71
 go_upto_region 1 with fail
 go_wp2_with fail
 go_loopw [9] (λi wr=>∃ k:Nat,k<=n/\i=.int .i64 k/\wr=w/\Hid ((l.take k).all (λx=>inBT x 0 1000)=true)) (λi _=>n-(intOf i).toNat)
 case atStart=>exact⟨0,Nat.zero_le _,rfl,rfl,zh (by simp)⟩
 case round =>
  obtain⟨k,hk,rfl,rfl,Hall⟩:=hrel
  by_cases hlt:k<n
  ·obtain⟨b,o,x,rfl,hbl,hs,c0⟩:=hS.at1 hlt
   have Hs:=zh hs
   clear hs
   go_wp2_with (first|(go_at_call 70;refine (withinT_any _ _ _ _).mono ?_;rintro e w' ⟨rfl,rfl⟩))
   ·have hx:inBT x 0 1000=false:=by simp_all
    refine hR.out _ _ ⟨ret_bool ?_,rfl⟩
    rw[all_false_ofT _ _ _ _ Hs.out hx]
    rfl
   case roundEnd =>
    have hx:inBT x 0 1000=true:=by simp_all
    exact⟨⟨k+1,by omega,by go_num,by trivial,zh (all_of_takeT _ _ _ _ Hall.out Hs.out hx)⟩,by simp[intOf];omega⟩
  ·obtain rfl:k=n:=by omega
   have h:=Hall.out
   rw[List.take_of_length_le (by rw[hL.out];exact Nat.le_refl _)] at h
   have Hfin:=zh (show ∀ b:Bool,b=decide ((k:Int)=m)->R (.returned (.bool b)) _ from λb hb'=>hR.out _ _ ⟨ret_bool (by rw[h,hb'];rfl),rfl⟩)
   by_cases hm:(k:Int)=m
   all_goals
    go_wp2
    exact Hfin.out _ (by simp[hm])
end
section
open Go.RowKit
structure Rn where
 N:Int
 S:Int
 low:Int
 high:Int
 total:Int
 pure:Int
 worst:Int
def rgOk(x:Rn)(fi th:List Int):Bool:=
 inBT x.N 3 24&&inBT x.S 2 4&&decide (x.S<x.N)&&inBT x.low (-12) 12&&inBT x.high x.low (x.low+3)&&inBT x.total (-288) 288&&inBT x.pure (-100) 100&&inBT x.worst 0 1000 &&
 (fi.all (λy=>inBT y 0 1000)&&decide ((fi.length:Int)=x.N))&&(th.all (λy=>inBT y 0 1000)&&decide ((th.length:Int)=x.N))
def ringA(N S low high total pure worst:Int)(f t:Value):Array Value:=#[.int .i64 N,.int .i64 S,.int .i64 low,.int .i64 high,.int .i64 total,.int .i64 pure,.int .i64 worst,f,t]
def Rn.val(x:Rn)(f t:Value):Value:=.agg (ringA x.N x.S x.low x.high x.total x.pure x.worst f t)
theorem inB_iff{v lo hi:Int}:inBT v lo hi=true ↔ lo<=v/\v<=hi:=by unfold inBT;simp
theorem within_is(v lo hi:Int)(b:Bool)(w:World)(h:inBT v lo hi=b) :
 Calls Tryz.prog 70 #[.int .i64 v,.int .i64 lo,.int .i64 hi] w λe w'=>e=.returned (.bool b)/\w=w':=by subst h;exact withinT_any v lo hi w
theorem weights_is(A:Option Addr)(n c:Nat)(l:List Int)(m:Int)(b:Bool)(w:World)(hS:SlE intE 1 w A n l)(hn:n<=9223372036854775807)(h:(l.all (λx=>inBT x 0 1000)&&decide ((l.length:Int)=m))=b) :
 Calls Tryz.prog 71 #[.slice A n c,.int .i64 m] w λe w'=>e=.returned (.bool b)/\w=w':=by
 subst h;rw[← hS.1];exact weights_any A n c l m w hS hn
theorem check_any(x:Rn)(A B:Option Addr)(n c m d:Nat)(fi th:List Int)(w:World)(hF:SlE intE 1 w A n fi)(hT:SlE intE 1 w B m th)(hn:n<=9223372036854775807)(hm:m<=9223372036854775807) :
 Calls Tryz.prog 28 #[x.val (.slice A n c) (.slice B m d)] w λe w'=>e=.returned (.int .i64 (if rgOk x fi th then 0 else 1))/\Below w.heap.size w w':=by
 obtain⟨N,S,low,high,total,pure,worst⟩:=x
 refine calls_cps ?_
 intro R hR
 unfold Rn.val ringA
 have hF':=hF.alloc (.cells #[.int .i64 N,.int .i64 S,.int .i64 low,.int .i64 high,.int .i64 total,.int .i64 pure,.int .i64 worst,.slice A n c,.slice B m d] 24)
 have hT':=hT.alloc (.cells #[.int .i64 N,.int .i64 S,.int .i64 low,.int .i64 high,.int .i64 total,.int .i64 pure,.int .i64 worst,.slice A n c,.slice B m d] 24)
 have Hno:=zh (show ∀ o,rgOk ⟨N,S,low,high,total,pure,worst⟩ fi th=false->R (.returned (.int .i64 1)) (w.alloc o) from λo h=>hR.out _ _ ⟨by rw[h];rfl,(Below.refl _ _).alloc (Nat.le_refl _) _⟩)
 have Hyes:=zh (show ∀ o,rgOk ⟨N,S,low,high,total,pure,worst⟩ fi th=true->R (.returned (.int .i64 0)) (w.alloc o) from λo h=>hR.out _ _ ⟨by rw[h];rfl,(Below.refl _ _).alloc (Nat.le_refl _) _⟩)
 unfold rgOk at Hno Hyes
 dsimp only at Hno Hyes
 clear hR hF hT
 cases h0:inBT N 3 24
 ·go_enter Tryz.func28,Tryz.ntmps28
  go_wp2_with (first|(go_at_call 70;(with_reducible refine (within_is _ _ _ _ _ (by assumption)).mono ?_);rintro e w' ⟨rfl,rfl⟩)|(go_at_call 71;(with_reducible refine (weights_is A n c fi N _ _ hF' hn (by assumption)).mono ?_);rintro e w' ⟨rfl,rfl⟩)|(go_at_call 71;(with_reducible refine (weights_is B m d th N _ _ hT' hm (by assumption)).mono ?_);rintro e w' ⟨rfl,rfl⟩))
  exact Hno.out _ (by simp[h0])
 cases h1:inBT S 2 4
 ·go_enter Tryz.func28,Tryz.ntmps28
  go_wp2_with (first|(go_at_call 70;(with_reducible refine (within_is _ _ _ _ _ (by assumption)).mono ?_);rintro e w' ⟨rfl,rfl⟩)|(go_at_call 71;(with_reducible refine (weights_is A n c fi N _ _ hF' hn (by assumption)).mono ?_);rintro e w' ⟨rfl,rfl⟩)|(go_at_call 71;(with_reducible refine (weights_is B m d th N _ _ hT' hm (by assumption)).mono ?_);rintro e w' ⟨rfl,rfl⟩))
  exact Hno.out _ (by simp[h0,h1])
 cases h2:decide (S<N)
 ·go_enter Tryz.func28,Tryz.ntmps28
  have h2n:¬ S<N:=by simpa using h2
  have h2m:N<=S:=by omega
  clear h2 h2n
  go_wp2_with (first|(go_at_call 70;(with_reducible refine (within_is _ _ _ _ _ (by assumption)).mono ?_);rintro e w' ⟨rfl,rfl⟩)|(go_at_call 71;(with_reducible refine (weights_is A n c fi N _ _ hF' hn (by assumption)).mono ?_);rintro e w' ⟨rfl,rfl⟩)|(go_at_call 71;(with_reducible refine (weights_is B m d th N _ _ hT' hm (by assumption)).mono ?_);rintro e w' ⟨rfl,rfl⟩))
  exact Hno.out _ (by simp[h0,h1,show ¬ S<N from by omega])
 have h2n:S<N:=by simpa using h2
 clear h2
 cases h3:inBT low (-12) 12
 ·go_enter Tryz.func28,Tryz.ntmps28
  go_wp2_with (first|(go_at_call 70;(with_reducible refine (within_is _ _ _ _ _ (by assumption)).mono ?_);rintro e w' ⟨rfl,rfl⟩)|(go_at_call 71;(with_reducible refine (weights_is A n c fi N _ _ hF' hn (by assumption)).mono ?_);rintro e w' ⟨rfl,rfl⟩)|(go_at_call 71;(with_reducible refine (weights_is B m d th N _ _ hT' hm (by assumption)).mono ?_);rintro e w' ⟨rfl,rfl⟩))
  exact Hno.out _ (by simp[h0,h1,h2n,h3])
 obtain⟨l1,l2⟩:=inB_iff.1 h3
 cases h4:inBT high low (low+3)
 ·go_enter Tryz.func28,Tryz.ntmps28
  go_wp2_with (first|(go_at_call 70;(with_reducible refine (within_is _ _ _ _ _ (by assumption)).mono ?_);rintro e w' ⟨rfl,rfl⟩)|(go_at_call 71;(with_reducible refine (weights_is A n c fi N _ _ hF' hn (by assumption)).mono ?_);rintro e w' ⟨rfl,rfl⟩)|(go_at_call 71;(with_reducible refine (weights_is B m d th N _ _ hT' hm (by assumption)).mono ?_);rintro e w' ⟨rfl,rfl⟩))
  exact Hno.out _ (by simp[h0,h1,h2n,h3,h4])
 cases h5:inBT total (-288) 288
 ·go_enter Tryz.func28,Tryz.ntmps28
  go_wp2_with (first|(go_at_call 70;(with_reducible refine (within_is _ _ _ _ _ (by assumption)).mono ?_);rintro e w' ⟨rfl,rfl⟩)|(go_at_call 71;(with_reducible refine (weights_is A n c fi N _ _ hF' hn (by assumption)).mono ?_);rintro e w' ⟨rfl,rfl⟩)|(go_at_call 71;(with_reducible refine (weights_is B m d th N _ _ hT' hm (by assumption)).mono ?_);rintro e w' ⟨rfl,rfl⟩))
  exact Hno.out _ (by simp[h0,h1,h2n,h3,h4,h5])
 cases h6:inBT pure (-100) 100
 ·go_enter Tryz.func28,Tryz.ntmps28
  go_wp2_with (first|(go_at_call 70;(with_reducible refine (within_is _ _ _ _ _ (by assumption)).mono ?_);rintro e w' ⟨rfl,rfl⟩)|(go_at_call 71;(with_reducible refine (weights_is A n c fi N _ _ hF' hn (by assumption)).mono ?_);rintro e w' ⟨rfl,rfl⟩)|(go_at_call 71;(with_reducible refine (weights_is B m d th N _ _ hT' hm (by assumption)).mono ?_);rintro e w' ⟨rfl,rfl⟩))
  exact Hno.out _ (by simp[h0,h1,h2n,h3,h4,h5,h6])
 cases h7:inBT worst 0 1000
 ·go_enter Tryz.func28,Tryz.ntmps28
  go_wp2_with (first|(go_at_call 70;(with_reducible refine (within_is _ _ _ _ _ (by assumption)).mono ?_);rintro e w' ⟨rfl,rfl⟩)|(go_at_call 71;(with_reducible refine (weights_is A n c fi N _ _ hF' hn (by assumption)).mono ?_);rintro e w' ⟨rfl,rfl⟩)|(go_at_call 71;(with_reducible refine (weights_is B m d th N _ _ hT' hm (by assumption)).mono ?_);rintro e w' ⟨rfl,rfl⟩))
  exact Hno.out _ (by simp[h0,h1,h2n,h3,h4,h5,h6,h7])
 cases h8:(fi.all (λy=>inBT y 0 1000)&&decide ((fi.length:Int)=N))
 ·go_enter Tryz.func28,Tryz.ntmps28
  go_wp2_with (first|(go_at_call 70;(with_reducible refine (within_is _ _ _ _ _ (by assumption)).mono ?_);rintro e w' ⟨rfl,rfl⟩)|(go_at_call 71;(with_reducible refine (weights_is A n c fi N _ _ hF' hn (by assumption)).mono ?_);rintro e w' ⟨rfl,rfl⟩)|(go_at_call 71;(with_reducible refine (weights_is B m d th N _ _ hT' hm (by assumption)).mono ?_);rintro e w' ⟨rfl,rfl⟩))
  exact Hno.out _ (by simp[h0,h1,h2n,h3,h4,h5,h6,h7,h8])
 cases h9:(th.all (λy=>inBT y 0 1000)&&decide ((th.length:Int)=N))
 ·go_enter Tryz.func28,Tryz.ntmps28
  go_wp2_with (first|(go_at_call 70;(with_reducible refine (within_is _ _ _ _ _ (by assumption)).mono ?_);rintro e w' ⟨rfl,rfl⟩)|(go_at_call 71;(with_reducible refine (weights_is A n c fi N _ _ hF' hn (by assumption)).mono ?_);rintro e w' ⟨rfl,rfl⟩)|(go_at_call 71;(with_reducible refine (weights_is B m d th N _ _ hT' hm (by assumption)).mono ?_);rintro e w' ⟨rfl,rfl⟩))
  exact Hno.out _ (by simp[h0,h1,h2n,h3,h4,h5,h6,h7,h8,h9])
 go_enter Tryz.func28,Tryz.ntmps28
 go_wp2_with (first|(go_at_call 70;(with_reducible refine (within_is _ _ _ _ _ (by assumption)).mono ?_);rintro e w' ⟨rfl,rfl⟩)|(go_at_call 71;(with_reducible refine (weights_is A n c fi N _ _ hF' hn (by assumption)).mono ?_);rintro e w' ⟨rfl,rfl⟩)|(go_at_call 71;(with_reducible refine (weights_is B m d th N _ _ hT' hm (by assumption)).mono ?_);rintro e w' ⟨rfl,rfl⟩))
 exact Hyes.out _ (by simp[h0,h1,h2n,h3,h4,h5,h6,h7,h8,h9])
end
end Go.Proofs.YtjibohkeapdalaaGreatDoor
