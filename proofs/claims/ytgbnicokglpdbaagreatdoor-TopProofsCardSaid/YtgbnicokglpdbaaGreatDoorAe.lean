/-
Plain; conditions: those of each theorem.
-/
import Derived.Test.YtgbnicokglpdbaaGreatDoorAd
import Derived.Lib.AppendIntMem
import Derived.Lib.ItoaLen
import Derived.Shelf.Slices.Turned
import Derived.Shelf.Small.Wraps
import Derived.Shelf.Strconv.Atoi
import Derived.Shelf.Strconv.Itoa4
import Derived.Shelf.Strings.Cut
import Derived.Shelf.Strings.Fields
import Derived.Shelf.Strings.OnBuilder
import Derived.Shelf.Strings.Split
namespace Go.Proofs.YtgbnicokglpdbaaGreatDoor
set_option maxHeartbeats 4000000
set_option maxRecDepth 8000
section
def cB:List UInt8->List (List UInt8)
 |[]=>[[]]
 |c :: r=>if c=32 then [] :: cB r else ((c :: (cB r).headD []) :: (cB r).tail)
theorem JR:∀ l,cB l≠[]
 |[]=>by decide
 |c :: r=>by unfold cB;split<;>simp
theorem jZ:∀ (w l:List UInt8),(∀ c∈w,c≠32)->cB (w++32 :: l)=w :: cB l
 |[],l,_=>by
  rw[List.nil_append]
  unfold cB
  rw[if_pos rfl]
  cases l<;>rfl
 |c :: w,l,h=>by
  have ih:=jZ w l λx hx=>h x (List.mem_cons_of_mem _ hx)
  rw[List.cons_append,cB,if_neg (h c List.mem_cons_self),ih]
  rfl
theorem oI:∀ (w:List UInt8),(∀ c∈w,c≠32)->cB w=[w]
 |[],_=>rfl
 |c :: w,h=>by
  rw[cB,if_neg (h c List.mem_cons_self),oI w λx hx=>h x (List.mem_cons_of_mem _ hx)]
  rfl
theorem uY(c:UInt8)(w l:List UInt8)(h:∀ x∈w,x≠c):Lib.index (w++c :: l) [c]=(w.length:Int):=by
 induction w with
 |nil=>rw[List.nil_append,Lib.index];simp[List.isPrefixOf]
 |cons b w ih =>
  have hb:=h b List.mem_cons_self
  have hp:([c]:List UInt8).isPrefixOf (b :: (w++c :: l))=false:=by simp[List.isPrefixOf,Ne.symm hb]
  rw[List.cons_append,Lib.index,hp,ih λx hx=>h x (List.mem_cons_of_mem _ hx)]
  have:¬ ((w.length:Int) == -1)=true:=λe=>by have:=beq_iff_eq.1 e;omega
  simp
theorem EZ(c:UInt8)(w:List UInt8)(h:∀ x∈w,x≠c):Lib.index w [c] = -1:=by
 induction w with
 |nil=>simp[Lib.index]
 |cons b w ih =>
  have hb:=h b List.mem_cons_self
  have hp:([c]:List UInt8).isPrefixOf (b :: w)=false:=by simp[List.isPrefixOf,Ne.symm hb]
  rw[Lib.index,hp,ih λx hx=>h x (List.mem_cons_of_mem _ hx)]
  simp
theorem nz(c:UInt8):∀ (l:List UInt8),(∀ x∈l,x≠c)\/∃ w r,l=w++c :: r/\∀ x∈w,x≠c
 |[]=>.inl (by simp)
 |b :: l=>by
  by_cases hb:b=c
  ·subst hb
   exact .inr ⟨[],l,rfl,by simp⟩
  rcases nz c l with h|⟨w,r,rfl,h⟩
  ·exact .inl λx hx=>by
    rcases List.mem_cons.1 hx with rfl|hx
    ·exact hb
    exact h x hx
  exact .inr ⟨b :: w,r,rfl,λx hx=>by
   rcases List.mem_cons.1 hx with rfl|hx
   ·exact hb
   exact h x hx⟩
theorem B5:∀ (n:Nat) (l:List UInt8),l.length<=n->Lib.splitK [32] 0 (l.count 32) l=cB l:=by
 intro n
 induction n with
 |zero =>
  intro l h
  have:l=[]:=List.eq_nil_of_length_eq_zero (by omega)
  subst this
  rfl
 |succ n ih =>
  intro l h
  rcases nz 32 l with hn|⟨w,r,rfl,hw⟩
  ·have h0:l.count 32=0:=List.count_eq_zero.2 λhm=>hn _ hm rfl
   rw[h0,oI l hn]
   rfl
  have hc:(w++32 :: r).count 32=r.count 32+1:=by
   rw[List.count_append,List.count_cons_self,List.count_eq_zero.2 (λhm=>hw _ hm rfl)]
   omega
  have hi:=uY 32 w r hw
  rw[hc,Lib.splitK,hi,if_neg (λe=>by have:=beq_iff_eq.1 e;omega),jZ w r hw]
  have h1:((w.length:Int)).toNat=w.length:=by omega
  rw[h1,Nat.add_zero,List.take_left]
  have h2:(w++32 :: r).drop (w.length+[(32:UInt8)].length)=r:=by
   rw[← List.drop_drop,List.drop_left]
   rfl
  rw[h2,ih r (by rw[List.length_append,List.length_cons] at h;omega)]
theorem DQ(l:List UInt8):Lib.split l [32]=cB l:=by
 unfold Lib.split
 rw[Lib.count_one]
 exact B5 l.length l (Nat.le_refl _)
theorem uo{l w:List UInt8}(h:w∈cB l):w.length<=l.length/\∀ c∈w,c∈l/\c≠32:=by
 induction l generalizing w with
 |nil =>
  simp[cB] at h
  subst h
  simp
 |cons b l ih =>
  unfold cB at h
  split at h
  ·rcases List.mem_cons.1 h with rfl|h
   ·simp
   obtain⟨h1,h2⟩:=ih h
   exact⟨by rw[List.length_cons];omega,λc hc=>⟨List.mem_cons_of_mem _ (h2 c hc).1,(h2 c hc).2⟩⟩
  rename_i hb
  rcases List.mem_cons.1 h with rfl|h
  ·have hm:(cB l).headD []∈cB l:=by
    have:=JR l
    cases hs:cB l with
    |nil=>exact absurd hs this
    |cons a r=>simp
   obtain⟨h1,h2⟩:=ih hm
   refine⟨by rw[List.length_cons,List.length_cons];omega,λc hc=>?_⟩
   rcases List.mem_cons.1 hc with rfl|hc
   ·exact⟨List.mem_cons_self,hb⟩
   exact⟨List.mem_cons_of_mem _ (h2 c hc).1,(h2 c hc).2⟩
  obtain⟨h1,h2⟩:=ih (List.mem_of_mem_tail h)
  exact⟨by rw[List.length_cons];omega,λc hc=>⟨List.mem_cons_of_mem _ (h2 c hc).1,(h2 c hc).2⟩⟩
def bP(l:List UInt8):List UInt8:=l.takeWhile λc=>decide (c≠10)
theorem sk{l:List UInt8}(h:∀ c∈l,c≠10):bP l=l:=by
 unfold bP
 induction l with
 |nil=>rfl
 |cons a l ih =>
  rw[List.takeWhile_cons,if_pos (by simpa using h a List.mem_cons_self),ih λc hc=>h c (List.mem_cons_of_mem _ hc)]
theorem CJ{w r:List UInt8}(h:∀ c∈w,c≠10):bP (w++10 :: r)=w:=by
 unfold bP
 induction w with
 |nil=>simp
 |cons a l ih =>
  rw[List.cons_append,List.takeWhile_cons,if_pos (by simpa using h a List.mem_cons_self),ih λc hc=>h c (List.mem_cons_of_mem _ hc)]
theorem GP(l:List UInt8):(Lib.cut l [10]).1=bP l:=by
 rcases nz 10 l with hn|⟨w,r,rfl,hw⟩
 ·unfold Lib.cut
  rw[EZ 10 l hn,if_neg (by decide),sk hn]
 unfold Lib.cut
 rw[uY 10 w r hw,if_pos (by omega),CJ hw]
 have h1:((w.length:Int)).toNat=w.length:=by omega
 show (w++10 :: r).take (w.length:Int).toNat=w
 rw[h1,List.take_left]
theorem Jk{l:List UInt8}:∀ c∈bP l,c≠10:=by
 rcases nz 10 l with hn|⟨w,r,rfl,hw⟩
 ·rw[sk hn];exact hn
 rw[CJ hw];exact hw
end
section
def gh(c:UInt8):Bool:=decide (48<=c.toNat)&&decide (c.toNat<=57)
def fh(l:List UInt8):List UInt8:=if l.head?=some 45 then l.tail else l
def ce(l:List UInt8):Option Int:=
 if (fh l).all gh=true/\1<=(fh l).length/\(fh l).length<=12/\((fh l).head?=some 48->l=[48]) then Lib.atoi l else none
theorem qB:∀ (a b:List UInt8) (acc n:Nat),Lib.decFrom acc a=some n->Lib.decFrom acc (a++b)=Lib.decFrom n b
 |[],b,acc,n,h=>by
  simp only[Lib.decFrom,Option.some.injEq] at h
  subst h
  rfl
 |c :: a,b,acc,n,h=>by
  rw[List.cons_append]
  have h:(match Lib.digitVal c with|some d=>Lib.decFrom (acc*10+d) a|none=>none)=some n:=h
  show (match Lib.digitVal c with|some d=>Lib.decFrom (acc*10+d) (a++b)|none=>none)=Lib.decFrom n b
  cases hd:Lib.digitVal c with
  |none=>rw[hd] at h;cases h
  |some d =>
   rw[hd] at h
   exact qB a b _ n h
theorem gA{k:Nat}(h:k<10):(UInt8.ofNat (48+k)).toNat=48+k:=by
 rw[UInt8.toNat_ofNat']
 omega
theorem qC{k:Nat}(h:k<10):Lib.digitVal (UInt8.ofNat (48+k))=some k:=by
 unfold Lib.digitVal
 rw[gA h,if_pos (by omega)]
 congr 1
 omega
theorem AW(u:Nat):Lib.decFrom 0 (Lib.decDigits u)=some u:=by
 induction u using Nat.strongRecOn with
 |_ u ih =>
  rw[Lib.decDigits]
  split
  ·rename_i h
   unfold Lib.decFrom
   rw[qC h]
   simp[Lib.decFrom]
  rename_i h
  rw[qB _ _ 0 (u/10) (ih (u/10) (by omega))]
  unfold Lib.decFrom
  rw[qC (by omega)]
  simp only[Lib.decFrom,Option.some.injEq]
  omega
theorem r9(u:Nat):(Lib.decDigits u).all gh=true:=by
 induction u using Nat.strongRecOn with
 |_ u ih =>
  rw[Lib.decDigits]
  split
  ·rename_i h
   simp only[List.all_cons,List.all_nil,Bool.and_true,gh,gA h,Bool.and_eq_true,decide_eq_true_eq]
   omega
  rename_i h
  rw[List.all_append,ih (u/10) (by omega)]
  simp only[List.all_cons,List.all_nil,Bool.and_true,Bool.true_and,gh,gA (show u%10<10 by omega),Bool.and_eq_true,decide_eq_true_eq]
  omega
theorem yL(u:Nat):∃ c r,Lib.decDigits u=c :: r/\gh c=true/\(c=48->u=0):=by
 induction u using Nat.strongRecOn with
 |_ u ih =>
  rw[Lib.decDigits]
  split
  ·rename_i h
   refine⟨_,[],rfl,?_,λhc=>?_⟩
   ·simp only[gh,gA h,Bool.and_eq_true,decide_eq_true_eq]
    omega
   have:=gA h
   rw[hc] at this
   have dq:(48:UInt8).toNat=48:=by decide
   omega
  rename_i h
  obtain⟨c,r,e,hc,h0⟩:=ih (u/10) (by omega)
  refine⟨c,r++[UInt8.ofNat (48+u%10)],by rw[e];rfl,hc,λhc=>?_⟩
  have:=h0 hc
  omega
theorem ji(u:Nat)(h:u<1000000000000):1<=(Lib.decDigits u).length/\(Lib.decDigits u).length<=12:=by
 rw[Lib.decDigits_length]
 refine⟨Lib.nDigits_pos u,?_⟩
 rcases Nat.lt_or_ge 12 (Lib.nDigits u) with hc|hc
 ·exfalso
  have key:∀ (k u:Nat),k<Lib.nDigits u->10 ^ k<=u\/k=0:=by
   intro k
   induction k with
   |zero=>intro u _;exact .inr rfl
   |succ k ih =>
    intro u hu
    by_cases h9:u<10
    ·rw[Lib.nDigits_small h9] at hu;omega
    rw[Lib.nDigits_big h9] at hu
    rcases ih (u/10) (by omega) with h1|h1
    ·left;rw[Nat.pow_succ];omega
    subst h1;left;omega
  rcases key 12 u hc with h1|h1
  ·omega
  cases h1
 exact hc
theorem gE(u:Nat)(h:u<1000000000000):ce (Lib.itoa (u:Int))=some (u:Int):=by
 have e:Lib.itoa (u:Int)=Lib.decDigits u:=by
  unfold Lib.itoa
  rw[if_neg (by omega)]
  rfl
 obtain⟨c,r,hd,hc,h0⟩:=yL u
 have bv:c≠45:=by
  intro he
  subst he
  exact absurd hc (by decide)
 have ds:c≠43:=by
  intro he
  subst he
  exact absurd hc (by decide)
 have hm:fh (Lib.decDigits u)=Lib.decDigits u:=by
  unfold fh
  rw[hd,if_neg (by simp[bv])]
 obtain⟨l1,l2⟩:=ji u h
 rw[e]
 unfold ce
 rw[hm,if_pos ⟨r9 u,l1,l2,λhh=>by
  rw[hd] at hh
  have:=h0 (by simpa using hh)
  subst this
  decide +kernel⟩]
 have cV:=AW u
 rw[hd] at cV ⊢
 show (if (c==45)=true then (Lib.decNat r).map (λ(m:Nat) => -(m:Int)) else if (c==43)=true then (Lib.decNat r).map (λ(m:Nat)=>(m:Int)) else (Lib.decNat (c :: r)).map (λ(m:Nat)=>(m:Int)))=_
 rw[if_neg (by simp[bv]),if_neg (by simp[ds])]
 unfold Lib.decNat
 rw[if_neg (by simp),cV]
 rfl
theorem nQ(u:Nat):Lib.itoa (u:Int)=Lib.decDigits u:=by
 unfold Lib.itoa
 rw[if_neg (by omega)]
 rfl
theorem nR(n:Int):∀ c∈Lib.itoa n,c≠32/\c≠10:=by
 have hd:∀ (u:Nat),∀ c∈Lib.decDigits u,c≠32/\c≠10:=by
  intro u c hc
  have:=List.all_eq_true.1 (r9 u) c hc
  constructor
  ·intro e;subst e;exact absurd this (by decide)
  intro e;subst e;exact absurd this (by decide)
 unfold Lib.itoa
 split
 ·intro c hc
  rcases List.mem_cons.1 hc with rfl|hc
  ·exact⟨by decide,by decide⟩
  exact hd _ c hc
 exact hd _
end
section
section
open Go.RowKit Go.Shelf
theorem Fi(l:List UInt8):Lib.trimPrefix l [45]=fh l:=by
 unfold Lib.trimPrefix Lib.hasPrefix fh
 cases l with
 |nil=>rfl
 |cons c r =>
  by_cases h:c=45
  ·subst h
   simp[List.isPrefixOf]
  have:¬ (45:UInt8)=c:=λe=>h e.symm
  simp[List.isPrefixOf,h,this]
theorem Gm(s p:ByteArray)(w:World):Calls Tryz.prog 215 #[.string s,.string p] w λe w'=>e=.returned (.string ⟨(Lib.trimPrefix s.data.toList p.data.toList).toArray⟩)/\w=w':=
 (Any.strings_TrimPrefix D8 s p w).mono λ_ _ h=>⟨h.1,h.2.symm⟩
theorem wO(s:ByteArray)(n:Int)(hl:s.size<=18)(h:Lib.atoi s.data.toList=some n)(w:World):Calls Tryz.prog 216 #[.string s] w λe w'=>e=.returned (.tuple #[.int .i64 n,.nilIface])/\Below w.heap.size w w':=
 (Any.strconv_Atoi { Cn with } s n hl h w).mono λ_ _ ⟨a,t,b⟩=>⟨a,by subst b;exact⟨rfl,rfl,rfl,by rw[Lib.bytesWorld_size];omega,λj hj=>Lib.bytesWorld_at_old w _ _ j hj⟩⟩
theorem uD{l:List UInt8}(h:(fh l).all gh=true)(h1:1<=(fh l).length):∃ v,Lib.atoi l=some v:=by
 have key:∀ (m:List UInt8) (acc:Nat),m.all gh=true->∃ v,Lib.decFrom acc m=some v:=by
  intro m
  induction m with
  |nil=>intro acc _;exact⟨acc,rfl⟩
  |cons c r ih =>
   intro acc h
   rw[List.all_cons,Bool.and_eq_true] at h
   obtain⟨k,hk⟩:∃ k,Lib.digitVal c=some k:=by
    unfold Lib.digitVal
    have:=h.1
    unfold gh at this
    simp only[Bool.and_eq_true,decide_eq_true_eq] at this
    rw[if_pos (by omega)]
    exact⟨_,rfl⟩
   obtain⟨v,hv⟩:=ih (acc*10+k) h.2
   refine⟨v,?_⟩
   show (match Lib.digitVal c with|some d=>Lib.decFrom (acc*10+d) r|none=>none)=some v
   rw[hk]
   exact hv
 have key2:∀ (m:List UInt8),m.all gh=true->1<=m.length->∃ v,Lib.decNat m=some v:=by
  intro m h1 h2
  unfold Lib.decNat
  cases m with
  |nil=>simp at h2
  |cons c r =>
   simp only[List.isEmpty_cons,Bool.false_eq_true,if_false]
   exact key _ _ h1
 cases l with
 |nil=>simp[fh] at h1
 |cons c r =>
  show ∃ v,(if (c==45)=true then (Lib.decNat r).map (λ(m:Nat) => -(m:Int)) else if (c==43)=true then (Lib.decNat r).map (λ(m:Nat)=>(m:Int)) else (Lib.decNat (c :: r)).map (λ(m:Nat)=>(m:Int)))=some v
  unfold fh at h h1
  by_cases e:c=45
  ·subst e
   simp only[List.head?_cons,List.tail_cons,if_true] at h h1
   obtain⟨v,hv⟩:=key2 r h h1
   rw[if_pos (by decide),hv]
   exact⟨_,rfl⟩
  rw[if_neg (by simp[e])] at h h1 ⊢
  by_cases e2:c=43
  ·subst e2
   rw[List.all_cons] at h
   exact absurd h (by simp[gh])
  rw[if_neg (by simp[e2])]
  obtain⟨v,hv⟩:=key2 (c :: r) h h1
  rw[hv]
  exact⟨_,rfl⟩
theorem BD(s:ByteArray)(w:World)(hs:s.size<=1000000):Calls Tryz.prog 132 #[.string s] w λe w'=>e=.returned (.tuple #[.int .i64 ((ce s.data.toList).getD 0),.bool (ce s.data.toList).isSome])/\Below w.heap.size w w':=by
 refine ae ?_
 intro R hR
 have HR:=zh (show ∀ o w',ce s.data.toList=o->Below w.heap.size w w'->R (.returned (.tuple #[.int .i64 (o.getD 0),.bool o.isSome])) w' from λo w' ho hb=>hR.out _ _ ⟨by rw[ho],hb⟩)
 clear hR
 obtain⟨M,hM⟩:∃ M:ByteArray,(⟨(fh s.data.toList).toArray⟩:ByteArray)=M:=⟨_,rfl⟩
 have cn:M.data.toList=fh s.data.toList:=by rw[← hM]
 have d2:M.size<=s.size:=by
  have h1:M.size=(fh s.data.toList).length:=by rw[← cn,Array.length_toList];rfl
  have h2:s.size=s.data.toList.length:=by rw[Array.length_toList];rfl
  rw[h1,h2]
  unfold fh
  split
  ·rw[List.length_tail];omega
  exact Nat.le_refl _
 have HT:=zh (Gm s ⟨#[45]⟩ w)
 rw[Fi,hM] at HT
 have cd:=zh cn
 clear hM cn
 go_enter Tryz.func132,Tryz.ntmps132
 go_wp2_with (go_at_call 215;(with_reducible refine HT.out.mono ?_);rintro e w' ⟨rfl,rfl⟩)
 go_loopw [5,12] (λs5 s12 wr=>∃ k:Nat,k<=M.size/\s12=.int .i64 (k:Int)/\(∃ x,s5=x)/\Hid ((fh s.data.toList).all gh=(M.data.toList.drop k).all gh)/\w=wr) (λ_ s12 _=>M.size-(intOf s12).toNat)
 case atStart=>exact⟨0,Nat.zero_le _,rfl,⟨_,rfl⟩,zh (by rw[List.drop_zero,cd.out]),rfl⟩
 obtain⟨k,hk,rfl,⟨x5,rfl⟩,Hn,rfl⟩:=hrel
 by_cases bS:k<M.size
 ·have hd:=pq bS
  have hb:(M[k].toNat:Int)<256:=by have:=M[k].toNat_lt;omega
  have HD:=zh hd
  have i3:(k:Int)<(M.size:Int):=by omega
  clear hd
  by_cases b1:48<=M[k].toNat/\M[k].toNat<=57
  ·have j3:¬ (M[k].toNat:Int)<48:=by omega
   have j4:¬ (57:Int)<(M[k].toNat:Int):=by omega
   have hn:=Hn.out
   rw[HD.out,List.all_cons,show gh M[k]=true by unfold gh;rw[decide_eq_true b1.1,decide_eq_true b1.2];rfl,Bool.true_and] at hn
   have dk:=zh hn
   clear hn Hn
   go_wp2_with fail
   exact⟨⟨k+1,bS,by go_num,⟨_,rfl⟩,dk,by trivial⟩,by simp[intOf]<;>omega⟩
  have hn:=Hn.out
  rw[HD.out,List.all_cons,show gh M[k]=false by
   unfold gh
   rcases Nat.lt_or_ge M[k].toNat 48 with h|h
   ·rw[decide_eq_false (show ¬ 48<=M[k].toNat by omega)];rfl
   rw[decide_eq_false (show ¬ M[k].toNat<=57 by omega),Bool.and_false],Bool.false_and] at hn
  have hf:=HR.out none w (by unfold ce;rw[if_neg (λh=>by rw[hn] at h;exact absurd h.1 (by decide))]) (Below.refl _ _)
  have HF:=zh hf
  clear hn Hn HR hf
  rcases Nat.lt_or_ge M[k].toNat 48 with h|h
  ·have j3:(M[k].toNat:Int)<48:=by omega
   go_wp2
   all_goals exact HF.out
  have j3:¬ (M[k].toNat:Int)<48:=by omega
  have j4:(57:Int)<(M[k].toNat:Int):=by omega
  go_wp2
  all_goals exact HF.out
 have cp:k=M.size:=by omega
 subst cp
 have i3:¬ (M.size:Int)<(M.size:Int):=by omega
 have cO:(fh s.data.toList).all gh=true:=by rw[Hn.out,xd];rfl
 have bj:(fh s.data.toList).length=M.size:=by rw[← cd.out,Array.length_toList];rfl
 have b8:=zh cO
 have bm:=zh bj
 clear Hn cO bj
 by_cases l1:M.size<1
 ·have hf:=HR.out none w (by unfold ce;rw[if_neg (λh=>by have:=h.2.1;have:=bm.out;omega)]) (Below.refl _ _)
  have HF:=zh hf
  have i4:(M.size:Int)<1:=by omega
  clear HR hf
  go_wp2
  all_goals exact HF.out
 by_cases l2:12<M.size
 ·have hf:=HR.out none w (by unfold ce;rw[if_neg (λh=>by have:=h.2.2.1;have:=bm.out;omega)]) (Below.refl _ _)
  have HF:=zh hf
  have i4:¬ (M.size:Int)<1:=by omega
  have i5:(12:Int)<(M.size:Int):=by omega
  clear HR hf
  go_wp2
  all_goals exact HF.out
 have i4:¬ (M.size:Int)<1:=by omega
 have i5:¬ (12:Int)<(M.size:Int):=by omega
 have i6:(0:Int)<(M.size:Int):=by omega
 have h0:(M[0]'(by omega)).toNat<256:=(M[0]'(by omega)).toNat_lt
 have c5:(fh s.data.toList).head?=some (M[0]'(by omega)):=by
  rw[← cd.out,← List.drop_zero (l:=M.data.toList),pq (show 0<M.size by omega)]
  rfl
 have cl:=zh c5
 obtain⟨b0,cS⟩:∃ b0,(M[0]'(by omega))=b0:=⟨_,rfl⟩
 rw[cS] at cl h0
 clear c5
 by_cases z1:b0=48
 ·subst z1
  have ca:s.toList=s.data.toList:=Lib.toList_data s
  by_cases z2:s.data.toList=[48]
  ·have q1:(s.toList==[48])=true:=by rw[ca,z2];rfl
   obtain⟨v,hv⟩:=uD b8.out (by rw[bm.out];omega)
   have hf:=λw'=>HR.out (some v) w' (by unfold ce;rw[if_pos ⟨b8.out,by rw[bm.out];omega,by rw[bm.out];omega,λ_=>z2⟩];exact hv)
   have HF:=zh hf
   have cC:s.size<=18:=by
    have:s.size=s.data.toList.length:=by rw[Array.length_toList];rfl
    rw[this,z2]
    decide
   have HA:=zh (λw=>wO s v cC hv w)
   clear HR hf ca
   go_wp2_with (go_at_call 216;(with_reducible refine (HA.out _).mono ?_);rintro e w2 ⟨rfl,ad⟩)
   exact HF.out _ ad
  have q1:(s.toList==[48])=false:=by rw[ca,beq_eq_false_iff_ne];exact z2
  have hf:=HR.out none w (by unfold ce;rw[if_neg (λh=>z2 (h.2.2.2 cl.out))]) (Below.refl _ _)
  have HF:=zh hf
  clear HR hf ca
  go_wp2
  exact HF.out
 have z2:((b0.toNat:Int)==48)=false:=by
  rw[beq_eq_false_iff_ne]
  intro e
  exact z1 (UInt8.toNat_inj.1 (by have dq : (48 : UInt8).toNat = 48 := by decide
                                  omega))
 obtain⟨v,hv⟩:=uD b8.out (by rw[bm.out];omega)
 have hf:=λw'=>HR.out (some v) w' (by
  unfold ce
  rw[if_pos ⟨b8.out,by rw[bm.out];omega,by rw[bm.out];omega,λh=>by
   rw[cl.out] at h
   exact absurd (Option.some.inj h) z1⟩]
  exact hv)
 have HF:=zh hf
 have cC:s.size<=18:=by
  have h1:s.size=s.data.toList.length:=by rw[Array.length_toList];rfl
  have h2:=bm.out
  unfold fh at h2
  rw[h1]
  split at h2
  ·rw[List.length_tail] at h2;omega
  omega
 have HA:=zh (λw=>wO s v cC hv w)
 clear HR hf
 go_wp2_with (go_at_call 216;(with_reducible refine (HA.out _).mono ?_);rintro e w2 ⟨rfl,ad⟩)
 exact HF.out _ ad
end
end
section
section
open Go.RowKit Go.Shelf
structure Gl(b:Nat)(w:World):Prop where
 tab : Lib.TabBelow Tryz.prog b w "internal/strconv.uint64pow10" .u64 Lib.pow10Tab
 sp : Lib.TabBelow Tryz.prog b w "strings.asciiSpace" .u8 Lib.asciiSpaceTab
 mx:∃ m,w.cell? ⟨0,0,none⟩=some (.int .i64 m)
 lt:0<b
theorem Gl.on{b:Nat}{w w':World}(h:Gl b w)(hb:Below b w w'):Gl b w':=
 ⟨Lib.TabBelow.on h.tab hb,Lib.TabBelow.on h.sp hb,let ⟨m,hm⟩:=h.mx;⟨m,(hb.cell h.lt).trans hm⟩,h.lt⟩
theorem Gl.kx{b:Nat}{S:Nat->Prop}{w w':World}(h:Gl b w)(k:Kx S w w')(hs:∀ j,S j->b<=j)(hb:b<=w.heap.size):Gl b w':=h.on (Kx.low (Below.refl b w) k hs hb)
theorem qw{w:World}(k:Nat)(os:Array Obj):Below w.heap.size w (Sort.grow (w.drewN k) os):=
 ⟨rfl,rfl,rfl,by simp[Sort.grow,World.drewN],λj hj=>by
  show ((w.drewN k).heap++os)[j]?=w.heap[j]?
  rw[Array.getElem?_append_left (by exact hj)]
  rfl⟩
theorem E7(n:Int)(w:World)(h0 : -9223372036854775808<=n)(h1:n<=9223372036854775807)(b:Nat)(ht:Gl b w) :
 Calls Tryz.prog 35 #[.int .i64 n] w λe w'=>e=.returned (.string ⟨(Lib.itoa n).toArray⟩)/\Below w.heap.size w w':=
 (Any.strconv_Itoa CX n h0 h1 w ht.tab.here).mono λ_ _ ⟨a,k,os,b⟩=>⟨a,by subst b;exact qw k os⟩
theorem Ic(n:Int)(w:World)(h0 : -9223372036854775808<=n)(h1:n<=9223372036854775807)(b:Nat)(ht:Gl b w) :
 Calls Tryz.prog 241 #[.int .i64 n,.int .i64 10] w λe w'=>e=.returned (.string ⟨(Lib.itoa n).toArray⟩)/\Below w.heap.size w w':=
 (Any.strconv_FormatInt_10 EU n h0 h1 w ht.tab.here).mono λ_ _ ⟨a,k,os,b⟩=>⟨a,by subst b;exact qw k os⟩
theorem dp{w:World}(k:Nat):Below w.heap.size w (w.drewN k):=⟨rfl,rfl,rfl,Nat.le_refl _,λ_ _=>rfl⟩
theorem GO(s p:ByteArray)(w:World)(b:Nat)(ht:Gl b w)(hs:s.size<4294967281) :
 Calls Tryz.prog 15 #[.string s,.string p] w λe w'=>e=.returned (.tuple #[.string ⟨(Lib.cut s.data.toList p.data.toList).1.toArray⟩,.string ⟨(Lib.cut s.data.toList p.data.toList).2.1.toArray⟩,.bool (Lib.cut s.data.toList p.data.toList).2.2])/\Below w.heap.size w w':=by
 obtain⟨m,hm⟩:=ht.mx
 exact (Any.strings_Cut EB s p m w hs hm).mono λ_ _ ⟨a,k,b⟩=>⟨a,by subst b;exact dp k⟩
theorem ED(s p:ByteArray)(w:World) :
 Calls Tryz.prog 37 #[.string s,.string p] w λe w'=>e=.returned (.tuple #[.string ⟨(Lib.trimPrefix s.data.toList p.data.toList).toArray⟩,.bool (Lib.hasPrefix s.data.toList p.data.toList)])/\w=w':=
 (Any.strings_CutPrefix CB s p w).mono λ_ _ h=>⟨h.1,h.2.symm⟩
theorem qd:(Tryz.prog.info? 9).map (λi=>(i.zero,i.size,i.bytes))=some (some (.string ByteArray.empty),1,16):=by kernel_rfl
def bW(s:ByteArray):List Value:=[.string s]
theorem yu(s:ByteArray):(bW s).length=1:=rfl
theorem iX(w:World)(L:List ByteArray):ag bW 1 (w.alloc (.cells (L.map Value.string).toArray 9)) (some ⟨w.heap.size,0,none⟩) L.length L:=by
 refine⟨rfl,?_⟩
 have e:L.flatMap bW=L.map Value.string:=by
  induction L with
  |nil=>rfl
  |cons a r ih=>rw[List.flatMap_cons,List.map_cons,ih];rfl
 have h:=Sl.new w (L.map Value.string).toArray 9 1 L.length (by simp)
 rw[e]
 simpa using h
theorem qi(L:List ByteArray):∀ u∈L.flatMap bW,u.oneCell'=true:=by
 intro u hu
 obtain⟨x,_,hx⟩:=List.mem_flatMap.1 hu
 simp only[bW,List.mem_cons,List.not_mem_nil,or_false] at hx
 rw[hx]
 rfl
theorem vL{X:List ByteArray}{l:List (List UInt8)}(h:X.map (·.data.toList)=l):X=l.map λx=>⟨x.toArray⟩:=by
 subst h
 rw[List.map_map]
 have:((λx:List UInt8=>(⟨x.toArray⟩:ByteArray)) ∘ λx:ByteArray=>x.data.toList)=id:=by
  funext x
  rfl
 rw[this,List.map_id]
def aP(l:List (List UInt8)):List ByteArray:=l.map λx=>⟨x.toArray⟩
theorem vK(s p:ByteArray)(w:World)(b:Nat)(ht:Gl b w)(hs:s.size<4294967281)(hp:1<=p.size) :
 Calls Tryz.prog 39 #[.string s,.string p] w λe w'=>∃ n c,e=.returned (.slice (some ⟨w.heap.size,0,none⟩) n c)/\ag bW 1 w' (some ⟨w.heap.size,0,none⟩) n (aP (Lib.split s.data.toList p.data.toList))/\n<=s.size+1/\Below w.heap.size w w':=by
 obtain⟨m,hm⟩:=ht.mx
 refine (Any.strings_Split tj qd s p m w hs hm hp).mono ?_
 rintro e w' ⟨rfl,rfl⟩
 have e:Lib.splitB p 0 (Lib.countB s p) s=aP (Lib.split s.data.toList p.data.toList):=by
  refine vL ?_
  rw[Lib.splitB_data]
  rfl
 have hl:=Lib.splitB_all p hp 0 _ s rfl
 have d3:=Lib.countB_le p hp s.size s (Nat.le_refl _)
 rw[e] at hl ⊢
 refine⟨_,_,rfl,?_,by omega,ab w _⟩
 rw[← hl]
 exact iX w _
theorem Ba(s:ByteArray)(w:World)(b:Nat)(ht:Gl b w)(hs:s.size<4294967281)(ha:∀ (j:Nat) b,s.data.toList[j]?=some b->b.toNat<128) :
 Calls Tryz.prog 133 #[.string s] w λe w'=>∃ n c,e=.returned (.slice (some ⟨w.heap.size,0,none⟩) n c)/\ag bW 1 w' (some ⟨w.heap.size,0,none⟩) n (aP (Lib.fields s.data.toList))/\w.heap.size<w'.heap.size/\Below w.heap.size w w':=by
 refine (Any.strings_Fields yM qd (by kernel_rfl) s w hs ha ht.sp.here).mono ?_
 rintro e w' ⟨rfl,rfl⟩
 refine⟨_,_,rfl,?_,by simp,ab w _⟩
 have h:=iX w (aP (Lib.fields s.data.toList))
 unfold aP at h ⊢
 rw[List.length_map,List.map_map] at h
 exact h
theorem sF:Builder.Extra Tryz.prog xB where
 sizeBuilder:=by kernel_rfl
 liesBuilder:=by kernel_rfl
 t5:=by kernel_rfl
 a5:=λ_=>by kernel_rfl
 z5:=λ_=>by kernel_rfl
 v5:=λ_=>by kernel_rfl
 infoByte:=by kernel_rfl
 cellsByte:=by kernel_rfl
 sizeByte:=by kernel_rfl
 neB5:=by decide
theorem di{w:World}{A:Option Addr}{n k:Nat}{L:List ByteArray}(h:ag bW 1 w A n L)(hk:k<n):∃ b o x,A=some ⟨b,o,none⟩/\b<w.heap.size/\L[k]?=some x/\w.cell? ⟨b,o+k,none⟩=some (.string x):=by
 obtain⟨b,o,x,hA,hb,hx,hc⟩:=h.at_ yu hk
 exact⟨b,o,x,hA,hb,hx,by simpa using hc 0 _ rfl⟩
theorem tP(A:Option Addr)(n c:Nat)(L:List ByteArray)(x:ByteArray)(w:World)(h:ag bW 1 w A n L)(hn:n<=10000000) :
 Calls Tryz.prog 40 #[.slice A n c,.string x] w λe w'=>e=.returned (.bool (Lib.containsS L x))/\w=w':=by
 by_cases h0:n=0
 ·have hL:L=[]:=List.eq_nil_of_length_eq_zero (by rw[← h.1];exact h0)
  subst hL
  subst h0
  refine (Any.slices_Contains_string_empty zV A c x w).mono ?_
  rintro e w' ⟨rfl,rfl⟩
  exact⟨rfl,rfl⟩
 obtain⟨b,o,y,rfl,hb,hy,hc⟩:=di h (k:=0) (by omega)
 refine (Any.slices_Contains_string zV b o n c L x w (by rw[h.1];exact Nat.le_refl _) (by omega) (λj hj=>?_)).mono ?_
 ·obtain⟨b',o',y',e',_,cc,bv⟩:=di h (k:=j) (by rw[h.1];exact hj)
  cases e'
  rw[bv]
  simp[cc,List.getD]
 rintro e w' ⟨rfl,rfl⟩
 rw[List.take_of_length_le (by rw[h.1];exact Nat.le_refl _)]
 exact⟨rfl,rfl⟩
theorem Fa(A:Option Addr)(n c:Nat)(L:List ByteArray)(p:ByteArray)(w:World)(h:ag bW 1 w A n L)(hn:n<=10000000)(hc:n<=c)(hl:(Lib.join (L.map (·.data.toList)) p.data.toList).length<=140737488355328) :
 Calls Tryz.prog 286 #[.slice A n c,.string p] w λe w'=>e=.returned (.string ⟨(Lib.join (L.map (·.data.toList)) p.data.toList).toArray⟩)/\Below w.heap.size w w':=by
 by_cases h0:n=0
 ·have hL:L=[]:=List.eq_nil_of_length_eq_zero (by rw[← h.1];exact h0)
  subst hL
  subst h0
  refine (Any.strings_Join_none u9 sF A c p w).mono ?_
  rintro e w' ⟨rfl,rfl⟩
  exact⟨rfl,Below.refl _ _⟩
 obtain⟨b,o,y,rfl,hb,hy,bc⟩:=di h (k:=0) (by omega)
 have dx:=h.1
 subst dx
 exact Any.strings_Join u9 sF b o c L p w (λj x hx=>by
  obtain⟨b',o',y',e',_,cc,bv⟩:=di h (k:=j) (List.getElem?_eq_some_iff.1 hx).1
  cases e'
  rw[hx] at cc
  cases cc
  exact bv) hb (by omega) hc hl
end
end
section
section
open Go.RowKit Go.Shelf
def ao(wd:List UInt8)(l:List Int):List UInt8:=wd++l.flatMap λx=>32 :: Lib.itoa x
theorem bN(a b:ByteArray):(a++b).data.toList=a.data.toList++b.data.toList:=by
 simp[ByteArray.data_append]
theorem li{s:ByteArray}{l:List UInt8}(h:s.data.toList=l):s=⟨l.toArray⟩:=by
 subst h
 rfl
theorem pQ{wd:List UInt8}{l:List Int}{k:Nat}{x:Int}(h:l[k]?=some x):ao wd (l.take (k+1))=ao wd (l.take k)++(32 :: Lib.itoa x):=by
 unfold ao
 rw[List.take_add_one,h,List.flatMap_append,← List.append_assoc]
 simp
theorem aO(s:ByteArray):s.size=s.data.toList.length:=by
 rw[Array.length_toList]
 rfl
theorem rx(s:ByteArray)(x:Int):(s++(⟨#[32]⟩++(⟨(Lib.itoa x).toArray⟩:ByteArray))).size=s.size+(1+(Lib.itoa x).length):=by
 rw[aO,bN,bN,List.length_append,List.length_append,aO s]
 rfl
theorem ee(wd:ByteArray)(A:Option Addr)(n c:Nat)(l:List Int)(w:World)(h:ag ak 1 w A n l)(hn:n<=1000)(hw:wd.size<=1000000)(hl:∀ x∈l,bF x)(b:Nat)(hg:Gl b w)(hb:b<=w.heap.size) :
 Calls Tryz.prog 178 #[.string wd,.slice A n c] w λe w'=>e=.returned (.string ⟨(ao wd.data.toList l).toArray⟩)/\Below w.heap.size w w':=by
 refine ae ?_
 intro R hR
 have HX:=zh h
 have HL:=zh hl
 have HG:=zh hg
 have Hr:=zh (λ(s:ByteArray) w' (hs:s.data.toList=ao wd.data.toList l) hb=>hR.out (.returned (.string s)) w' ⟨by rw[li hs],hb⟩)
 have Hn:=zh h.1
 clear hR h hl hg
 go_enter Tryz.func178,Tryz.ntmps178
 go_wp2_with fail
 go_loopw [0,9] (λs0 s9 wr=>∃ (k:Nat) (s:ByteArray),k<=n/\s9=.int .i64 (k:Int)/\s0=.string s/\s.size<=wd.size+22*k/\Hid (s.data.toList=ao wd.data.toList (l.take k))/\Hid (Below w.heap.size w wr)) (λ_ s9 _=>n-(intOf s9).toNat)
 case atStart=>exact⟨0,wd,Nat.zero_le _,rfl,rfl,by omega,zh (by simp[ao]),zh (Below.refl _ _)⟩
 obtain⟨k,s,hk,rfl,rfl,cI,Hs,Hb⟩:=hrel
 by_cases bS:k<n
 ·obtain⟨b0,o,x,rfl,cS,hx,q0⟩:=(HX.out.below Hb.out).at1 bS
  obtain⟨x1,x2⟩:=HL.out x (List.mem_of_getElem? hx)
  have i1:(k:Int)<(n:Int):=by omega
  have Hx:=zh hx
  have dt:=Lib.itoa_length_le x x1 x2
  have z1:¬ 9223372036854775807<1+(Lib.itoa x).length:=by omega
  have z2:¬ 9223372036854775807<s.size+(1+(Lib.itoa x).length):=by omega
  have HF:=zh (Ic x wr x1 x2 b (HG.out.on (Hb.out.mono hb)))
  clear hx
  go_wp2_with (go_at_call 241;(with_reducible refine HF.out.mono ?_);rintro e w2 ⟨rfl,ad⟩;have bk:=zh ad;clear ad)
  refine⟨⟨k+1,_,bS,by go_num,rfl,by rw[rx];omega,zh ?_,zh (Hb.out.trans (bk.out.mono Hb.out.size))⟩,by simp[intOf]<;>omega⟩
  rw[pQ Hx.out,← Hs.out,bN,bN]
  rfl
 have cp:k=n:=by omega
 subst cp
 have i1:¬ (k:Int)<(k:Int):=by omega
 have hf:=Hr.out s wr (by rw[Hs.out,List.take_of_length_le (by rw[← Hn.out];exact Nat.le_refl _)]) Hb.out
 have HF:=zh hf
 clear Hr hf Hs Hb
 go_wp2
 exact HF.out
def fp(e:Int):List UInt8:=33 :: 32 :: (Lib.itoa e++[10])
theorem DC(e:Int)(w:World)(he:bF e)(b:Nat)(hg:Gl b w):Calls Tryz.prog 14 #[.int .i64 e] w λen w'=>en=.returned (.string ⟨(fp e).toArray⟩)/\Below w.heap.size w w':=by
 refine ae ?_
 intro R hR
 have HI:=zh (E7 e w he.1 he.2 b hg)
 have dt:=Lib.itoa_length_le e he.1 he.2
 have z1:¬ 9223372036854775807<2+(Lib.itoa e).length:=by omega
 have z2:¬ 9223372036854775807<2+(Lib.itoa e).length+1:=by omega
 clear hg
 go_enter Tryz.func14,Tryz.ntmps14
 go_wp2_with (go_at_call 35;(with_reducible refine HI.out.mono ?_);rintro en w2 ⟨rfl,ad⟩;have bk:=zh ad;clear ad)
 refine hR.out _ _ ⟨?_,bk.out⟩
 congr 2
def aS(L:List (List UInt8)):List UInt8:=L.flatMap λl=>l++[10]
theorem sG:∀ (L:List (List UInt8)),L≠[]->Lib.join L [10]++[10]=aS L
 |[],h=>absurd rfl h
 |[a],_=>by simp[Lib.join,aS]
 |a :: b :: r,_=>by
  have ih:=sG (b :: r) (by simp)
  unfold aS at ih ⊢
  rw[List.flatMap_cons,← ih]
  simp[Lib.join]
theorem C4(A:Option Addr)(n c:Nat)(L:List ByteArray)(w:World)(h:ag bW 1 w A n L)(hn:n<=1000000)(hc:n<=c)(hl:(aS (L.map (·.data.toList))).length<=140737488355328) :
 Calls Tryz.prog 458 #[.slice A n c] w λen w'=>en=.returned (.string ⟨(aS (L.map (·.data.toList))).toArray⟩)/\Below w.heap.size w w':=by
 refine ae ?_
 intro R hR
 by_cases h0:n=0
 ·have hL:L=[]:=List.eq_nil_of_length_eq_zero (by rw[← h.1];exact h0)
  subst hL
  subst h0
  have HF:=zh (hR.out (.returned (.string ⟨#[]⟩)) w ⟨rfl,Below.refl _ _⟩)
  clear hR h
  go_enter Tryz.func458,Tryz.ntmps458
  go_wp2
  exact HF.out
 have c9:L.map (·.data.toList)≠[]:=by
  intro e
  have:L=[]:=List.map_eq_nil_iff.1 e
  rw[this] at h
  exact h0 h.1
 have hj:=sG _ c9
 have HJ:=zh (Fa A n c L ⟨#[10]⟩ w h (by omega) hc (by
  have:=congrArg List.length hj
  rw[List.length_append,List.length_singleton] at this
  show (Lib.join (L.map (·.data.toList)) [10]).length<=_
  omega))
 have Hj:=zh hj
 have z1:¬ 9223372036854775807<(Lib.join (L.map (·.data.toList)) [10]).length+1:=by
  have:=congrArg List.length hj
  rw[List.length_append,List.length_singleton] at this
  omega
 have i1:((n:Int)==0)=false:=by rw[beq_eq_false_iff_ne];omega
 clear h hj c9
 go_enter Tryz.func458,Tryz.ntmps458
 go_wp2_with (go_at_call 286;(with_reducible refine HJ.out.mono ?_);rintro en w2 ⟨rfl,ad⟩;have bk:=zh ad;clear ad)
 exact hR.out _ _ ⟨congrArg (λs=>Ending.returned (.string s)) (li (by rw[bN,← Hj.out])),bk.out⟩
theorem nK(e:Int)(A:Option Addr)(n c:Nat)(w:World):Calls Tryz.prog 177 #[.int .i64 e,.slice A n c] w λen w'=>en=.returned (if e≠0 then .iface 64 (.int .i64 e) else .iface 292 (.slice A n c))/\w=w':=by
 refine ae ?_
 intro R hR
 by_cases h0:e=0
 ·subst h0
  have HF:=zh (hR.out (.returned (.iface 292 (.slice A n c))) w ⟨rfl,rfl⟩)
  clear hR
  go_enter Tryz.func177,Tryz.ntmps177
  go_wp2
  exact HF.out
 have HF:=zh (hR.out (.returned (.iface 64 (.int .i64 e))) w ⟨by rw[if_pos h0],rfl⟩)
 have i1:(e != 0)=true:=by rw[bne_iff_ne];exact h0
 clear hR h0
 go_enter Tryz.func177,Tryz.ntmps177
 go_wp2
 exact HF.out
end
end
section
section
open Go.RowKit Go.Shelf
structure Ta where
 rest:List (List UInt8)
 ws:List (List UInt8)
 ns:List Int
def GA(kind w:List UInt8):Bool:=decide (kind=[119])||(Lib.split kind [124]).contains w
def ba(kind:List UInt8)(s:Ta):Ta×Bool:=
 match s.rest with
 |[]=>(s,false)
 |w :: r=>if kind=[110] then (⟨r,s.ws,s.ns++[(ce w).getD 0]⟩,(ce w).isSome) else (⟨r,s.ws++[w],s.ns⟩,GA kind w)
structure eE(W:World)(Pr:Nat->Prop)(pw pa:Nat)(s:Ta):Prop where
 npw:¬ Pr pw
 npa:¬ Pr pa
 ne:pw≠pa
 lt:∀ j,Pr j->j<W.heap.size
 left:∃ A c,W.heap[pw]?=some (.cells #[.slice A s.rest.length c] 118 (0,0))/\ag bW 1 W A s.rest.length (aP s.rest)/\s.rest.length<=c/\∀ a,0<s.rest.length->A=some a->Pr a.block/\a.block<pw
 got:∃ A1 c1 A2 c2,W.heap[pa]?=some (.cells #[.slice A1 s.ws.length c1,.slice A2 s.ns.length c2] 127 (0,0))/\
  W.ownsRow 0 9 1 (.slice A1 s.ws.length c1) s.ws.length ((aP s.ws).flatMap bW)/\(∀ g,(Value.slice A1 s.ws.length c1).ownBlock=some g->¬ Pr g)/\
  W.ownsRow 0 3 1 (.slice A2 s.ns.length c2) s.ns.length (s.ns.flatMap ak)/\(∀ g,(Value.slice A2 s.ns.length c2).ownBlock=some g->¬ Pr g)
section
variable{W w:World}{Pr Qr:Nat->Prop}{pw pa:Nat}{s:Ta}
theorem ag.low{α:Type}{enc:α->List Value}{sz:Nat}{w w':World}{A:Option Addr}{n:Nat}{l:List α}(h:ag enc sz w A n l)(hk:∀ a,0<n->A=some a->w'.heap[a.block]?=w.heap[a.block]?)(hs:w.heap.size<=w'.heap.size):ag enc sz w' A n l:=
 ⟨h.1,h.2.1,λhn=>by
  obtain⟨b,o,e,hb,hc⟩:=h.2.2 hn
  exact⟨b,o,e,by omega,λj u hu=>(World.cell?_of_block (w:=w) (show w'.heap[b]?=w.heap[b]? from hk _ hn e)).trans (hc j u hu)⟩⟩
theorem eE.below(h:eE W Pr pw pa s)(k:Below W.heap.size W w):eE w Pr pw pa s:=by
 obtain⟨A,c,q1,q2,q3,q4⟩:=h.left
 obtain⟨A1,c1,A2,c2,r1,r2,r3,r4,r5⟩:=h.got
 exact⟨h.npw,h.npa,h.ne,λj hj=>Nat.lt_of_lt_of_le (h.lt j hj) k.size,⟨A,c,(k.block _ (Array.getElem?_eq_some_iff.1 q1).1).trans q1,q2.below k,q3,q4⟩,
  A1,c1,A2,c2,(k.block _ (Array.getElem?_eq_some_iff.1 r1).1).trans r1,aH r2 (λg hg=>by obtain⟨C,hC⟩:=a8 r2 hg;exact k.block g (Array.getElem?_eq_some_iff.1 hC).1),r3,aH r4 (λg hg=>by obtain⟨C,hC⟩:=a8 r4 hg;exact k.block g (Array.getElem?_eq_some_iff.1 hC).1),r5⟩
end
theorem vM{W:World}{b o n:Nat}{x:ByteArray}{L:List ByteArray}(h:ag bW 1 W (some ⟨b,o,none⟩) (n+1) (x :: L)):ag bW 1 W (some ⟨b,o+1,none⟩) n L:=by
 refine⟨by have:=h.1;simp at this;exact this,by rw[bU yu];have:=h.1;simp at this;rw[this],λhn=>?_⟩
 obtain⟨b',o',e',hb,hc⟩:=h.2.2 (by omega)
 cases e'
 refine⟨b,o+1,rfl,hb,λj u hu=>?_⟩
 have:=hc (j+1) u (by simpa[bW] using hu)
 rw[show o+1+j=o+(j+1) by omega]
 exact this
theorem DX(kind:ByteArray)(W:World)(Pr:Nat->Prop)(pw pa:Nat)(s:Ta)(h:eE W Pr pw pa s)(h0:s.rest=[]) :
 Calls Tryz.prog 131 #[.string kind,.pointer (some ⟨pw,0,none⟩),.pointer (some ⟨pa,0,none⟩)] W λe w'=>e=.returned (.bool false)/\W=w':=by
 refine ae ?_
 intro R hR
 have HF:=zh (hR.out (.returned (.bool false)) W ⟨rfl,rfl⟩)
 obtain⟨A,c,q1,-⟩:=h.left
 rw[h0,List.length_nil] at q1
 have q0:W.cell? ⟨pw,0,none⟩=some (.slice A 0 c):=by rw[cell_of_row _ _ 0 _ _ (0,0) q1];rfl
 clear hR h q1 h0
 go_enter Tryz.func131,Tryz.ntmps131
 go_wp2
 exact HF.out
theorem E2:(Tryz.prog.info? 3).map (λi=>(i.zero,i.size,i.bytes))=some (some (.int .i64 0),1,8):=by kernel_rfl
theorem xh:au Tryz.prog 27 3 1 8:=au.of (z:=.int .i64 0) Tryz.underlying27 E2 rfl (by omega)
theorem nL:au Tryz.prog 118 9 1 16:=au.of (z:=.string ByteArray.empty) Tryz.underlying118 qd rfl (by omega)
theorem eE.pop{W:World}{Pr:Nat->Prop}{pw pa b o c:Nat}{s:Ta}{x:List UInt8}{r:List (List UInt8)}{A':Option Addr}(h:eE W Pr pw pa s)(hr:s.rest=x :: r)(q1:W.heap[pw]?=some (.cells #[.slice (some ⟨b,o,none⟩) s.rest.length c] 118 (0,0)))
 (q2:ag bW 1 W (some ⟨b,o,none⟩) s.rest.length (aP s.rest)) (q3:s.rest.length<=c) (q4:Pr b/\b<pw) (hA:r=[]\/A'=some ⟨b,o+1,none⟩) :
 eE (W.setCell ⟨pw,0,none⟩ (.slice A' r.length (c-1))) Pr pw pa ⟨r,s.ws,s.ns⟩:=by
 have cI:(W.setCell ⟨pw,0,none⟩ (.slice A' r.length (c-1))).heap.size=W.heap.size:=by simp[World.setCell]
 have b9:b≠pw:=λe=>h.npw (e ▸ q4.1)
 obtain⟨A1,c1,A2,c2,r1,r2,r3,r4,r5⟩:=h.got
 rw[hr] at q2 q3
 have q2':ag bW 1 W (some ⟨b,o,none⟩) (r.length+1) (⟨x.toArray⟩ :: aP r):=q2
 refine⟨h.npw,h.npa,h.ne,λj hj=>by rw[cI];exact h.lt j hj,⟨A',c-1,?_,?_,by simp at q3;dsimp only;omega,λa hn ha=>?_⟩,A1,c1,A2,c2,(al (λe=>h.ne e.symm)).trans r1,gF r2 q1 (by decide),r3,gF r4 q1 (by decide),r5⟩
 ·rw[aA q1]
  rfl
 ·rcases hA with rfl|rfl
  ·exact ag.nil _ _
  exact (vM q2').low (λa _ ha=>by cases ha;exact al b9) (by rw[cI];exact Nat.le_refl _)
 rcases hA with rfl|rfl
 ·exact absurd hn (by simp)
 cases ha
 exact q4
theorem eE.pushN{W w3:World}{Pr:Nat->Prop}{pw pa c1 c2 c3:Nat}{A1 A2 A3:Option Addr}{s:Ta}{v:Int}{o:Obj}(h:eE W Pr pw pa s)(r1:W.heap[pa]?=some (.cells #[.slice A1 s.ws.length c1,.slice A2 s.ns.length c2] 127 (0,0)))
 (r2:W.ownsRow 0 9 1 (.slice A1 s.ws.length c1) s.ws.length ((aP s.ws).flatMap bW)) (r3:∀ g,(Value.slice A1 s.ws.length c1).ownBlock=some g->¬ Pr g)
 (r4:W.ownsRow 0 3 1 (.slice A2 s.ns.length c2) s.ns.length (s.ns.flatMap ak)) (r5:∀ g,(Value.slice A2 s.ns.length c2).ownBlock=some g->¬ Pr g)
 (ho:w3.ownsRow 0 3 1 (.slice A3 (s.ns.length+1) c3) (s.ns.length+1) (s.ns.flatMap ak++ak v)) (hg:(W.alloc o).grownBy w3 (Value.slice A2 s.ns.length c2).ownBlock)
 (hp:(Value.slice A3 (s.ns.length+1) c3).ownBlock=(Value.slice A2 s.ns.length c2).ownBlock\/(Value.slice A3 (s.ns.length+1) c3).ownBlock=some (W.alloc o).heap.size) :
 eE (w3.setCell ⟨pa,1,none⟩ (.slice A3 (s.ns.length+1) c3)) Pr pw pa ⟨s.rest,s.ws,s.ns++[v]⟩/\Kx (λj=>¬ Pr j) W (w3.setCell ⟨pa,1,none⟩ (.slice A3 (s.ns.length+1) c3))/\w3.heap[pa]?=some (.cells #[.slice A1 s.ws.length c1,.slice A2 s.ns.length c2] 127 (0,0)):=by
 have hk:Kx (λj=>¬ Pr j) W w3:=((Kx.refl _ W).below (ab W o)).grown hg λj hj=>.inl (r5 j hj)
 have bf:=hk.trans (aI w3 pa 1 (.slice A3 (s.ns.length+1) c3)) (T:=λj=>j=pa) (λj _ e=>e ▸ h.npa)
 have bp:w3.heap[pa]?=some (.cells #[.slice A1 s.ws.length c1,.slice A2 s.ns.length c2] 127 (0,0)):=
  (hg.block pa (by have:=(Array.getElem?_eq_some_iff.1 r1).1;simp;omega) (λe=>cZ r1 r4 (by decide) pa e.symm rfl)).trans ((heap_alloc_old W o (Array.getElem?_eq_some_iff.1 r1).1).trans r1)
 have cA:∀ x,W.heap[pw]?=some (.cells x 118 (0,0))->w3.heap[pw]?=some (.cells x 118 (0,0)):=λx hx =>
  (hg.block pw (by have:=(Array.getElem?_eq_some_iff.1 hx).1;simp;omega) (λe=>cZ hx r4 (by decide) pw e.symm rfl)).trans ((heap_alloc_old W o (Array.getElem?_eq_some_iff.1 hx).1).trans hx)
 obtain⟨A,c,q1,q2,q3,q4⟩:=h.left
 have ct:=(r2.alloc o).kept hg (pI (r2.alloc o) (r4.alloc o) (by decide))
 have bj:(s.ns++[v]).length=s.ns.length+1:=by simp
 have cr:∀ g,(Value.slice A3 (s.ns.length+1) c3).ownBlock=some g->¬ Pr g:=λg bq=>by
  rcases hp with e|e
  ·exact r5 g (e ▸ bq)
  rw[e] at bq
  cases bq
  intro cx
  have:=h.lt _ cx
  simp at this
  omega
 refine⟨⟨h.npw,h.npa,h.ne,λj hj=>Nat.lt_of_lt_of_le (h.lt j hj) bf.size,⟨A,c,(al h.ne).trans (cA _ q1),q2.low (λa hn ha=>bf.block _ ?_ (λcq=>cq (q4 a hn ha).1)) bf.size,q3,q4⟩,?_⟩,bf,bp⟩
 ·obtain⟨b',o',e',hb,_⟩:=q2.2.2 hn
  rw[ha] at e'
  cases e'
  exact hb
 refine⟨A1,c1,A3,c3,?_,gF ct bp (by decide),r3,?_,?_⟩
 ·rw[aA bp,bj]
  rfl
 ·rw[bj,List.flatMap_append]
  have:=gF (a:=pa) (i:=1) (u:=.slice A3 (s.ns.length+1) c3) ho bp (by decide)
  simpa using this
 rw[bj]
 exact cr
theorem eE.pushW{W w3:World}{Pr:Nat->Prop}{pw pa c1 c2 c3:Nat}{A1 A2 A3:Option Addr}{s:Ta}{v:List UInt8}{o:Obj}(h:eE W Pr pw pa s)(r1:W.heap[pa]?=some (.cells #[.slice A1 s.ws.length c1,.slice A2 s.ns.length c2] 127 (0,0)))
 (r2:W.ownsRow 0 9 1 (.slice A1 s.ws.length c1) s.ws.length ((aP s.ws).flatMap bW)) (r3:∀ g,(Value.slice A1 s.ws.length c1).ownBlock=some g->¬ Pr g)
 (r4:W.ownsRow 0 3 1 (.slice A2 s.ns.length c2) s.ns.length (s.ns.flatMap ak)) (r5:∀ g,(Value.slice A2 s.ns.length c2).ownBlock=some g->¬ Pr g)
 (ho:w3.ownsRow 0 9 1 (.slice A3 (s.ws.length+1) c3) (s.ws.length+1) ((aP s.ws).flatMap bW++bW ⟨v.toArray⟩)) (hg:(W.alloc o).grownBy w3 (Value.slice A1 s.ws.length c1).ownBlock)
 (hp:(Value.slice A3 (s.ws.length+1) c3).ownBlock=(Value.slice A1 s.ws.length c1).ownBlock\/(Value.slice A3 (s.ws.length+1) c3).ownBlock=some (W.alloc o).heap.size) :
 eE (w3.setCell ⟨pa,0,none⟩ (.slice A3 (s.ws.length+1) c3)) Pr pw pa ⟨s.rest,s.ws++[v],s.ns⟩/\Kx (λj=>¬ Pr j) W (w3.setCell ⟨pa,0,none⟩ (.slice A3 (s.ws.length+1) c3))/\w3.heap[pa]?=some (.cells #[.slice A1 s.ws.length c1,.slice A2 s.ns.length c2] 127 (0,0)):=by
 have hk:Kx (λj=>¬ Pr j) W w3:=((Kx.refl _ W).below (ab W o)).grown hg λj hj=>.inl (r3 j hj)
 have bf:=hk.trans (aI w3 pa 0 (.slice A3 (s.ws.length+1) c3)) (T:=λj=>j=pa) (λj _ e=>e ▸ h.npa)
 have bp:w3.heap[pa]?=some (.cells #[.slice A1 s.ws.length c1,.slice A2 s.ns.length c2] 127 (0,0)):=
  (hg.block pa (by have:=(Array.getElem?_eq_some_iff.1 r1).1;simp;omega) (λe=>cZ r1 r2 (by decide) pa e.symm rfl)).trans ((heap_alloc_old W o (Array.getElem?_eq_some_iff.1 r1).1).trans r1)
 have cA:∀ x,W.heap[pw]?=some (.cells x 118 (0,0))->w3.heap[pw]?=some (.cells x 118 (0,0)):=λx hx =>
  (hg.block pw (by have:=(Array.getElem?_eq_some_iff.1 hx).1;simp;omega) (λe=>cZ hx r2 (by decide) pw e.symm rfl)).trans ((heap_alloc_old W o (Array.getElem?_eq_some_iff.1 hx).1).trans hx)
 obtain⟨A,c,q1,q2,q3,q4⟩:=h.left
 have ct:=(r4.alloc o).kept hg (pI (r4.alloc o) (r2.alloc o) (by decide))
 have bj:(s.ws++[v]).length=s.ws.length+1:=by simp
 have cr:∀ g,(Value.slice A3 (s.ws.length+1) c3).ownBlock=some g->¬ Pr g:=λg bq=>by
  rcases hp with e|e
  ·exact r3 g (e ▸ bq)
  rw[e] at bq
  cases bq
  intro cx
  have:=h.lt _ cx
  simp at this
  omega
 refine⟨⟨h.npw,h.npa,h.ne,λj hj=>Nat.lt_of_lt_of_le (h.lt j hj) bf.size,⟨A,c,(al h.ne).trans (cA _ q1),q2.low (λa hn ha=>bf.block _ ?_ (λcq=>cq (q4 a hn ha).1)) bf.size,q3,q4⟩,?_⟩,bf,bp⟩
 ·obtain⟨b',o',e',hb,_⟩:=q2.2.2 hn
  rw[ha] at e'
  cases e'
  exact hb
 refine⟨A3,c3,A2,c2,?_,?_,?_,gF ct bp (by decide),r5⟩
 ·rw[aA bp,bj]
  rfl
 ·have e:aP (s.ws++[v])=aP s.ws++[⟨v.toArray⟩]:=by unfold aP;rw[List.map_append];rfl
  rw[bj,e,List.flatMap_append]
  have:=gF (a:=pa) (i:=0) (u:=.slice A3 (s.ws.length+1) c3) ho bp (by decide)
  simpa using this
 rw[bj]
 exact cr
theorem Gh(kind:ByteArray)(W:World)(Pr:Nat->Prop)(pw pa:Nat)(s:Ta)(x:List UInt8)(r:List (List UInt8))(h:eE W Pr pw pa s)(hr:s.rest=x :: r)(hx:x.length<=1000000)(bI:s.rest.length<=1000000)(b5:s.ns.length<=1000000)(hk:kind.data.toList=[110]) :
 Calls Tryz.prog 131 #[.string kind,.pointer (some ⟨pw,0,none⟩),.pointer (some ⟨pa,0,none⟩)] W λe w'=>e=.returned (.bool (ce x).isSome)/\eE w' Pr pw pa ⟨r,s.ws,s.ns++[(ce x).getD 0]⟩/\Kx (λj=>¬ Pr j) W w':=by
 refine ae ?_
 intro R hR
 have HH:=zh h
 obtain⟨A,c,q1,q2,q3,q4⟩:=h.left
 rw[hr] at q1 q2 q3
 obtain⟨b,o,y,rfl,hb,hy,hc⟩:=di q2 (k:=0) (by simp)
 have b7:y=⟨x.toArray⟩:=by
  have:(aP (x :: r))[0]?=some ⟨x.toArray⟩:=rfl
  rw[this] at hy
  exact (Option.some.inj hy).symm
 subst b7
 rw[Nat.add_zero] at hc
 rw[List.length_cons] at q1 q2 q3
 have b9:b≠pw:=λe=>h.npw (e ▸ (q4 _ (by rw[hr];simp) rfl).1)
 have q0:W.cell? ⟨pw,0,none⟩=some (.slice (some ⟨b,o,none⟩) (r.length+1) c):=by rw[cell_of_row _ _ 0 _ _ (0,0) q1];rfl
 have qf:W.frozen? ⟨pw,0,none⟩=false:=by simp[World.frozen?,q1]
 obtain⟨A',aa⟩:∃ A':Option Addr,(if c=1 then some ⟨b,o,none⟩ else some ⟨b,o+1,none⟩)=A':=⟨_,rfl⟩
 have HP:=zh (h.pop (A':=A') hr (by rw[hr];exact q1) (by rw[hr];exact q2) (by rw[hr];exact q3) (q4 _ (by rw[hr];simp) rfl) (by
  by_cases am:c=1
  ·exact .inl (List.eq_nil_of_length_eq_zero (by omega))
  rw[if_neg am] at aa
  exact .inr aa.symm))
 have HK:=zh (show Kx (λj=>¬ Pr j) W (W.setCell ⟨pw,0,none⟩ (.slice A' r.length (c-1))) from bz (Kx.refl _ W) h.npw 0 _)
 rw[hr,List.length_cons] at bI
 have i1:(1:Int)<=((r.length+1:Nat):Int):=by omega
 have i2:r.length+1<=c:=q3
 clear h q1 q2 q3 q4 hr hy
 have k1:(kind.toList==[110])=true:=by rw[Lib.toList_data,hk];rfl
 have HN:=zh (λW=>BD ⟨x.toArray⟩ W (by rw[aO];exact hx))
 clear hk
 have dd:s.ns.length<=1000000:=b5
 by_cases am:c=1
 ·rw[if_pos am] at aa
  have b6:r=[]:=List.eq_nil_of_length_eq_zero (by omega)
  subst b6
  subst am
  subst aa
  simp only[List.length_nil,Nat.sub_self,Nat.zero_add] at HP HK q0 i1 i2
  go_enter Tryz.func131,Tryz.ntmps131
  go_wp2_with (first
   |(go_at_call 132;go_loud (refine (HN.out _).mono ?_;rintro e w2 ⟨rfl,ad⟩;have bk:=zh ad;have h2:=HP.out.below ad;have H2:=zh h2;obtain⟨A1,c1,A2,c2,r1,r2,r3,r4,r5⟩:=h2.got;have bc:=ap r1;obtain⟨p0,p1,pf⟩:=bc;have pf1:=pf 1;have R1:=zh r1;have R2:=zh r2;have R3:=zh r3;have R4:=zh r4;have R5:=zh r5;clear ad h2 r1 r2 r3 r4 r5 pf))
   |(at_builtin;go_loud (refine ax rfl (.tmp 24) (.tmp 26) _ rfl xh 0 _ _ _ rfl (R4.out.alloc _) _ _ _ _ rfl (Sl.newAt _ _ _ 1 1 rfl rfl) (lH [(ce x).getD 0]) (by unfold maxLen;omega) (by omega) (Nat.zero_le _) ?_;intro A3 c3 w3 a0 aF a9;obtain⟨k1,k2,k3⟩:=H2.out.pushN (v:=(ce x).getD 0) R1.out R2.out R3.out R4.out R5.out a0 aF a9;have bi:=ap k3;obtain⟨p3,p4,pf3⟩:=bi;have pf4:=pf3 1;have K1:=zh k1;have K2:=zh k2;clear k1 k2 k3 a0 aF a9 pf3)))
  exact hR.out _ _ ⟨rfl,K1.out,(HK.out.below bk.out).trans K2.out (λ_ _ h=>h)⟩
 rw[if_neg am] at aa
 subst aa
 go_enter Tryz.func131,Tryz.ntmps131
 go_wp2_with (first
  |(go_at_call 132;go_loud (refine (HN.out _).mono ?_;rintro e w2 ⟨rfl,ad⟩;have bk:=zh ad;have h2:=HP.out.below ad;have H2:=zh h2;obtain⟨A1,c1,A2,c2,r1,r2,r3,r4,r5⟩:=h2.got;have bc:=ap r1;obtain⟨p0,p1,pf⟩:=bc;have pf1:=pf 1;have R1:=zh r1;have R2:=zh r2;have R3:=zh r3;have R4:=zh r4;have R5:=zh r5;clear ad h2 r1 r2 r3 r4 r5 pf))
  |(at_builtin;go_loud (refine ax rfl (.tmp 24) (.tmp 26) _ rfl xh 0 _ _ _ rfl (R4.out.alloc _) _ _ _ _ rfl (Sl.newAt _ _ _ 1 1 rfl rfl) (lH [(ce x).getD 0]) (by unfold maxLen;omega) (by omega) (Nat.zero_le _) ?_;intro A3 c3 w3 a0 aF a9;obtain⟨k1,k2,k3⟩:=H2.out.pushN (v:=(ce x).getD 0) R1.out R2.out R3.out R4.out R5.out a0 aF a9;have bi:=ap k3;obtain⟨p3,p4,pf3⟩:=bi;have pf4:=pf3 1;have K1:=zh k1;have K2:=zh k2;clear k1 k2 k3 a0 aF a9 pf3)))
 exact hR.out _ _ ⟨rfl,K1.out,(HK.out.below bk.out).trans K2.out (λ_ _ h=>h)⟩
theorem mM(L:List (List UInt8))(x:List UInt8):Lib.containsS (aP L) ⟨x.toArray⟩=L.contains x:=by
 rw[Bool.eq_iff_iff,Lib.containsS_iff,List.contains_iff_mem]
 unfold aP
 rw[List.mem_map]
 constructor
 ·rintro⟨y,hy,e⟩
  have:y=x:=by simpa using congrArg (λs:ByteArray=>s.data.toList) e
  exact this ▸ hy
 intro h
 exact⟨x,h,rfl⟩
theorem JU(kind:ByteArray)(W:World)(Pr:Nat->Prop)(pw pa:Nat)(s:Ta)(x:List UInt8)(r:List (List UInt8))(h:eE W Pr pw pa s)(hr:s.rest=x :: r)(_hx:x.length<=1000000)(bI:s.rest.length<=1000000)(b5:s.ws.length<=1000000)(hk:kind.data.toList=[119]) :
 Calls Tryz.prog 131 #[.string kind,.pointer (some ⟨pw,0,none⟩),.pointer (some ⟨pa,0,none⟩)] W λe w'=>e=.returned (.bool true)/\eE w' Pr pw pa ⟨r,s.ws++[x],s.ns⟩/\Kx (λj=>¬ Pr j) W w':=by
 refine ae ?_
 intro R hR
 have HH:=zh h
 obtain⟨A,c,q1,q2,q3,q4⟩:=h.left
 rw[hr] at q1 q2 q3
 obtain⟨b,o,y,rfl,hb,hy,hc⟩:=di q2 (k:=0) (by simp)
 have b7:y=⟨x.toArray⟩:=by
  have:(aP (x :: r))[0]?=some ⟨x.toArray⟩:=rfl
  rw[this] at hy
  exact (Option.some.inj hy).symm
 subst b7
 rw[Nat.add_zero] at hc
 rw[List.length_cons] at q1 q2 q3
 have b9:b≠pw:=λe=>h.npw (e ▸ (q4 _ (by rw[hr];simp) rfl).1)
 have q0:W.cell? ⟨pw,0,none⟩=some (.slice (some ⟨b,o,none⟩) (r.length+1) c):=by rw[cell_of_row _ _ 0 _ _ (0,0) q1];rfl
 have qf:W.frozen? ⟨pw,0,none⟩=false:=by simp[World.frozen?,q1]
 obtain⟨A',aa⟩:∃ A':Option Addr,(if c=1 then some ⟨b,o,none⟩ else some ⟨b,o+1,none⟩)=A':=⟨_,rfl⟩
 have HP:=zh (h.pop (A':=A') hr (by rw[hr];exact q1) (by rw[hr];exact q2) (by rw[hr];exact q3) (q4 _ (by rw[hr];simp) rfl) (by
  by_cases am:c=1
  ·exact .inl (List.eq_nil_of_length_eq_zero (by omega))
  rw[if_neg am] at aa
  exact .inr aa.symm))
 have HK:=zh (show Kx (λj=>¬ Pr j) W (W.setCell ⟨pw,0,none⟩ (.slice A' r.length (c-1))) from bz (Kx.refl _ W) h.npw 0 _)
 rw[hr,List.length_cons] at bI
 have i1:(1:Int)<=((r.length+1:Nat):Int):=by omega
 have i2:r.length+1<=c:=q3
 clear h q1 q2 q3 q4 hr hy
 have k1:(kind.toList==[110])=false:=by rw[Lib.toList_data,hk];decide
 have k2:(kind.toList==[119])=true:=by rw[Lib.toList_data,hk];rfl
 clear hk
 have dd:s.ws.length<=1000000:=b5
 by_cases am:c=1
 ·rw[if_pos am] at aa
  have b6:r=[]:=List.eq_nil_of_length_eq_zero (by omega)
  subst b6
  subst am
  subst aa
  simp only[List.length_nil,Nat.sub_self,Nat.zero_add] at HP HK q0 i1 i2
  have h2:=HP.out
  obtain⟨A1,c1,A2,c2,r1,r2,r3,r4,r5⟩:=h2.got
  have H2:=zh h2
  dsimp only at r1 r2 r3 r4 r5
  have bc:=ap r1
  obtain⟨p0,p1,pf⟩:=bc
  have pf0:=pf 0
  have R1:=zh r1
  have R2:=zh r2
  have R3:=zh r3
  have R4:=zh r4
  have R5:=zh r5
  clear h2 r1 r2 r3 r4 r5 pf
  go_enter Tryz.func131,Tryz.ntmps131
  go_wp2_with (at_builtin;go_loud (refine ax rfl (.tmp 31) (.tmp 33) _ rfl nL 0 _ _ _ rfl (R2.out.alloc _) _ _ _ _ rfl (Sl.newAt _ _ _ 1 1 rfl (by simp[World.setCell])) (qi [⟨x.toArray⟩]) (by unfold maxLen;omega) (by omega) (Nat.zero_le _) ?_;intro A3 c3 w3 a0 aF a9;obtain⟨k1,k2,k3⟩:=H2.out.pushW (v:=x) R1.out R2.out R3.out R4.out R5.out a0 aF a9;have bi:=ap k3;obtain⟨p3,p4,pf3⟩:=bi;have pf4:=pf3 0;have K1:=zh k1;have K2:=zh k2;clear k1 k2 k3 a0 aF a9 pf3))
  exact hR.out _ _ ⟨rfl,K1.out,HK.out.trans K2.out (λ_ _ h=>h)⟩
 rw[if_neg am] at aa
 subst aa
 have h2:=HP.out
 obtain⟨A1,c1,A2,c2,r1,r2,r3,r4,r5⟩:=h2.got
 have H2:=zh h2
 dsimp only at r1 r2 r3 r4 r5
 have bc:=ap r1
 obtain⟨p0,p1,pf⟩:=bc
 have pf0:=pf 0
 have R1:=zh r1
 have R2:=zh r2
 have R3:=zh r3
 have R4:=zh r4
 have R5:=zh r5
 clear h2 r1 r2 r3 r4 r5 pf
 go_enter Tryz.func131,Tryz.ntmps131
 go_wp2_with (at_builtin;go_loud (refine ax rfl (.tmp 31) (.tmp 33) _ rfl nL 0 _ _ _ rfl (R2.out.alloc _) _ _ _ _ rfl (Sl.newAt _ _ _ 1 1 rfl (by simp[World.setCell])) (qi [⟨x.toArray⟩]) (by unfold maxLen;omega) (by omega) (Nat.zero_le _) ?_;intro A3 c3 w3 a0 aF a9;obtain⟨k1,k2,k3⟩:=H2.out.pushW (v:=x) R1.out R2.out R3.out R4.out R5.out a0 aF a9;have bi:=ap k3;obtain⟨p3,p4,pf3⟩:=bi;have pf4:=pf3 0;have K1:=zh k1;have K2:=zh k2;clear k1 k2 k3 a0 aF a9 pf3))
 exact hR.out _ _ ⟨rfl,K1.out,HK.out.trans K2.out (λ_ _ h=>h)⟩
end
end
section
section
open Go.RowKit Go.Shelf
theorem IV(kind:ByteArray)(W:World)(Pr:Nat->Prop)(pw pa:Nat)(s:Ta)(x:List UInt8)(r:List (List UInt8))(h:eE W Pr pw pa s)(hr:s.rest=x :: r)(_hx:x.length<=1000000)(bI:s.rest.length<=1000000)(b5:s.ws.length<=1000000)(c6:kind.data.toList≠[110])(bf:kind.data.toList≠[119])(c8:kind.size<=1000000)(bg:Nat)(hg:Gl bg W)(bE:∀ j,j<bg->Pr j) :
 Calls Tryz.prog 131 #[.string kind,.pointer (some ⟨pw,0,none⟩),.pointer (some ⟨pa,0,none⟩)] W λe w'=>e=.returned (.bool ((Lib.split kind.data.toList [124]).contains x))/\eE w' Pr pw pa ⟨r,s.ws++[x],s.ns⟩/\Kx (λj=>¬ Pr j) W w':=by
 refine ae ?_
 intro R hR
 have HH:=zh h
 obtain⟨A,c,q1,q2,q3,q4⟩:=h.left
 rw[hr] at q1 q2 q3
 obtain⟨b,o,y,rfl,hb,hy,hc⟩:=di q2 (k:=0) (by simp)
 have b7:y=⟨x.toArray⟩:=by
  have:(aP (x :: r))[0]?=some ⟨x.toArray⟩:=rfl
  rw[this] at hy
  exact (Option.some.inj hy).symm
 subst b7
 rw[Nat.add_zero] at hc
 rw[List.length_cons] at q1 q2 q3
 have b9:b≠pw:=λe=>h.npw (e ▸ (q4 _ (by rw[hr];simp) rfl).1)
 have q0:W.cell? ⟨pw,0,none⟩=some (.slice (some ⟨b,o,none⟩) (r.length+1) c):=by rw[cell_of_row _ _ 0 _ _ (0,0) q1];rfl
 have qf:W.frozen? ⟨pw,0,none⟩=false:=by simp[World.frozen?,q1]
 obtain⟨A',aa⟩:∃ A':Option Addr,(if c=1 then some ⟨b,o,none⟩ else some ⟨b,o+1,none⟩)=A':=⟨_,rfl⟩
 have HP:=zh (h.pop (A':=A') hr (by rw[hr];exact q1) (by rw[hr];exact q2) (by rw[hr];exact q3) (q4 _ (by rw[hr];simp) rfl) (by
  by_cases am:c=1
  ·exact .inl (List.eq_nil_of_length_eq_zero (by omega))
  rw[if_neg am] at aa
  exact .inr aa.symm))
 have HK:=zh (show Kx (λj=>¬ Pr j) W (W.setCell ⟨pw,0,none⟩ (.slice A' r.length (c-1))) from bz (Kx.refl _ W) h.npw 0 _)
 rw[hr,List.length_cons] at bI
 have i1:(1:Int)<=((r.length+1:Nat):Int):=by omega
 have i2:r.length+1<=c:=q3
 clear h q1 q2 q3 q4 hr hy
 have k1:(kind.toList==[110])=false:=by rw[Lib.toList_data,beq_eq_false_iff_ne];exact c6
 have k2:(kind.toList==[119])=false:=by rw[Lib.toList_data,beq_eq_false_iff_ne];exact bf
 have HG:=zh hg
 have cT:bg<=W.heap.size:=Nat.le_of_not_lt λhl=>by have:=HH.out.lt _ (bE _ hl);omega
 have cL:=zh cT
 have cN:=zh bE
 clear c6 bf hg cT bE
 have dd:s.ws.length<=1000000:=b5
 by_cases am:c=1
 ·rw[if_pos am] at aa
  have b6:r=[]:=List.eq_nil_of_length_eq_zero (by omega)
  subst b6
  subst am
  subst aa
  simp only[List.length_nil,Nat.sub_self,Nat.zero_add] at HP HK q0 i1 i2
  have h2:=HP.out
  obtain⟨A1,c1,A2,c2,r1,r2,r3,r4,r5⟩:=h2.got
  have H2:=zh h2
  dsimp only at r1 r2 r3 r4 r5
  have bc:=ap r1
  obtain⟨p0,p1,pf⟩:=bc
  have pf0:=pf 0
  have R1:=zh r1
  have R2:=zh r2
  have R3:=zh r3
  have R4:=zh r4
  have R5:=zh r5
  clear h2 r1 r2 r3 r4 r5 pf
  go_enter Tryz.func131,Tryz.ntmps131
  go_wp2_with (at_builtin;go_loud (refine ax rfl (.tmp 31) (.tmp 33) _ rfl nL 0 _ _ _ rfl (R2.out.alloc _) _ _ _ _ rfl (Sl.newAt _ _ _ 1 1 rfl (by simp[World.setCell])) (qi [⟨x.toArray⟩]) (by unfold maxLen;omega) (by omega) (Nat.zero_le _) ?_;intro A3 c3 w3 a0 aF a9;obtain⟨k1,k2,k3⟩:=H2.out.pushW (v:=x) R1.out R2.out R3.out R4.out R5.out a0 aF a9;have bi:=ap k3;obtain⟨p3,p4,pf3⟩:=bi;have pf4:=pf3 0;have K1:=zh k1;have K2:=zh k2;clear k1 k2 k3 a0 aF a9 pf3))
  refine (vK kind ⟨#[124]⟩ _ bg (HG.out.kx (HK.out.trans K2.out (λ_ _ h=>h)) (λj hj=>Nat.le_of_not_lt (λhl=>hj (cN.out j hl))) cL.out) (by omega) (by decide)).mono ?_
  rintro e w4 ⟨n4,c4,rfl,bu,dz,bD⟩
  rw[show (w3.setCell ⟨pa,0,none⟩ (.slice A3 (s.ws.length+1) c3)).heap.size=w3.heap.size by simp[World.setCell]] at bu
  have cj:=zh bu
  have bw:=zh bD
  clear bu bD
  go_wp2_with fail
  refine (tP _ _ _ _ _ _ cj.out (by omega)).mono ?_
  rintro e w5 ⟨rfl,rfl⟩
  rw[mM]
  obtain⟨res,bt⟩:∃ res,(Lib.split kind.data.toList (⟨#[124]⟩:ByteArray).data.toList).contains x=res:=⟨_,rfl⟩
  have ci:=zh bt
  rw[bt]
  clear bt
  go_wp2
  refine hR.out _ _ ⟨?_,K1.out.below bw.out,(HK.out.trans K2.out (λ_ _ h=>h)).below bw.out⟩
  rw[← ci.out]
  rfl
 rw[if_neg am] at aa
 subst aa
 have h2:=HP.out
 obtain⟨A1,c1,A2,c2,r1,r2,r3,r4,r5⟩:=h2.got
 have H2:=zh h2
 dsimp only at r1 r2 r3 r4 r5
 have bc:=ap r1
 obtain⟨p0,p1,pf⟩:=bc
 have pf0:=pf 0
 have R1:=zh r1
 have R2:=zh r2
 have R3:=zh r3
 have R4:=zh r4
 have R5:=zh r5
 clear h2 r1 r2 r3 r4 r5 pf
 go_enter Tryz.func131,Tryz.ntmps131
 go_wp2_with (at_builtin;go_loud (refine ax rfl (.tmp 31) (.tmp 33) _ rfl nL 0 _ _ _ rfl (R2.out.alloc _) _ _ _ _ rfl (Sl.newAt _ _ _ 1 1 rfl (by simp[World.setCell])) (qi [⟨x.toArray⟩]) (by unfold maxLen;omega) (by omega) (Nat.zero_le _) ?_;intro A3 c3 w3 a0 aF a9;obtain⟨k1,k2,k3⟩:=H2.out.pushW (v:=x) R1.out R2.out R3.out R4.out R5.out a0 aF a9;have bi:=ap k3;obtain⟨p3,p4,pf3⟩:=bi;have pf4:=pf3 0;have K1:=zh k1;have K2:=zh k2;clear k1 k2 k3 a0 aF a9 pf3))
 refine (vK kind ⟨#[124]⟩ _ bg (HG.out.kx (HK.out.trans K2.out (λ_ _ h=>h)) (λj hj=>Nat.le_of_not_lt (λhl=>hj (cN.out j hl))) cL.out) (by omega) (by decide)).mono ?_
 rintro e w4 ⟨n4,c4,rfl,bu,dz,bD⟩
 rw[show (w3.setCell ⟨pa,0,none⟩ (.slice A3 (s.ws.length+1) c3)).heap.size=w3.heap.size by simp[World.setCell]] at bu
 have cj:=zh bu
 have bw:=zh bD
 clear bu bD
 go_wp2_with fail
 refine (tP _ _ _ _ _ _ cj.out (by omega)).mono ?_
 rintro e w5 ⟨rfl,rfl⟩
 rw[mM]
 obtain⟨res,bt⟩:∃ res,(Lib.split kind.data.toList (⟨#[124]⟩:ByteArray).data.toList).contains x=res:=⟨_,rfl⟩
 have ci:=zh bt
 rw[bt]
 clear bt
 go_wp2
 refine hR.out _ _ ⟨?_,K1.out.below bw.out,(HK.out.trans K2.out (λ_ _ h=>h)).below bw.out⟩
 rw[← ci.out]
 rfl
end
end
section
section
open Go.RowKit Go.Shelf
def uz(s:Ta):Prop:=s.rest.length+s.ws.length+s.ns.length<=1000000/\∀ x∈s.rest,x.length<=1000000
theorem uz.take{s:Ta}(h:uz s)(k:List UInt8):uz (ba k s).1:=by
 unfold ba
 obtain⟨h1,h2⟩:=h
 cases hr:s.rest with
 |nil=>exact⟨h1,h2⟩
 |cons w r =>
  rw[hr] at h1 h2
  rw[List.length_cons] at h1
  dsimp only
  split
  ·exact⟨by dsimp only;rw[List.length_append,List.length_singleton];omega,λx hx=>h2 x (List.mem_cons_of_mem _ hx)⟩
  exact⟨by dsimp only;rw[List.length_append,List.length_singleton];omega,λx hx=>h2 x (List.mem_cons_of_mem _ hx)⟩
theorem iY{s:Ta}{k:List UInt8}(h:(ba k s).2=true):(ba k s).1.rest.length+1=s.rest.length:=by
 unfold ba at h ⊢
 cases hr:s.rest with
 |nil=>rw[hr] at h;cases h
 |cons w r =>
  dsimp only
  split<;>rfl
def bo:List (List UInt8)->Ta->Option Ta
 |[],s=>some s
 |g :: r,s=>if (ba g s).2 then bo r (ba g s).1 else none
def cY(g:List (List UInt8))(more:Bool):Nat->Nat->Ta->Option Ta
 |0,_,s=>some s
 |n+1,L,s=>if 0<L\/(more=true/\0<s.rest.length) then (bo g s).bind (cY g more n (L-1)) else some s
def kN:List UInt8:=[110]
def kS:List UInt8:=[110,42]
def kP:List UInt8:=[110,43]
def bb:List UInt8:=[112,111,115,116]
def lN(k:List UInt8):List (List UInt8):=if k=kS then [kN] else if k=kP then [kN] else if k=bb then [[119],[119],[119],kN] else [k]
def fx(k:List UInt8):Nat:=if k=kS then 0 else 1
def jm(k:List UInt8):Bool:=decide (k=kS)||decide (k=kP)||decide (k=bb)
def bR:List (List UInt8)->Ta->Option Ta
 |[],s=>some s
 |k :: r,s=>(cY (lN k) (jm k) (fx k+s.rest.length) (fx k) s).bind (bR r)
def jK:Option Ta->List (List UInt8)×List Int×Bool
 |none=>([],[],false)
 |some s=>(s.ws,s.ns,decide (s.rest.length=0))
def aD(form:List UInt8)(words:List (List UInt8)):List (List UInt8)×List Int×Bool:=jK (bR (Lib.fields form) ⟨words,[],[]⟩)
theorem j6(kind:ByteArray)(W:World)(Pr:Nat->Prop)(pw pa:Nat)(s:Ta)(h:eE W Pr pw pa s)(hz:uz s)(c8:kind.size<=1000000)(bg:Nat)(hg:Gl bg W)(bE:∀ j,j<bg->Pr j) :
 Calls Tryz.prog 131 #[.string kind,.pointer (some ⟨pw,0,none⟩),.pointer (some ⟨pa,0,none⟩)] W λe w'=>e=.returned (.bool (ba kind.data.toList s).2)/\eE w' Pr pw pa (ba kind.data.toList s).1/\Kx (λj=>¬ Pr j) W w':=by
 obtain⟨h1,h2⟩:=hz
 unfold ba
 cases hr:s.rest with
 |nil =>
  refine (DX kind W Pr pw pa s h hr).mono ?_
  rintro e w' ⟨rfl,rfl⟩
  exact⟨rfl,h,Kx.refl _ _⟩
 |cons x r =>
  have hx:=h2 x (by rw[hr];exact List.mem_cons_self)
  dsimp only
  by_cases k1:kind.data.toList=[110]
  ·rw[if_pos k1]
   exact Gh kind W Pr pw pa s x r h hr hx (by omega) (by omega) k1
  rw[if_neg k1]
  unfold GA
  by_cases k2:kind.data.toList=[119]
  ·rw[decide_eq_true k2,Bool.true_or]
   exact JU kind W Pr pw pa s x r h hr hx (by omega) (by omega) k2
  rw[decide_eq_false k2,Bool.false_or]
  exact IV kind W Pr pw pa s x r h hr hx (by omega) (by omega) k1 k2 c8 bg hg bE
end
end
end Go.Proofs.YtgbnicokglpdbaaGreatDoor
