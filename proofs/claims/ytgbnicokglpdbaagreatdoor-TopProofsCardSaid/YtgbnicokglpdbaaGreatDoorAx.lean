/-
A region that draws its order; conditions: those of each theorem.
-/
import Derived.Test.YtgbnicokglpdbaaGreatDoorA0
import Derived.Deep.CutBlock
import Derived.Deep.RegionHeld3
namespace Go.Proofs.YtgbnicokglpdbaaGreatDoor
section
section
variable{P:Program}{ops:Array Oper}{md:Region.Mode}{C:World->Prop}{n:Nat}
def sA(P:Program)(md:Region.Mode)(ops:Array Oper)(C:World->Prop)(n:Nat)(L:Array Bool->Act->Prop):Nat->Array Bool->Act->Prop
 |0,ls,a=>L ls a
 |f+1,ls,a=>Region.ready md ops ls≠[]/\∀ i∈Region.ready md ops ls,i<n/\qOp P ops C i (sA P md ops C n L f (ls.setIfInBounds i true)) a
theorem wN{g:Nat}{L:Array Bool->Act->Prop}{Q:Exit->Act->World->Prop}(hL:∀ ls a w,C w->L ls a->wpAny P md ops Q g ls a w)(f:Nat):∀ (ls:Array Bool) (a:Act) (w:World),C w->sA P md ops C n L f ls a->wpAny P md ops Q (f+g) ls a w:=by
 induction f with
 |zero=>intro ls a w hw h;rw[Nat.zero_add];exact hL _ _ _ hw h
 |succ f ih =>
  intro ls a w hw h
  rw[Nat.succ_add]
  exact⟨λh0=>absurd h0 h.1,λi hi=>wpOp_of_qOp hw (λa' w' aa h'=>ih _ a' w' aa h') (h.2 i hi).2⟩
theorem qc{ls:Array Bool}{i j:Nat}(hs:Region.sinkB md ops n=true)(hc:Region.chainB md ops n=true)(hn:n<ops.size)(hi:i<n)(inv:HeadInv md ops n ls)(hr:i∈Region.ready md ops ls)(hj:j∈Region.ready md ops ls):j<n:=by
 rcases Nat.lt_or_ge j n with h|h
 ·exact h
 exact absurd hj (tail_waits hs hc hn inv _ i rfl hi (mem_ready.1 hr).1 j h)
theorem yR{i:Nat}{o:Oper}{v:Value}{L:Array Bool->Act->Prop}(ho:ops[i]?=some o)(am:∀ (j:Nat) (o:Oper) cs b,ops[j]?=some o->o.op≠.select cs b)(hs:Region.sinkB md ops n=true)(hc:Region.chainB md ops n=true)(hn:n<ops.size)(hi:i<n)(bt:∀ ls a,L ls a->∀ j∈Region.ready md ops ls,n<=j)(f:Nat) :
 ∀ (ls:Array Bool) (a:Act),HeadInv md ops n ls->(∀ j oj,ops[j]?=some oj->j≠i->ls.getD j true=false->(∀ e∈oj.after,Region.binds md e=true->e.on≠i)->o.apart ops oj=true)->i∈Region.ready md ops ls->YieldsIn P ops C o v a->
  sA P md ops C n L f (ls.setIfInBounds i true) (a.put o.dst v)->sA P md ops C n L (f+1) ls a:=by
 induction f with
 |zero =>
  intro ls a inv bf hr hy H
  refine⟨λh=>(by rw[h] at hr;cases hr),λj hj=>⟨qc hs hc hn hi inv hr hj,?_⟩⟩
  by_cases e:j=i
  ·subst e;exact hy.qOp ho H
  exact absurd (qc hs hc hn hi inv hr hj) (Nat.not_lt.2 (bt _ _ H j (ready_mono hj e)))
 |succ f ih =>
  intro ls a inv bf hr hy H
  refine⟨λh=>(by rw[h] at hr;cases hr),λj hj=>⟨qc hs hc hn hi inv hr hj,?_⟩⟩
  by_cases e:j=i
  ·subst e;exact hy.qOp ho H
  obtain⟨hu,oj,bg,aF⟩:=mem_ready.1 hj
  have bw:∀ x∈oj.after,Region.binds md x=true->x.on≠i:=λx hx hb hq=>by
   have h1:=aF x hx hb
   rw[hq,getD_both (mem_ready.1 hr).1] at h1
   cases h1
  refine qOp_mono (λa' h3=>?_) (qOp_put bg (bf j oj bg e hu bw) (λcs b=>am i o cs b ho) (λcs b=>am j oj cs b bg) hy (H.2 j (ready_mono hj e)).2)
  refine ih (ls.setIfInBounds j true) a' (inv.set hj (qc hs hc hn hi inv hr hj)) (λk ok hk bu bk bD=>bf k ok hk bu ?_ bD) (ready_mono hr (Ne.symm e)) h3.1 (by rw[Array.setIfInBounds_comm _ _ e];exact h3.2)
  by_cases q:j=k
  ·subst q;exact hu
  rwa [getD_set_ne true q] at bk
theorem CQ{g:Nat}{K:Act->Prop}(am:Region.noSelect ops=true)(hs:Region.sinkB md ops n=true)(hc:Region.chainB md ops n=true)(hn:n<ops.size)(l:List Oper) :
 ∀ (k:Nat) (ls:Array Bool) (a:Act),(∀ j,j<l.length->l[j]?=ops[k+j]?)->k+l.length=n->HeadInv md ops n ls->Region.lexHead md ops g l.length k ls=true->wpQuiet P ops C K l a->
  sA P md ops C n (λls' a'=>Region.seqB md ops g n ls'=true/\K a') l.length ls a:=by
 induction l with
 |nil =>
  intro k ls a _ hk _ hB h
  obtain rfl:k=n:=by simpa using hk
  exact⟨by simpa[Region.lexHead] using hB,h⟩
 |cons o l ih =>
  intro k ls a hl hk inv hB h
  have h0:ops[k]?=some o:=by simpa using (hl 0 (by simp)).symm
  simp only[List.length_cons,Region.lexHead,Bool.and_eq_true] at hB
  simp only[List.length_cons] at hk
  have hr:k∈Region.ready md ops ls:=by simpa using hB.1.1
  obtain⟨v,hy,hK⟩:=yieldsIn_of_qOp h0 (show qOp P ops C k (wpQuiet P ops C K l) a by unfold qOp;simp only[h0];exact h)
  have bi:k<n:=by omega
  refine yR h0 (Region.noSelect_spec am) hs hc hn bi (λls' a' hL=>seqB_ready hL.1) l.length ls a inv (Region.free_spec h0 hB.1.2) hr hy ?_
  exact ih (k+1) _ _ (λj hj=>by have:=hl (j+1) (by simp;omega);simpa[Nat.add_assoc,Nat.add_comm 1 j] using this) (by omega) (inv.set hr bi) hB.2 hK
theorem jC{id:Nat}{Q:Exit->Act->World->Prop}{a:Act}{w:World}{l:List Oper}(n:Nat)(hm:P.follows .mixedOrders=true)(hB:Region.lexTailB .any l.toArray n=true)(hC:C { w with drawn:=w.drawn+1 })
 (h:wpQuiet P l.toArray C (λa'=>∀ w',C w'->wpList P l.toArray Q (l.drop n) a' w') (l.take n) a):(Code.region id l.toArray true).wp P Q a w:=by
 simp only[Region.lexTailB,Bool.and_eq_true,decide_eq_true_eq] at hB
 obtain⟨⟨⟨⟨am,hn⟩,hs⟩,hc⟩,bv⟩:=hB
 have cc:n<l.length:=by simpa using hn
 have a9:(l.take n).length=n:=by simp;omega
 have inv0:HeadInv .any l.toArray n (Array.replicate l.toArray.size false):=⟨by simp,λj oj _ hl=>(by rw[getD_replicate_false] at hl;cases hl),λt _ ht=>getD_in (by simpa using ht) (getD_replicate_false _ _)⟩
 have H:=CQ (md:=.any) (g:=l.toArray.size-n) am hs hc hn (l.take n) 0 _ a (λj hj=>by rw[a9] at hj;simp[hj]) (by simpa using a9) inv0 (by rw[a9];exact bv) h
 rw[a9] at H
 have H2:=wN (Q:=Q) (g:=l.toArray.size-n) (λls a' w' aa hL=>by
  have:=wpAny_of_seq (md:=.any) (Q':=Q) (l.drop n) n ls a' w' (λj=>by simp[List.getElem?_drop]) (by rw[List.length_drop];exact hL.1) (hL.2 w' aa)
  rwa [List.length_drop] at this) n _ a _ hC H
 refine wp_region_any hm ?_
 rwa [show n+(l.toArray.size-n)=l.toArray.size by omega] at H2
end
end
section
section
open Go.RowKit
theorem mI{b:Nat}{W W':World}(h:Below b W W')(q:Nat):Below b W (W'.drewN q):=⟨h.os,h.tape,h.output,h.size,h.block⟩
theorem cX{l:List Int}{i:Nat}{x:Int}(h:l[i]?=some x):l.getD i 0=x:=by
 rw[List.getD_eq_getElem?_getD,h];rfl
structure nr(B:Nat)(w0:World)(ι:Type)(mk:ι->World):Prop where
 iff:∀ w',Below B w0 w' ↔ ∃ n,w'=mk n
theorem iP(B:Nat)(w0:World):∃ (ι:Type) (mk:ι->World),nr B w0 ι mk:=
 ⟨{ w' // Below B w0 w' },Subtype.val,⟨λw'=>⟨λh=>⟨⟨w',h⟩,rfl⟩,by rintro⟨n,rfl⟩;exact n.2⟩⟩⟩
section
variable{B:Nat}{w0:World}{ι:Type}{mk:ι->World}
theorem nr.below(h:nr B w0 ι mk)(n:ι):Below B w0 (mk n):=(h.iff _).2 ⟨n,rfl⟩
theorem nr.ne(h:nr B w0 ι mk):Nonempty ι:=let ⟨n,_⟩:=(h.iff _).1 (Below.refl B w0);⟨n⟩
theorem nr.drew(h:nr B w0 ι mk):∃ n,{ w0 with drawn:=w0.drawn+1 }=mk n:=(h.iff _).1 (Below.refl B w0).drew
theorem nr.call(h:nr w0.heap.size w0 ι mk){P:Program}{f:FuncId}{args:Array Value}{n:ι}{v:Value}
 (hc:Calls P f args (mk n) λe w'=>e=.returned v/\Below (mk n).heap.size (mk n) w'):Calls P f args (mk n) λe w''=>e=.returned v/\∃ m,w''=mk m:=
 hc.mono λ_ _ ⟨he,hb⟩=>⟨he,(h.iff _).1 ((h.below n).trans (hb.mono (h.below n).size))⟩
end
theorem uw{P:Program}{C:World->Prop}{id:Nat}{Q:Exit->Act->World->Prop}{a:Act}{w:World}{l:List Oper}(hm:P.follows .mixedOrders=true)(hB:Region.lexB .any l.toArray=true)(hC:C { w with drawn:=w.drawn+1 })
 (h:wpQuiet P l.toArray C (λa'=>∀ w',C w'->Q .normal a' w') l a):(Code.region id l.toArray true).wp P Q a w:=
 wp_region_quiet (C:=C) hm hB hC (by simpa using h)
end
end
section
section
open Go.RowKit
structure qo where
 val:Nat->Value
 ob:Obj
section
variable{P:Program}{ops:Array Oper}{md:Region.Mode}{C:World->Prop}{n n0:Nat}{mk:Nat->Option qo}{cv:Nat->Option Value}{β:Nat->Nat}
def I3(mk:Nat->Option qo)(β:Nat->Nat)(md:Region.Mode)(o:Oper)(w:World):Prop:=∀ x∈o.after,Region.binds md x=true->∀ m,mk x.on=some m->w.heap[β x.on]?=some m.ob
def mP(P:Program)(md:Region.Mode)(C:World->Prop)(mk:Nat->Option qo)(cv:Nat->Option Value)(β:Nat->Nat)(i:Nat)(o:Oper)(a:Act)(v:Value):Prop:=
 match mk i with
 |some m=>(∀ w,C w->(execOp a.eval o).run P w=.ok (.value (m.val w.heap.size)) (w.alloc m.ob))/\v=m.val (β i)
 |none=>match cv i with
  |some u=>(∀ w,C w->I3 mk β md o w->o.quietAt P a (λw'=>C w'/\Below w.heap.size w w') w u)/\v=u
  |none=>∀ w,C w->o.quietAt P a (λ_=>False) w v
def d9(P:Program)(md:Region.Mode)(ops:Array Oper)(C:World->Prop)(mk:Nat->Option qo)(cv:Nat->Option Value)(β:Nat->Nat)(i:Nat)(o:Oper)(v:Value)(a:Act):Prop:=
 (Region.wanted o (yielded ops a.tmps)=true/\mP P md C mk cv β i o a v)\/(Region.wanted o (yielded ops a.tmps)=false/\mk i=none/\v=undef)
def qD(P:Program)(md:Region.Mode)(ops:Array Oper)(C:World->Prop)(mk:Nat->Option qo)(cv:Nat->Option Value)(β:Nat->Nat)(i:Nat)(K:Act->Prop)(a:Act):Prop:=
 match ops[i]? with
 |none=>K a
 |some o=>∃ v,d9 P md ops C mk cv β i o v a/\K (a.put o.dst v)
theorem d9.of_same{i:Nat}{o:Oper}{v:Value}{a a':Act}(hy:d9 P md ops C mk cv β i o v a)(he:execOp a'.eval o=execOp a.eval o)(hw:Region.wanted o (yielded ops a'.tmps)=Region.wanted o (yielded ops a.tmps)):d9 P md ops C mk cv β i o v a':=by
 unfold d9 mP Oper.quietAt at *
 rw[he,hw]
 exact hy
theorem Fh{i:Nat}{a:Act}{K K':Act->Prop}(h:∀ a,K a->K' a)(hh:qD P md ops C mk cv β i K a):qD P md ops C mk cv β i K' a:=by
 unfold qD at *
 split
 ·exact h _ (by simpa[*] using hh)
 rename_i o ho
 simp only[ho] at hh
 obtain⟨v,h1,h2⟩:=hh
 exact⟨v,h1,h _ h2⟩
theorem Ip{i j:Nat}{oi oj:Oper}{v:Value}(hj:ops[j]?=some oj)(b6:oi.apart ops oj=true)(bE:∀ cs b,oi.op≠.select cs b)(cd:∀ cs b,oj.op≠.select cs b){K:Act->Prop}{a:Act}(hy:d9 P md ops C mk cv β i oi v a)(h:qD P md ops C mk cv β j K (a.put oi.dst v)) :
 qD P md ops C mk cv β j (λa'=>d9 P md ops C mk cv β i oi v a'/\K (a'.put oi.dst v)) a:=by
 obtain⟨h1,h2,h3⟩:=Oper.apart_spec b6
 unfold qD at *
 simp only[hj] at *
 obtain⟨u,hu,hk⟩:=h
 exact⟨u,hu.of_same (execOp_put oj cd a oi.dst v h1).symm (wanted_put oj a oi.dst v h1).symm,hy.of_same (execOp_put oi bE a oj.dst u h3) (wanted_put oi a oj.dst u h3),by rw[← Act.put_comm a v u h2];exact hk⟩
def mv(P:Program)(md:Region.Mode)(ops:Array Oper)(C:World->Prop)(mk:Nat->Option qo)(cv:Nat->Option Value)(β:Nat->Nat)(n:Nat)(L:Array Bool->Act->Prop):Nat->Array Bool->Act->Prop
 |0,ls,a=>L ls a
 |f+1,ls,a=>Region.ready md ops ls≠[]/\∀ i∈Region.ready md ops ls,i<n/\qD P md ops C mk cv β i (mv P md ops C mk cv β n L f (ls.setIfInBounds i true)) a
theorem nN{ls:Array Bool}{i j:Nat}(hs:Region.sinkB md ops n=true)(hc:Region.chainB md ops n=true)(hn:n<ops.size)(hi:i<n)(inv:HeadInv md ops n ls)(hr:i∈Region.ready md ops ls)(hj:j∈Region.ready md ops ls):j<n:=by
 rcases Nat.lt_or_ge j n with h|h
 ·exact h
 exact absurd hj (tail_waits hs hc hn inv _ i rfl hi (mem_ready.1 hr).1 j h)
theorem yQ{i:Nat}{o:Oper}{v:Value}{L:Array Bool->Act->Prop}(ho:ops[i]?=some o)(am:∀ (j:Nat) (o:Oper) cs b,ops[j]?=some o->o.op≠.select cs b)(hs:Region.sinkB md ops n=true)(hc:Region.chainB md ops n=true)(hn:n<ops.size)(hi:i<n)(bt:∀ ls a,L ls a->∀ j∈Region.ready md ops ls,n<=j)(f:Nat) :
 ∀ (ls:Array Bool) (a:Act),HeadInv md ops n ls->(∀ j oj,ops[j]?=some oj->j≠i->ls.getD j true=false->(∀ e∈oj.after,Region.binds md e=true->e.on≠i)->o.apart ops oj=true)->i∈Region.ready md ops ls->d9 P md ops C mk cv β i o v a->
  mv P md ops C mk cv β n L f (ls.setIfInBounds i true) (a.put o.dst v)->mv P md ops C mk cv β n L (f+1) ls a:=by
 have bS:∀ (a:Act) (K:Act->Prop),d9 P md ops C mk cv β i o v a->K (a.put o.dst v)->qD P md ops C mk cv β i K a:=λa K hy hk=>by
  unfold qD
  simp only[ho]
  exact⟨v,hy,hk⟩
 induction f with
 |zero =>
  intro ls a inv bf hr hy H
  refine⟨λh=>(by rw[h] at hr;cases hr),λj hj=>⟨nN hs hc hn hi inv hr hj,?_⟩⟩
  by_cases e:j=i
  ·subst e;exact bS _ _ hy H
  exact absurd (nN hs hc hn hi inv hr hj) (Nat.not_lt.2 (bt _ _ H j (ready_mono hj e)))
 |succ f ih =>
  intro ls a inv bf hr hy H
  refine⟨λh=>(by rw[h] at hr;cases hr),λj hj=>⟨nN hs hc hn hi inv hr hj,?_⟩⟩
  by_cases e:j=i
  ·subst e;exact bS _ _ hy H
  obtain⟨hu,oj,bg,aF⟩:=mem_ready.1 hj
  have bw:∀ x∈oj.after,Region.binds md x=true->x.on≠i:=λx hx hb hq=>by
   have h1:=aF x hx hb
   rw[hq,getD_both (mem_ready.1 hr).1] at h1
   cases h1
  refine Fh (λa' h3=>?_) (Ip bg (bf j oj bg e hu bw) (λcs b=>am i o cs b ho) (λcs b=>am j oj cs b bg) hy (H.2 j (ready_mono hj e)).2)
  refine ih (ls.setIfInBounds j true) a' (inv.set hj (nN hs hc hn hi inv hr hj)) (λk ok hk bu bk bD=>bf k ok hk bu ?_ bD) (ready_mono hr (Ne.symm e)) h3.1 (by rw[Array.setIfInBounds_comm _ _ e];exact h3.2)
  by_cases q:j=k
  ·subst q;exact hu
  rwa [getD_set_ne true q] at bk
def kZ(P:Program)(md:Region.Mode)(ops:Array Oper)(C:World->Prop)(mk:Nat->Option qo)(cv:Nat->Option Value)(β:Nat->Nat)(Q:Act->Prop):List Oper->Nat->Act->Prop
 |[],_,a=>Q a
 |o :: l,k,a=>∃ v,d9 P md ops C mk cv β k o v a/\kZ P md ops C mk cv β Q l (k+1) (a.put o.dst v)
theorem CP{g:Nat}{K:Act->Prop}(am:Region.noSelect ops=true)(hs:Region.sinkB md ops n=true)(hc:Region.chainB md ops n=true)(hn:n<ops.size)(l:List Oper) :
 ∀ (k:Nat) (ls:Array Bool) (a:Act),(∀ j,j<l.length->l[j]?=ops[k+j]?)->k+l.length=n->HeadInv md ops n ls->(∀ i,i<k->ls.getD i false=true)->Region.lexHead md ops g l.length k ls=true->kZ P md ops C mk cv β K l k a->
  mv P md ops C mk cv β n (λls' a'=>Region.seqB md ops g n ls'=true/\(∀ i,i<n->ls'.getD i false=true)/\K a') l.length ls a:=by
 induction l with
 |nil =>
  intro k ls a _ hk _ hf hB h
  obtain rfl:k=n:=by simpa using hk
  exact⟨by simpa[Region.lexHead] using hB,hf,h⟩
 |cons o l ih =>
  intro k ls a hl hk inv hf hB h
  have h0:ops[k]?=some o:=by simpa using (hl 0 (by simp)).symm
  simp only[List.length_cons,Region.lexHead,Bool.and_eq_true] at hB
  simp only[List.length_cons] at hk
  have hr:k∈Region.ready md ops ls:=by simpa using hB.1.1
  obtain⟨v,hy,hK⟩:=h
  have bi:k<n:=by omega
  refine yQ h0 (Region.noSelect_spec am) hs hc hn bi (λls' a' hL=>seqB_ready hL.1) l.length ls a inv (Region.free_spec h0 hB.1.2) hr hy ?_
  refine ih (k+1) _ _ (λj hj=>by have:=hl (j+1) (by simp;omega);simpa[Nat.add_assoc,Nat.add_comm 1 j] using this) (by omega) (inv.set hr bi) (λi hi=>?_) hB.2 hK
  by_cases e:k=i
  ·subst e
   have bm:k<ls.size:=by
    have h1:=(mem_ready.1 hr).1
    rcases Nat.lt_or_ge k ls.size with h|h
    ·exact h
    simp[Array.getElem?_eq_none h] at h1
   simp[bm]
  rw[getD_set_ne false e]
  exact hf i (by omega)
structure Sg(C:World->Prop)(n0:Nat)(mk:Nat->Option qo)(ls:Array Bool)(σ:Nat->Option Nat)(w:World):Prop where
 c:C w
 lo:n0<=w.heap.size
 at_:∀ i b,σ i=some b->n0<=b/\b<w.heap.size/\∃ m,mk i=some m/\w.heap[b]?=some m.ob
 inj:∀ i j b,σ i=some b->σ j=some b->i=j
 all:∀ i m,mk i=some m->ls.getD i false=true->σ i≠none
 un:∀ i,σ i≠none->ls.getD i false=true
def Bs(n0:Nat)(σ:Nat->Option Nat)(β:Nat->Nat):Prop:=(∀ i,n0<=β i)/\(∀ i j,i≠j->β i≠β j)/\∀ i b,σ i=some b->β i=b
theorem Sg.ex{ls:Array Bool}{σ:Nat->Option Nat}{w:World}(h:Sg C n0 mk ls σ w):∃ β,Bs n0 σ β:=by
 refine⟨λi=>match σ i with|some b=>b|none=>w.heap.size+i,λi=>?_,λi j b9=>?_,λi b hi=>by simp[hi]⟩
 ·cases hi:σ i with
  |none=>dsimp only;rw[hi];have:=h.lo;dsimp only;omega
  |some b=>dsimp only;rw[hi];exact (h.at_ i b hi).1
 cases hi:σ i with
 |none =>
  cases hj:σ j with
  |none=>simp[hi,hj];omega
  |some c=>simp[hi,hj];have:=(h.at_ j c hj).2.1;omega
 |some b =>
  cases hj:σ j with
  |none=>simp[hi,hj];have:=(h.at_ i b hi).2.1;omega
  |some c =>
   simp[hi,hj]
   intro e
   subst e
   exact b9 (h.inj i j b hi hj)
theorem Sg.keep{ls:Array Bool}{σ:Nat->Option Nat}{w:World}{i:Nat}(h:Sg C n0 mk ls σ w)(hi:mk i=none):Sg C n0 mk (ls.setIfInBounds i true) σ w:=by
 refine⟨h.c,h.lo,h.at_,h.inj,λj m hj hl=>?_,λj hj=>?_⟩
 ·have e:i≠j:=λe=>by rw[e,hj] at hi;cases hi
  rw[getD_set_ne false e] at hl
  exact h.all j m hj hl
 by_cases e:i=j
 ·obtain⟨b,hb⟩:=Option.ne_none_iff_exists'.1 hj
  obtain⟨-,-,m,hm,-⟩:=h.at_ j b hb
  rw[← e,hi] at hm
  cases hm
 rw[getD_set_ne false e]
 exact h.un j hj
theorem Sg.below{ls:Array Bool}{σ:Nat->Option Nat}{w w':World}(h:Sg C n0 mk ls σ w)(hc:C w')(hb:Below w.heap.size w w'):Sg C n0 mk ls σ w':=by
 refine⟨hc,Nat.le_trans h.lo hb.size,λi b hi=>?_,h.inj,h.all,h.un⟩
 obtain⟨h1,h2,m,h3,h4⟩:=h.at_ i b hi
 exact⟨h1,Nat.lt_of_lt_of_le h2 hb.size,m,h3,(hb.block b h2).trans h4⟩
theorem wM{g:Nat}{L:(Nat->Nat)->Array Bool->Act->Prop}{Q:Exit->Act->World->Prop}(bq:∀ w ob,C w->C (w.alloc ob))(hL:∀ ls a w σ,Sg C n0 mk ls σ w->(∀ β,Bs n0 σ β->L β ls a)->wpAny P md ops Q g ls a w)(f:Nat) :
 ∀ (ls:Array Bool) (a:Act) (w:World) (σ:Nat->Option Nat),Sg C n0 mk ls σ w->(∀ β,Bs n0 σ β->mv P md ops C mk cv β n (L β) f ls a)->wpAny P md ops Q (f+g) ls a w:=by
 induction f with
 |zero=>intro ls a w σ hs h;rw[Nat.zero_add];exact hL _ _ _ σ hs h
 |succ f ih =>
  intro ls a w σ hs h
  rw[Nat.succ_add]
  obtain⟨β0,bc⟩:=hs.ex
  refine⟨λh0=>absurd h0 (h β0 bc).1,λi hi=>?_⟩
  obtain⟨hu,o,ho,b5⟩:=mem_ready.1 hi
  have b8:∀ β,Bs n0 σ β->I3 mk β md o w:=λβ hβ x hx hb m hm=>by
   obtain⟨b,bI⟩:=Option.ne_none_iff_exists'.1 (hs.all x.on m hm (b5 x hx hb))
   obtain⟨-,-,m',bj,h4⟩:=hs.at_ x.on b bI
   rw[hm] at bj
   cases bj
   rw[hβ.2.2 _ b bI]
   exact h4
  have hM:∀ β,Bs n0 σ β->∃ v,d9 P md ops C mk cv β i o v a/\mv P md ops C mk cv β n (L β) f (ls.setIfInBounds i true) (a.put o.dst v):=λβ hβ=>by
   have h1:=((h β hβ).2 i hi).2
   unfold qD at h1
   simp only[ho] at h1
   exact h1
  unfold wpOp
  simp only[ho]
  by_cases hw:Region.wanted o (yielded ops a.tmps)=true
  ·rw[if_pos hw]
   refine .inl ?_
   unfold Oper.wp
   obtain⟨v0,a0,ci⟩:=hM β0 bc
   replace a0:mP P md C mk cv β0 i o a v0:=by
    rcases a0 with⟨-,h9⟩|⟨aa,-⟩
    ·exact h9
    rw[hw] at aa;cases aa
   unfold mP at a0
   cases ad:mk i with
   |some m =>
    rw[ad] at a0
    rw[a0.1 w hs.c]
    show wpAny P md ops Q (f+g) _ (a.put o.dst (m.val w.heap.size)) (w.alloc m.ob)
    have bm:i<ls.size:=by
     rcases Nat.lt_or_ge i ls.size with h|h
     ·exact h
     simp[Array.getElem?_eq_none h] at hu
    have bk:σ i=none:=by
     cases bE:σ i with
     |none=>rfl
     |some b =>
      have h9:=hs.un i (by rw[bE];simp)
      simp[bm] at h9 hu
      rw[hu] at h9
      cases h9
    refine ih _ _ _ (λj=>if j=i then some w.heap.size else σ j) ⟨bq _ _ hs.c,by simp only[World.size_alloc];have:=hs.lo;omega,λj b hj=>?_,λj k b hj hk=>?_,λj m' hj hl=>?_,λj hj=>?_⟩ λβ hβ=>?_
    ·by_cases e:j=i
     ·rw[if_pos e] at hj
      cases hj
      exact⟨hs.lo,by simp,m,e ▸ ad,heap_alloc_new w _⟩
     rw[if_neg e] at hj
     obtain⟨h1,h2,m',h3,h4⟩:=hs.at_ j b hj
     exact⟨h1,by simp only[World.size_alloc];omega,m',h3,(Below.heap_alloc w _ _ h2).trans h4⟩
    ·by_cases e:j=i
     ·rw[if_pos e] at hj
      cases hj
      by_cases e2:k=i
      ·rw[e,e2]
      rw[if_neg e2] at hk
      have:=(hs.at_ k _ hk).2.1
      omega
     rw[if_neg e] at hj
     by_cases e2:k=i
     ·rw[if_pos e2] at hk
      cases hk
      have:=(hs.at_ j _ hj).2.1
      omega
     rw[if_neg e2] at hk
     exact hs.inj j k b hj hk
    ·by_cases e:j=i
     ·rw[if_pos e];simp
     rw[if_neg e]
     rw[getD_set_ne false (Ne.symm e)] at hl
     exact hs.all j m' hj hl
    ·by_cases e:j=i
     ·rw[e];simp[bm]
     rw[if_neg e] at hj
     rw[getD_set_ne false (Ne.symm e)]
     exact hs.un j hj
    have hβ2:Bs n0 σ β:=⟨hβ.1,hβ.2.1,λj b hj=>hβ.2.2 j b (by
     have e:j≠i:=λe=>by rw[e,bk] at hj;cases hj
     show (if j=i then _ else σ j)=some b
     rw[if_neg e];exact hj)⟩
    obtain⟨v,hy,hk⟩:=hM β hβ2
    rcases hy with⟨-,hy⟩|⟨aa,-⟩
    ·unfold mP at hy
     rw[ad] at hy
     rw[hy.2,hβ.2.2 i w.heap.size (if_pos rfl)] at hk
     exact hk
    rw[hw] at aa;cases aa
   |none =>
    rw[ad] at a0
    cases hci:cv i with
    |some u =>
     dsimp only at a0
     rw[hci] at a0
     have aF:∀ β,Bs n0 σ β->mv P md ops C mk cv β n (L β) f (ls.setIfInBounds i true) (a.put o.dst u):=λβ hβ=>by
      obtain⟨v,hy,hk⟩:=hM β hβ
      rcases hy with⟨-,hy⟩|⟨aa,-⟩
      ·unfold mP at hy
       rw[ad] at hy
       dsimp only at hy
       rw[hci] at hy
       rw[hy.2] at hk
       exact hk
      rw[hw] at aa;cases aa
     have h3:=a0.1 w hs.c (b8 β0 bc)
     unfold Oper.quietAt at h3
     generalize (execOp a.eval o).run P w=r at *
     cases r with
     |ok nx w' =>
      cases nx<;>simp only[Oper.quietUpon] at h3<;>simp only[Oper.upon]
      case value u'=>rw[h3.1,h3.2];exact ih _ _ _ σ (hs.keep ad) aF
      case skip=>rw[h3.1,← h3.2];exact ih _ _ _ σ (hs.keep ad) aF
      case enter fn args =>
       rw[h3.1]
       refine h3.2.mono λe w'' hf=>?_
       obtain⟨rfl,hc,b7⟩:=hf
       exact ih _ _ _ σ ((hs.keep ad).below hc b7) aF
     |halt x w'=>simp only[Oper.quietUpon] at h3
    |none =>
     dsimp only at a0
     rw[hci] at a0
     have aF:∀ β,Bs n0 σ β->∃ v,o.quietAt P a (λ_=>False) w v/\mv P md ops C mk cv β n (L β) f (ls.setIfInBounds i true) (a.put o.dst v):=λβ hβ=>by
      obtain⟨v,hy,hk⟩:=hM β hβ
      rcases hy with⟨-,hy⟩|⟨aa,-⟩
      ·unfold mP at hy
       rw[ad] at hy
       dsimp only at hy
       rw[hci] at hy
       exact⟨v,hy w hs.c,hk⟩
      rw[hw] at aa;cases aa
     have h3:=a0 w hs.c
     unfold Oper.quietAt at h3 aF
     generalize (execOp a.eval o).run P w=r at *
     cases r with
     |ok nx w' =>
      cases nx<;>simp only[Oper.quietUpon] at h3 aF<;>simp only[Oper.upon]
      case value u =>
       rw[h3.1]
       refine ih _ _ _ σ (hs.keep ad) λβ hβ=>?_
       obtain⟨v,⟨-,e⟩,hk⟩:=aF β hβ
       rw[e]
       exact hk
      case skip =>
       rw[h3.1]
       refine ih _ _ _ σ (hs.keep ad) λβ hβ=>?_
       obtain⟨v,⟨-,e⟩,hk⟩:=aF β hβ
       rw[e] at hk
       exact hk
      case enter fn args=>rw[h3.1];exact h3.2.mono λe w'' hf=>hf.2.elim
     |halt x w'=>simp only[Oper.quietUpon] at h3
  rw[if_neg hw]
  have ad:mk i=none:=by
   obtain⟨v,hy,-⟩:=hM β0 bc
   rcases hy with⟨aa,-⟩|⟨-,h2,-⟩
   ·exact absurd aa hw
   exact h2
  refine ih _ _ _ σ (hs.keep ad) λβ hβ=>?_
  obtain⟨v,hy,hk⟩:=hM β hβ
  rcases hy with⟨aa,-⟩|⟨-,-,rfl⟩
  ·exact absurd aa hw
  exact hk
theorem jD{id:Nat}{Q:Exit->Act->World->Prop}{a:Act}{w:World}{l:List Oper}(n:Nat)(mk:Nat->Option qo)(cv:Nat->Option Value)(hm:P.follows .mixedOrders=true)(hB:Region.lexTailB .any l.toArray n=true)(hC:C { w with drawn:=w.drawn+1 })(bq:∀ w ob,C w->C (w.alloc ob))(ca:∀ i m,mk i=some m->i<n)
 (h:∀ β:Nat->Nat,(∀ i,w.heap.size<=β i)->(∀ i j,i≠j->β i≠β j)->kZ P .any l.toArray C mk cv β (λa'=>∀ w',C w'->(∀ i m,mk i=some m->w'.heap[β i]?=some m.ob)->wpList P l.toArray Q (l.drop n) a' w') (l.take n) 0 a):(Code.region id l.toArray true).wp P Q a w:=by
 simp only[Region.lexTailB,Bool.and_eq_true,decide_eq_true_eq] at hB
 obtain⟨⟨⟨⟨am,hn⟩,hs⟩,hc⟩,bv⟩:=hB
 have cc:n<l.length:=by simpa using hn
 have a9:(l.take n).length=n:=by simp;omega
 have inv0:HeadInv .any l.toArray n (Array.replicate l.toArray.size false):=⟨by simp,λj oj _ hl=>(by rw[getD_replicate_false] at hl;cases hl),λt _ ht=>getD_in (by simpa using ht) (getD_replicate_false _ _)⟩
 have H:∀ β,Bs w.heap.size (λ_=>none) β->_:=λβ hβ=>CP (md:=.any) (g:=l.toArray.size-n) am hs hc hn (l.take n) 0 _ a (λj hj=>by rw[a9] at hj;simp[hj]) (by simpa using a9) inv0 (λi hi=>absurd hi (Nat.not_lt_zero i)) (by rw[a9];exact bv) (h β hβ.1 hβ.2.1)
 rw[a9] at H
 have H2:=wM (Q:=Q) (g:=l.toArray.size-n) bq (λls a' w' σ bp hL=>by
  obtain⟨β0,bc⟩:=bp.ex
  obtain⟨g1,g2,g3⟩:=hL β0 bc
  have:=wpAny_of_seq (md:=.any) (Q':=Q) (l.drop n) n ls a' w' (λj=>by simp[List.getElem?_drop]) (by rw[List.length_drop];exact g1) (g3 w' bp.c λi m hi=>by
   obtain⟨b,hb⟩:=Option.ne_none_iff_exists'.1 (bp.all i m hi (g2 i (ca i m hi)))
   obtain⟨-,-,m',bj,h4⟩:=bp.at_ i b hb
   rw[hi] at bj
   cases bj
   rw[bc.2.2 i b hb]
   exact h4)
  rwa [List.length_drop] at this) n _ a { w with drawn:=w.drawn+1 } (λ_=>none) ⟨hC,Nat.le_refl _,λi b hi=>(by cases hi),λi j b hi=>(by cases hi),λi m _ hl=>(by simp[Array.getD] at hl),λi hi=>absurd rfl hi⟩ H
 refine wp_region_any hm ?_
 rwa [show n+(l.toArray.size-n)=l.toArray.size by omega] at H2
theorem dh{k:Nat}{o:Oper}{rest:List Oper}{a:Act}{Q:Act->Prop}(hk:mk k=none)(hc:cv k=none)(h:∀ K:Act->Prop,(∀ a,kZ P md ops C mk cv β Q rest (k+1) a->K a)->if Region.wanted o (yielded ops a.tmps) then (∃ v,(∀ w,C w->o.quietAt P a (λ_=>False) w v)/\K (a.put o.dst v)) else K (a.put o.dst undef)):kZ P md ops C mk cv β Q (o :: rest) k a:=by
 have h1:=h _ λ_ h=>h
 unfold kZ d9 mP
 rw[hk,hc]
 by_cases hw:Region.wanted o (yielded ops a.tmps)=true
 ·rw[if_pos hw] at h1
  obtain⟨v,h2,h3⟩:=h1
  exact⟨v,.inl ⟨hw,h2⟩,h3⟩
 rw[if_neg hw] at h1
 exact⟨undef,.inr ⟨by simpa using hw,rfl,rfl⟩,h1⟩
theorem iZ{k:Nat}{o:Oper}{rest:List Oper}{a:Act}{Q:Act->Prop}{u:Value}(hk:mk k=none)(hc:cv k=some u)(hw:Region.wanted o (yielded ops a.tmps)=true)(h:∀ w,C w->I3 mk β md o w->o.quietAt P a (λw'=>C w'/\Below w.heap.size w w') w u)(h2:kZ P md ops C mk cv β Q rest (k+1) (a.put o.dst u)):kZ P md ops C mk cv β Q (o :: rest) k a:=by
 unfold kZ d9 mP
 rw[hk,hc]
 exact⟨_,.inl ⟨hw,h,rfl⟩,h2⟩
theorem fe{k:Nat}{o:Oper}{rest:List Oper}{a:Act}{Q:Act->Prop}{m:qo}(hk:mk k=some m)(hw:Region.wanted o (yielded ops a.tmps)=true)(h:∀ w,C w->(execOp a.eval o).run P w=.ok (.value (m.val w.heap.size)) (w.alloc m.ob))(h2:kZ P md ops C mk cv β Q rest (k+1) (a.put o.dst (m.val (β k)))):kZ P md ops C mk cv β Q (o :: rest) k a:=by
 unfold kZ d9 mP
 rw[hk]
 exact⟨_,.inl ⟨hw,h,rfl⟩,h2⟩
end
end
end
end Go.Proofs.YtgbnicokglpdbaaGreatDoor
