/-
  The contracts of temper's beginnings and of the iterator that it hands back: all beginnings come, in their order; condition: the ring is valid. A loop over the beginnings of a ring whose body never leaves early: what holds between the rounds holds behind it; condition: what each round keeps. The contract of temper.Best: the cheapest steps of a valid ring, of several the least ones, or the error that the document names.
-/
import Derived.Test.YtjibohkeapdalaaGreatDoorBe
import Derived.WalkMore
import Derived.Scope
import Derived.Deep.LoopGhost
namespace Go.Proofs.YtjibohkeapdalaaGreatDoor
set_option maxHeartbeats 8000000
set_option maxRecDepth 100000
section
open Go.RowKit Go.Shelf
attribute [local go_sem] Oper.semAt_some
theorem grown_set(W:World)(g i:Nat)(v:Value):W.grownBy (W.setCell ⟨g,i,none⟩ v) (some g):=
 ⟨rfl,rfl,rfl,by simp[World.setCell],λj _ hj=>Below.heap_setCell W ⟨g,i,none⟩ v j (λe=>hj (by dsimp only at e;rw[e]))⟩
theorem grown_below{W W':World}(h:Below W.heap.size W W'):W.grownBy W' none:=⟨h.os,h.tape,h.output,h.size,λk hk _=>h.block k hk⟩
theorem beginnings_any(r:Rg)(A B:Option Addr)(n c m d:Nat)(w:World) :
 Calls Tryz.prog 29 #[.agg #[.int .i64 r.N,.int .i64 r.S,.int .i64 r.low,.int .i64 r.high,.int .i64 r.total,.int .i64 r.pure,.int .i64 r.worst,.slice A n c,.slice B m d]] w λe w'=>e=.returned (.func (.func 72) #[] #[.pointer (some ⟨w.heap.size,0,none⟩)])/\w'=w.alloc (.cells #[.int .i64 r.N,.int .i64 r.S,.int .i64 r.low,.int .i64 r.high,.int .i64 r.total,.int .i64 r.pure,.int .i64 r.worst,.slice A n c,.slice B m d] 24):=by
 refine calls_cps ?_
 intro R hR
 go_enter Tryz.func29,Tryz.ntmps29
 go_wp2
 exact hR.out _ _ ⟨rfl,rfl⟩
theorem begs_in(nf l:Nat)(hnf:2<=nf)(S:Nat->Prop)(r:Rg)(hr:r.Ok)(A B:Option Addr)(n c m d bx:Nat)(J:List (List Int)->World->Prop)(W:World)
 (hJ:∀ s W1 W2 row,J s W1->W1.grownBy W2 row->(∀ k,row=some k->k=W.heap.size)->J s W2)
 (hY:∀ pre first rest a e W1,pre++first :: rest=r.begs->J pre W1->SlE intE 1 W1 (some a) (r.S-1) first->W.heap.size<a.block->YieldAt Fence.wide (nf-1) Tryz.prog l #[.slice (some a) (r.S-1) e] W1 λen W' =>
  en=.returned (.bool true)/\J (pre++[first]) W'/\Kx S W1 W')
 (hS:∀ j,S j->j<W.heap.size) (hbx:W.heap[bx]?=some (.cells #[.int .i64 r.N,.int .i64 r.S,.int .i64 r.low,.int .i64 r.high,.int .i64 r.total,.int .i64 r.pure,.int .i64 r.worst,.slice A n c,.slice B m d] 24)) (hSb:¬ S bx) (h0:J [] W) :
 CallsIn Fence.wide nf Tryz.prog 72 #[.func (.yield l) #[] #[],.pointer (some ⟨bx,0,none⟩)] W λen W'=>(∃ v,en=.returned v)/\J r.begs W':=by
 refine callsIn_cps ?_
 intro R hR
 have Hok:=zh hr
 have HJ:=zh hJ
 have HY:=zh hY
 have HS:=zh hS
 have hbxl:bx<W.heap.size:=(Array.getElem?_eq_some_iff.1 hbx).1
 have Hbx:=zh hbx
 obtain⟨c0,c1,c2,c3,c4,c5,c6,c7,c8,cf⟩:=ring9 hbx
 have s1:=hr.s1
 have s2:=hr.s2
 have n2:=hr.n2
 clear hJ hY hS hbx hr
 have hFw:∀ f,Fence.wide.fn f:=λ_=>trivial
 have hmk:=run_mkInt (r.S-1) (by omega)
 have hSm:((r.S-1:Nat):Int)=(r.S:Int)-1:=by omega
 rw[hSm] at hmk
 refine callsIn_of_wp Tryz.func72 rfl trivial ?_ rfl
 simp only[Tryz.ntmps72,List.size_toArray,List.length_cons,List.length_nil,Nat.reduceAdd,Nat.reduceSub,Array.replicate_succ,Array.replicate_zero,List.push_toArray,List.append_toArray,List.nil_append,List.cons_append]
 refine wpIn_wide.2 ?_
 refine wp_scope_straight ?_
 go_wp2_with fail
 have hb1:=below_new W (.cells (madeCells #[Value.int .i64 0] (r.S-1)) 3)
 have hj1:=HJ.out [] _ _ none h0 (World.grownBy_alloc W (.cells (madeCells #[Value.int .i64 0] (r.S-1)) 3) none) (λk hk=>by cases hk)
 have hbk1:Blk (W.alloc (.cells (madeCells #[Value.int .i64 0] (r.S-1)) 3)) W.heap.size (List.replicate (r.S-1) 0):=Blk.made (heap_alloc_new W _)
 obtain⟨W1,hW1⟩:∃ W1,W.alloc (.cells (madeCells #[Value.int .i64 0] (r.S-1)) 3)=W1:=⟨_,rfl⟩
 rw[hW1] at hb1 hj1 hbk1 ⊢
 obtain⟨g,hg⟩:∃ g,W.heap.size=g:=⟨_,rfl⟩
 rw[hg] at hbk1 HJ HY HS hbxl ⊢
 have Hb1:=zh hb1
 have Hj1:=zh hj1
 have Hbk1:=zh hbk1
 have Hg:=zh hg
 obtain⟨N,hN⟩:∃ N,r.S-1=N:=⟨_,rfl⟩
 have hNi:(r.S:Int)-1=(N:Int):=by omega
 have hN3:N<=3:=by omega
 have hN1:1<=N:=by omega
 have HN:=zh hN
 rw[hN] at HY hbk1 ⊢
 clear hb1 hj1 hbk1 hW1 hg hmk hSm h0 c0 c1 c2 c3 c4 c5 c6 c7 c8 cf hN
 rw[hNi]
 have hbx1:W1.heap[bx]?=some (.cells #[.int .i64 r.N,.int .i64 r.S,.int .i64 r.low,.int .i64 r.high,.int .i64 r.total,.int .i64 r.pure,.int .i64 r.worst,.slice A n c,.slice B m d] 24):=(Hb1.out.block bx (by rw[Hg.out];exact hbxl)).trans Hbx.out
 have Hbx1:=zh hbx1
 rw[HN.out] at Hbk1
 have HNi:=zh hNi
 clear hbx1 Hbx hNi
 have r1:=Hok.out.l1
 have r2:=Hok.out.l2
 have r3:=Hok.out.h1
 have r4:=Hok.out.h2
 go_loopw [12] (λi wr=>∃ k:Nat,k<=N/\i=.int .i64 (k:Nat)/\Blk wr g (List.replicate k r.low++List.replicate (N-k) 0)/\J [] wr/\wr.heap[bx]?=some (.cells #[.int .i64 r.N,.int .i64 r.S,.int .i64 r.low,.int .i64 r.high,.int .i64 r.total,.int .i64 r.pure,.int .i64 r.worst,.slice A n c,.slice B m d] 24)) (λi _=>N-(intOf i).toNat)
 case atStart=>exact⟨0,Nat.zero_le _,rfl,by simpa using Hbk1.out,Hj1.out,Hbx1.out⟩
 case round =>
  obtain⟨k,hk,rfl,hbk,hj,hbox⟩:=hrel
  obtain⟨wo,rfl⟩:∃ wo:World,wo=wr:=⟨_,rfl⟩
  by_cases hlt:k<N
  ·obtain⟨c0,c1,c2,c3,c4,c5,c6,c7,c8,cf⟩:=ring9 hbox
   have hc0:wo.cell? ⟨g,k,none⟩=some (.int .i64 0):=hbk.cell (by rw[List.getElem?_append_right (by simp),List.length_replicate,Nat.sub_self,List.getElem?_replicate];rw[if_pos (by omega)])
   have hf0:=hbk.frozen k
   have Hs:=zh (hbk.set k r.low)
   have Hj2:=zh (HJ.out [] _ _ (some g) hj (grown_set wo g k (.int .i64 r.low)) (λk hk=>by injection hk with hk;exact hk.symm))
   have Hbox2:=zh ((Below.heap_setCell wo ⟨g,k,none⟩ (.int .i64 r.low) bx (by dsimp only;omega)).trans hbox)
   clear hbk hj hbox
   go_wp2_with fail
   refine⟨⟨k+1,by omega,by go_num,?_,Hj2.out,Hbox2.out⟩,by simp[intOf];omega⟩
   have h:=Hs.out
   rw[List.set_append_right _ _ (by simp),List.length_replicate,Nat.sub_self,show N-k=(N-(k+1))+1 by omega,List.replicate_succ,List.set_cons_zero] at h
   rw[List.replicate_succ',List.append_assoc]
   exact h
  ·obtain rfl:k=N:=by omega
   rw[Nat.sub_self,List.replicate_zero,List.append_nil] at hbk
   have Hbk:=zh hbk
   have Hj:=zh hj
   have Hbox:=zh hbox
   clear hbk hj hbox
   have h64:4 ^ k<=64:=by
    obtain e|e|e:k=1\/k=2\/k=3:=by omega
    all_goals subst e;decide
   have H64:=zh h64
   clear h64
   go_wp2_with fail
   go_step3
   go_wp2_with fail
   go_loopg [5] 64 (λgk s5 wr=>∃ (pre:List (List Int)) (cur:List Int),Hid (pre++seqO r.low r.high gk cur=r.begs/\VL r.low r.high k cur/\4 ^ k<=rk r.low cur+gk)/\Blk wr g cur/\J pre wr/\wr.heap[bx]?=some (.cells #[.int .i64 r.N,.int .i64 r.S,.int .i64 r.low,.int .i64 r.high,.int .i64 r.total,.int .i64 r.pure,.int .i64 r.worst,.slice A n c,.slice B m d] 24))
   case atStart=>exact⟨[],_,zh ⟨by unfold Rg.begs;rw[HN.out];rfl,lows_VL Hok.out k,by have:=H64.out;omega⟩,Hbk.out,Hj.out,Hbox.out⟩
   case round =>
    clear Hbk Hj Hbox
    obtain⟨pre,cur,HV,hbk,hj,hbox⟩:=hrel
    obtain⟨wo,rfl⟩:∃ wo:World,wo=wr:=⟨_,rfl⟩
    have hrk:=rk_lt Hok.out.h2 HV.out.2.1
    obtain⟨f,rfl⟩:∃ f,gk=f+1:=⟨gk-1,by have:=HV.out.2.2;omega⟩
    have hcl:=HV.out.2.1.1
    have hsl:=hbk.sl hcl.symm
    have Hcl:=zh hcl
    have HE:=zh (show pre++cur :: (match odo r.low r.high cur with|none=>[]|some l'=>seqO r.low r.high f l')=r.begs from HV.out.1)
    have Hbk:=zh hbk
    have Hj:=zh hj
    have Hbox:=zh hbox
    have hgl:=hbk.lt
    clear hbk hj hbox hrk hcl
    refine (wpIn_wide (n:=nf)).1 ?_
    gi_wp2_with fail
    refine⟨λ_=>by omega,?_⟩
    refine (callsIn_wide.2 (clone_any ⟨g,0,none⟩ k k cur _ hsl (by omega))).mono ?_
    rintro en w2 ⟨A2,e2,rfl,ho2,hb2⟩
    obtain⟨g2,cg,hv2,hg21,hg22⟩:=ho2.form (by omega)
    have hA2:A2=some ⟨g2,0,none⟩:=by injection hv2
    subst hA2
    have Hbk2:=zh (Hbk.out.of_eq (hb2.block g hgl))
    have Hj2:=zh (HJ.out pre _ _ none Hj.out (grown_below hb2) (λk hk=>by cases hk))
    have Hbox2:=zh ((hb2.block bx (Array.getElem?_eq_some_iff.1 Hbox.out).1).trans Hbox.out)
    obtain⟨fn,tmps,assign,body,hy0,hR0⟩:=HY.out pre cur _ ⟨g2,0,none⟩ e2 w2 HE.out Hj2.out (SlE.of_own ho2 Hcl.out.symm) (by dsimp only;omega)
    have hgl2:g<w2.heap.size:=by omega
    clear hv2 hb2 hg21 hg22 Hbk Hj Hbox hsl hgl ho2
    gi_wp2_with fail
    refine⟨λ_=>by omega,hR0.mono ?_⟩
    clear hy0 hR0
    rintro en w3 ⟨rfl,hj3,hk3⟩
    have Hbk3:=zh (Hbk2.out.of_eq (hk3.block g hgl2 (λh=>by have:=HS.out g h;omega)))
    have Hbox3:=zh ((hk3.block bx (Array.getElem?_eq_some_iff.1 Hbox2.out).1 hSb).trans Hbox2.out)
    have Hj3:=zh hj3
    clear hk3 hj3 hgl2 Hj2 Hbk2 Hbox2
    gi_wp2_with fail
    refine wpIn_wide.2 ?_
    go_loopw [5] (λs5 wr=>∃ (i:Nat) (a:Int),i<=k/\s5=.int .i64 a/\(i:Int)-1<=a/\a<=(i:Int)-1/\Hid (∀ x∈cur.drop i,x=r.high)/\Blk wr g (cur.take i++List.replicate (k-i) r.low)/\J (pre++[cur]) wr/\wr.heap[bx]?=some (.cells #[.int .i64 r.N,.int .i64 r.S,.int .i64 r.low,.int .i64 r.high,.int .i64 r.total,.int .i64 r.pure,.int .i64 r.worst,.slice A n c,.slice B m d] 24)) (λs5 _=>(intOf s5+1).toNat)
    case atStart=>exact⟨k,_,Nat.le_refl _,rfl,Int.le_refl _,Int.le_refl _,zh (by rw[List.drop_of_length_le (by rw[Hcl.out];exact Nat.le_refl _)];simp),by rw[List.take_of_length_le (by rw[Hcl.out];exact Nat.le_refl _),Nat.sub_self,List.replicate_zero,List.append_nil];exact Hbk3.out,Hj3.out,Hbox3.out⟩
    case round =>
     clear Hbk3 Hj3 Hbox3
     obtain⟨i,a,hi,rfl,a1,a2,Hhi,hbk,hj,hbox⟩:=hrel
     obtain⟨wi,rfl⟩:∃ wi:World,wi=wr:=⟨_,rfl⟩
     by_cases h0:1<=i
     ·obtain⟨j,rfl⟩:∃ j,i=j+1:=⟨i-1,by omega⟩
      obtain rfl:a=(j:Int):=by omega
      clear a1 a2
      obtain⟨c0,c1,c2,c3,c4,c5,c6,c7,c8,cf⟩:=ring9 hbox
      have hjc:j<cur.length:=by rw[Hcl.out];omega
      obtain⟨x,hx⟩:∃ x,cur[j]?=some x:=⟨_,List.getElem?_eq_getElem hjc⟩
      have hxb:=HV.out.2.1.2 x (List.mem_of_getElem? hx)
      have htk:cur.take (j+1)=cur.take j++[x]:=by
       rw[List.take_succ_eq_append_getElem hjc];congr 1;rw[List.getElem?_eq_getElem hjc] at hx;injection hx with hx;rw[hx]
      have hlen:(cur.take j).length=j:=by rw[List.length_take];omega
      have hcell:wi.cell? ⟨g,j,none⟩=some (.int .i64 x):=hbk.cell (by rw[htk,List.append_assoc,List.getElem?_append_right (by omega),hlen,Nat.sub_self];rfl)
      have hfr:=hbk.frozen j
      have hset:∀ v,(cur.take (j+1)++List.replicate (k-(j+1)) r.low).set j v=cur.take j++v :: List.replicate (k-(j+1)) r.low:=λv=>by
       rw[htk,List.append_assoc,List.set_append_right _ _ (by omega),hlen,Nat.sub_self];rfl
      have hcat:cur=cur.take j++x :: cur.drop (j+1):=by
       have:=List.take_append_drop (j+1) cur
       rw[htk,List.append_assoc] at this
       exact this.symm
      have hdl:(cur.drop (j+1)).length=k-(j+1):=by rw[List.length_drop,Hcl.out]
      have hgb:∀ q v,(wi.drewN q).grownBy ((wi.drewN q).setCell ⟨g,j,none⟩ v) (some g):=λq v=>grown_set _ _ _ _
      have Hs:=zh (λ(q:Nat) (v:Int)=>show Blk ((wi.drewN q).setCell ⟨g,j,none⟩ (.int .i64 v)) g _ from (Blk.of_eq (W':=wi.drewN q) hbk rfl).set j v)
      have Hj2:=zh (λ(q:Nat) (v:Value)=>HJ.out (pre++[cur]) _ _ (some g) (HJ.out (pre++[cur]) _ (wi.drewN q) none hj (grown_below (below_drewN (Below.refl _ _) q)) (λk hk=>by cases hk)) (grown_set (wi.drewN q) g j v) (λk hk=>by injection hk with hk;exact hk.symm))
      have Hb2:=zh (λ(q:Nat) (v:Value)=>(Below.heap_setCell (wi.drewN q) ⟨g,j,none⟩ v bx (by dsimp only;omega)).trans hbox)
      have Hset:=zh hset
      have hj0:(0:Int)<=(j:Int):=by omega
      have hjk:(j:Int)<(k:Int):=by omega
      by_cases hxh:x<r.high
      ·have hod:=odo_at (lo:=r.low) (pre:=cur.take j) Hhi.out hxh
       rw[← hcat,hdl] at hod
       have HE2:=zh (show (pre++[cur])++seqO r.low r.high f (cur.take j++(x+1) :: List.replicate (k-(j+1)) r.low)=r.begs by
        have:=HE.out
        rw[hod] at this
        rw[List.append_assoc]
        exact this)
       have hvl:=(odo_some HV.out.2.1 hod).1
       have hrk:=rk_odo Hok.out.h2 HV.out.2.1 hod
       have HV2:=zh (show VL r.low r.high k (cur.take j++(x+1) :: List.replicate (k-(j+1)) r.low)/\4 ^ k<=rk r.low (cur.take j++(x+1) :: List.replicate (k-(j+1)) r.low)+f from ⟨hvl,by have:=HV.out.2.2;omega⟩)
       have hdc:decide (x<r.high)=true:=by simp[hxh]
       clear hod hvl hrk hx htk hlen hset hcat hdl hgb hbk hj hbox
       go_wp2_with fail
       go_quiet (fail)
       go_wp2_with fail
       go_roundg f
       case measure=>omega
       case rel=>exact⟨pre++[cur],_,zh ⟨HE2.out,HV2.out.1,HV2.out.2⟩,by rw[← Hset.out];exact Hs.out nq _,by exact Hj2.out nq _,by exact Hb2.out nq _⟩
      ·have hxe:x=r.high:=by omega
       have Hhi2:=zh (show ∀ y∈cur.drop j,y=r.high from λy hy=>by
        rw[List.drop_eq_getElem_cons hjc] at hy
        rw[List.getElem?_eq_getElem hjc] at hx
        injection hx with hx
        rcases List.mem_cons.1 hy with hy|hy
        ·rw[hy,hx,hxe]
        ·exact Hhi.out y hy)
       have hdc:decide (x<r.high)=false:=by simp[hxe]
       clear hx htk hlen hset hcat hdl hgb hbk hj hbox
       go_wp2_with fail
       go_quiet (fail)
       go_wp2_with fail
       refine⟨⟨j,(j:Int)-1,by omega,rfl,Int.le_refl _,Int.le_refl _,Hhi2,?_,by exact Hj2.out nq _,by exact Hb2.out nq _⟩,by simp[intOf]<;>omega⟩
       have h:=Hs.out nq r.low
       rw[Hset.out] at h
       rw[show k-j=(k-(j+1))+1 by omega,List.replicate_succ]
       exact h
     ·obtain rfl:i=0:=by omega
      obtain rfl:a = -1:=by omega
      have hon:=odo_highs (lo:=r.low) (hi:=r.high) (s:=cur) (λx hx=>Hhi.out x (by simpa using hx))
      have Hf:=zh (show ∀ v,R (.returned v) wi from λv=>hR.out _ _ ⟨⟨_,rfl⟩,by
       have:=HE.out
       rw[hon] at this
       rw[← this];exact hj⟩)
      clear hon hbk hj hbox hR a1 a2
      go_wp2_with fail
      refine wpIn_wide.2 ?_
      go_wp2_with fail
      rw[Exit.noGoto_ret]
      go_end0
      exact Hf.out _
end
section
open Go.RowKit Go.Shelf
theorem each_begs{nf:Nat}(hnf:4<=nf){gop:Operand}{p:Tmp}{assign body:Code}{Q:Exit->Act->World->Prop}{a:Act}{W2:World}(r:Rg)(hr:r.Ok)(A B:Option Addr)(n c m d bx:Nat)
 (hg:a.eval gop=.func (.func 72) #[] #[.pointer (some ⟨bx,0,none⟩)]) (eg:∀ args w,(callFunc 72 args).run Tryz.prog w=.ok (.enter 72 args) w) (hbx:W2.heap[bx]?=some (.cells #[.int .i64 r.N,.int .i64 r.S,.int .i64 r.low,.int .i64 r.high,.int .i64 r.total,.int .i64 r.pure,.int .i64 r.worst,.slice A n c,.slice B m d] 24))
 (S:Nat->Prop) (hS:∀ j,S j->j<W2.heap.size) (hSb:¬ S bx)
 (I:List (List Int)->World->Prop) (hI:∀ s X Y row,I s X->X.grownBy Y row->(∀ k,row=some k->W2.heap.size<=k/\k<=W2.heap.size+2)->I s Y) (h0:I [] W2)
 (Ac:Addr->Nat->Act) (hassign:∀ (l:Nat) (x:Addr) (e:Nat) (W:World) (K:Act->World->Prop),K (Ac x e) W->assign.wpIn (Fence.wide.inRound l) (nf-1-1) Tryz.prog (Exit.then K (λ_ _ _=>False)) { tmps:=a.tmps.setIfInBounds p (.slice (some x) (r.S-1) e),defers:=[] } W)
 (hround:∀ (l:Nat) (pre:List (List Int)) (first:List Int) (rest:List (List Int)) (x:Addr) (e:Nat) (W:World),pre++first :: rest=r.begs->I pre W->SlE intE 1 W (some x) (r.S-1) first->W2.heap.size+2<x.block->W2.heap.size+2<W.heap.size->
  body.wpIn (Fence.wide.inRound l) (nf-1-1) Tryz.prog (λex _ W3=>ex=.normal/\I (pre++[first]) W3/\Kx S W W3) (Ac x e) W)
 (hdone:∀ D W,W.heap[D]?=some (.deferred (some []))->W2.heap.size<=D->D<=W2.heap.size+2->D<W.heap.size->I r.begs W->Q .normal { a with defers:={ target:=.collected D,args:=#[] } :: a.defers } W) :
 (Code.rangeFunc gop #[p] assign body).wpIn Fence.wide nf Tryz.prog Q a W2:=by
 refine wpIn_rangeFunc ?_
 intro fn hfn
 obtain⟨rec,hrec⟩:∃ rec:LoopState->Loop,rec=λst=>{ state:=st,pending:=none,fn:=fn,tmps:=a.tmps,params:=#[p],assign:=assign,body:=body,defers:=W2.heap.size }:=⟨_,rfl⟩
 obtain⟨W3,hW3⟩:∃ W3,(W2.alloc (.deferred (some []))).alloc (.loop (rec .ready))=W3:=⟨_,rfl⟩
 have hsz3:W3.heap.size=W2.heap.size+2:=by rw[← hW3];simp
 have hL:W3.heap[W2.heap.size+1]?=some (.loop (rec .ready)):=by
  have h:=heap_alloc_new (W2.alloc (.deferred (some []))) (.loop (rec .ready))
  rw[World.size_alloc] at h
  rw[← hW3];exact h
 have hK:W3.heap[W2.heap.size]?=some (.deferred (some [])):=by
  rw[← hW3,Below.heap_alloc _ _ _ (by simp)];exact heap_alloc_new W2 _
 have hI3:I [] W3:=by
  rw[← hW3]
  exact hI _ _ _ none (hI _ _ _ none h0 (World.grownBy_alloc W2 _ none) (λk e=>by cases e)) (World.grownBy_alloc _ _ none) (λk e=>by cases e)
 have hbx3:W3.heap[bx]?=some (.cells #[.int .i64 r.N,.int .i64 r.S,.int .i64 r.low,.int .i64 r.high,.int .i64 r.total,.int .i64 r.pure,.int .i64 r.worst,.slice A n c,.slice B m d] 24):=by
  have hlt:=(Array.getElem?_eq_some_iff.1 hbx).1
  rw[← hW3,Below.heap_alloc _ _ _ (by simp;omega),Below.heap_alloc _ _ _ hlt];exact hbx
 refine⟨W2.heap.size+1,[{ target:=.collected W2.heap.size,args:=#[] }],W3,{ target:=.fn (.func 72) #[.pointer (some ⟨bx,0,none⟩)],args:=#[.func (.yield (W2.heap.size+1)) #[] #[]] },W3,72,
  #[.func (.yield (W2.heap.size+1)) #[] #[],.pointer (some ⟨bx,0,none⟩)],W3,?_,?_,λf' hf'=>trivial,?_,λ_=>by omega,?_⟩
 ·rw[← hW3,hrec];exact run_enterLoop_outer _ _ _ _ _
 ·simp only[resolve,hg]
  simp[go_sem]
 ·simp[invoke,go_sem,eg]
 refine (begs_in (nf-1) (W2.heap.size+1) (by omega) (λj=>S j\/j=W2.heap.size+1) r hr A B n c m d bx (λs W=>I s W/\W.heap[W2.heap.size+1]?=some (.loop (rec .ready))/\W.heap[W2.heap.size]?=some (.deferred (some []))) W3 ?_ ?_ (λj hj=>by rcases hj with hj|hj;(have:=hS j hj;omega);omega) hbx3 (λhj=>by rcases hj with hj|hj;exact hSb hj;have:=(Array.getElem?_eq_some_iff.1 hbx).1;omega) ⟨hI3,hL,hK⟩).mono ?_
 ·rintro s X Y row ⟨k1,k2,k3⟩ hgr hrow
  rw[hsz3] at hrow
  refine⟨hI s X Y row k1 hgr (λk e=>by have:=hrow k e;omega),(hgr.block _ (Array.getElem?_eq_some_iff.1 k2).1 (λe=>?_)).trans k2,(hgr.block _ (Array.getElem?_eq_some_iff.1 k3).1 (λe=>?_)).trans k3⟩
  ·have:=hrow _ e.symm;omega
  ·have:=hrow _ e.symm;omega
 ·rintro pre first rest x e W hp ⟨k1,k2,k3⟩ hsl hx
  rw[hsz3] at hx
  have hlt:W2.heap.size+1<W.heap.size:=(Array.getElem?_eq_some_iff.1 k2).1
  have hy:=run_yield (P:=Tryz.prog) (args:=#[.slice (some x) (r.S-1) e]) k2 (by rw[hrec];rfl)
  have hy2:(Instr.yield (W2.heap.size+1) #[.slice (some x) (r.S-1) e]).run Tryz.prog W=.ok (.round (W2.heap.size+1) fn (a.tmps.setIfInBounds p (.slice (some x) (r.S-1) e)) assign body) W:=by
   rw[hy,hrec];simp
  refine⟨fn,_,assign,body,hy2,roundIn_of_wpIn hfn ?_⟩
  clear hy hy2
  refine hassign _ x e W _ ?_
  refine⟨_,run_beginRound k2 (by rw[hrec]),?_⟩
  obtain⟨Wb,hWb⟩:∃ Wb,W.putObj (W2.heap.size+1) (.loop { rec .ready with state:=.busy })=Wb:=⟨_,rfl⟩
  have hgb:W.grownBy Wb (some (W2.heap.size+1)):=by rw[← hWb];exact grownBy_putObj' W _ _
  have hlb:Wb.heap[W2.heap.size+1]?=some (.loop { rec .ready with state:=.busy }):=by rw[← hWb];exact World.putObj_heap_same hlt
  have hkb:Wb.heap[W2.heap.size]?=some (.deferred (some [])):=(hgb.block _ (Array.getElem?_eq_some_iff.1 k3).1 (by simp)).trans k3
  have hIb:=hI pre W Wb _ k1 hgb (λk e=>by injection e with e;omega)
  have hslb:=hsl.grown hgb (λ_ y hy=>by injection hy with hy;subst hy;simp;omega)
  have hgz:=hgb.size
  have hxl:x.block<W.heap.size:=by
   obtain⟨b',o',e',hb',_⟩:=hsl.2.2 (by have:=hr.s1;omega)
   injection e' with e'
   subst e'
   exact hb'
  rw[hWb]
  refine wpIn_mono (hround (W2.heap.size+1) pre first rest x e Wb hp hIb hslb hx (by omega)) ?_
  rintro ex a4 W4 ⟨rfl,hI4,hk4⟩
  have hl4:W4.heap[W2.heap.size+1]?=some (.loop { rec .ready with state:=.busy }):=(hk4.block _ (Array.getElem?_eq_some_iff.1 hlb).1 (λh=>by have:=hS _ h;omega)).trans hlb
  have hk4':W4.heap[W2.heap.size]?=some (.deferred (some [])):=(hk4.block _ (Array.getElem?_eq_some_iff.1 hkb).1 (λh=>by have:=hS _ h;omega)).trans hkb
  have hlt4:=(Array.getElem?_eq_some_iff.1 hl4).1
  refine⟨_,_,run_endRound none hl4,rfl,?_,?_⟩
  ·have hg5:W4.grownBy (W4.putObj (W2.heap.size+1) (.loop (rec .ready))) (some (W2.heap.size+1)):=grownBy_putObj' W4 _ _
   have e5:({ { rec .ready with state:=.busy } with state:=if (none:Option Code).isNone=true then LoopState.ready else .done,pending:=none }:Loop)=rec .ready:=by rw[hrec];rfl
   rw[e5]
   exact⟨hI _ _ _ _ hI4 hg5 (λk e=>by injection e with e;omega),World.putObj_heap_same hlt4,(World.putObj_heap_other (by omega)).trans hk4'⟩
  ·have k1:Kx (λj=>S j\/j=W2.heap.size+1) W Wb:=(Kx.refl _ _).grown hgb (λj hj=>.inl (.inr (by injection hj with hj;exact hj.symm)))
   have k2:=k1.trans hk4 (λj _ h=>.inl h)
   exact k2.grown (grownBy_putObj' W4 _ _) (λj hj=>.inl (.inr (by injection hj with hj;exact hj.symm)))
 ·rintro en W5 ⟨⟨v,rfl⟩,k1,k2,k3⟩
  have hlt:=(Array.getElem?_eq_some_iff.1 k2).1
  refine⟨none,_,by have:=run_endLoop (P:=Tryz.prog) k2 (by rw[hrec];simp);rw[hrec] at this;exact this,?_⟩
  refine hdone _ _ ((World.putObj_heap_other (by omega)).trans k3) (Nat.le_refl _) (by omega) ?_ (hI _ _ _ (some (W2.heap.size+1)) k1 (grownBy_putObj' W5 _ _) (λk e=>by injection e with e;omega))
  simp;omega
end
section
open Go.RowKit Go.Shelf
attribute [local go_sem] Oper.semAt_some
structure BesI(w W:World)(r:Rg)(A B:Option Addr)(n c m d bs g:Nat)(pre:List (List Int)):Prop where
 below:Below w.heap.size w W
 box:W.heap[w.heap.size]?=some (.cells #[.int .i64 r.N,.int .i64 r.S,.int .i64 r.low,.int .i64 r.high,.int .i64 r.total,.int .i64 r.pure,.int .i64 r.worst,.slice A n c,.slice B m d] 24)
 steps:∃ v,W.heap[bs]?=some (.cells #[v] 22 (0,0))/\(((pre.foldl r.stepB ([],-1)).2<0/\v=.slice none 0 0)\/∃ A' c',v=.slice A' r.N c'/\W.ownsRow w.heap.size 3 1 v r.N ((pre.foldl r.stepB ([],-1)).1.flatMap intE)/\∀ a,A'=some a->g<a.block)
 least:W.heap[bs+1]?=some (.cells #[.int .i64 (pre.foldl r.stepB ([],-1)).2] 3 (0,0))
theorem BesI.grown{w W W':World}{r:Rg}{A B:Option Addr}{n c m d bs g:Nat}{pre:List (List Int)}(h:BesI w W r A B n c m d bs g pre){row:Option Nat}(hg:W.grownBy W' row)(hbs:w.heap.size<bs)(hr:∀ k,row=some k->bs+1<k/\k<=g):BesI w W' r A B n c m d bs g pre:=by
 have hk:∀ j o,W.heap[j]?=some o->j<=bs+1->W'.heap[j]?=some o:=λj o ho hj=>(hg.block j (Array.getElem?_eq_some_iff.1 ho).1 (λe=>by have:=hr j e.symm;omega)).trans ho
 obtain⟨v,h1,h2⟩:=h.steps
 have hsz:=(Array.getElem?_eq_some_iff.1 h1).1
 refine⟨h.below.grown hg (by omega) (λk e=>by have:=hr k e;omega),hk _ _ h.box (by omega),⟨v,hk _ _ h1 (by omega),?_⟩,hk _ _ h.least (Nat.le_refl _)⟩
 rcases h2 with h2|⟨A',c',e,ho,ha⟩
 ·exact .inl h2
 ·refine .inr ⟨A',c',e,ho.kept hg ?_,ha⟩
  subst e
  cases A' with
  |none=>exact .inl rfl
  |some a =>
   refine .inr λe=>?_
   obtain⟨bl,o,hb',hh⟩:∃ bl o,a=⟨bl,o,none⟩/\True:=by
    rcases ho.2 with⟨e',_⟩|⟨g1,c1,cur1,e',_⟩
    ·simp at e'
    ·simp only[Value.slice.injEq,Option.some.injEq] at e'
     exact⟨_,_,e'.1,trivial⟩
   have h3:=ha a rfl
   rw[hb'] at h3 e
   simp only[Value.ownBlock] at e
   have:=hr _ e.symm
   dsimp only at h3
   omega
theorem costB_bd{r:Rg}(hr:r.Ok){first:List Int}(hg:∀ x∈first,r.low<=x/\x<=r.high):0<=r.costB first/\r.costB first<=675000:=by
 have h:=totF_bd (f:=λi=>r.fi.getD i 0*first.getD i 0*first.getD i 0) (M:=225000) (λi=>by
  have:=(wss_bd (wt_1000 hr i).1 (getD_bd (st_15 hr hg) (by omega) i) (by omega)).2
  omega) (r.S-1)
 have:=hr.s2
 unfold Rg.costB
 omega
theorem BesI.store{w W:World}{r:Rg}{A B:Option Addr}{n c m d bs:Nat}{pre:List (List Int)}{first st:List Int}{cs:Int}{A':Option Addr}{c' base:Nat}(h:BesI w W r A B n c m d bs (bs+5) pre)(hbs:w.heap.size<bs)
 (hst:(pre++[first]).foldl r.stepB ([],-1)=(st,cs)) (ho:W.ownsRow base 3 1 (.slice A' r.N c') r.N (st.flatMap intE)) (hbase:bs+5<base) :
 BesI w ((W.setCell ⟨bs,0,none⟩ (.slice A' r.N c')).setCell ⟨bs+1,0,none⟩ (.int .i64 cs)) r A B n c m d bs (bs+5) (pre++[first])/\Kx (λj=>j=bs\/j=bs+1) W ((W.setCell ⟨bs,0,none⟩ (.slice A' r.N c')).setCell ⟨bs+1,0,none⟩ (.int .i64 cs)):=by
 obtain⟨v,h1,h2⟩:=h.steps
 have s1:=setCell_cells (i:=0) (v:=.slice A' r.N c') h1
 have l1:=(Below.heap_setCell W ⟨bs,0,none⟩ (.slice A' r.N c') (bs+1) (by dsimp only;omega)).trans h.least
 have l2:=setCell_cells (i:=0) (v:=.int .i64 cs) l1
 have s2:=(Below.heap_setCell (W.setCell ⟨bs,0,none⟩ (.slice A' r.N c')) ⟨bs+1,0,none⟩ (.int .i64 cs) bs (by dsimp only;omega)).trans s1
 have x1:=(Below.heap_setCell W ⟨bs,0,none⟩ (.slice A' r.N c') w.heap.size (by dsimp only;omega)).trans h.box
 have x2:=(Below.heap_setCell (W.setCell ⟨bs,0,none⟩ (.slice A' r.N c')) ⟨bs+1,0,none⟩ (.int .i64 cs) w.heap.size (by dsimp only;omega)).trans x1
 have ha:∀ a,A'=some a->base<=a.block/\(Value.slice A' r.N c').ownBlock=some a.block:=λa e=>by
  rcases ho.2 with⟨e',_⟩|⟨g1,c1,cur1,e',hb',_⟩
  ·rw[e] at e';simp at e'
  ·simp only[Value.slice.injEq] at e'
   rw[e] at e'
   obtain⟨e1,-⟩:=e'
   injection e1 with e1
   subst e1
   rw[e]
   exact⟨hb',rfl⟩
 have hne:∀ k,k<=bs+5->(Value.slice A' r.N c').ownBlock=none\/(Value.slice A' r.N c').ownBlock≠some k:=λk hk=>by
  cases A' with
  |none=>exact .inl rfl
  |some a =>
   obtain⟨a1,a2⟩:=ha a rfl
   refine .inr λe=>?_
   rw[a2] at e
   injection e with e
   omega
 refine⟨⟨(h.below.setCell (p:=⟨bs,0,none⟩) (by dsimp only;omega) _).setCell (p:=⟨bs+1,0,none⟩) (by dsimp only;omega) _,x2,⟨_,s2,.inr ⟨A',c',rfl,?_,λa e=>by have:=(ha a e).1;omega⟩⟩,by rw[hst];exact l2⟩,?_⟩
 ·rw[hst]
  exact own_base ((ho.kept (grown_set _ _ _ _) (hne bs (by omega))).kept (grown_set _ _ _ _) (hne (bs+1) (by omega))) (by omega)
 ·exact (kx_set (S:=λj=>j=bs\/j=bs+1) (b:=bs+1) (kx_set (S:=λj=>j=bs\/j=bs+1) (b:=bs) (Kx.refl _ W) (.inl rfl) 0 _) (.inr rfl) 0 _)
theorem leave_oneT{F:Fence}{n:Nat}{P:Program}{fn:Func}{tmps:Array Value}{R:Ending->World->Prop}{D:Nat}{W:World}(h:W.heap[D]?=some (.deferred (some []))){v:Value}(hv:(results fn tmps).run P (W.putObj D (.deferred none))=.ok v (W.putObj D (.deferred none)))(hf:R (.returned v) (W.putObj D (.deferred none))) :
 LeavesInM F n P fn tmps R [{ target:=.collected D,args:=#[] }] .returning W:=⟨by simp,.inl ⟨_,_,rfl,run_takeDeferred h,v,hv,hf⟩⟩
theorem begs_best{r:Rg}(hr:r.Ok){acc:List Int×Int}(h:r.begs.foldl r.stepB ([],-1)=acc):(acc=([],-1)/\∀ st,¬ r.Good st)\/(0<=acc.2/\r.Best acc.1 acc.2):=by
 have key:∀ n,n<=r.begs.length->r.Amid (λp=>p∈r.begs.take n) ((r.begs.take n).foldl r.stepB ([],-1)):=by
  intro n
  induction n with
  |zero=>intro _;exact .inl ⟨rfl,λst _ hp=>by simp at hp⟩
  |succ n ih =>
   intro hn
   have hlt:n<r.begs.length:=by omega
   have hsp:r.begs.take n++r.begs[n] :: r.begs.drop (n+1)=r.begs:=by
    rw[← List.drop_eq_getElem_cons hlt,List.take_append_drop]
   obtain⟨k1,k2⟩:=begs_lt hr hsp
   have:=stepB_ok hr (ih (by omega)) k1.1 k1.2 k2
   rw[List.take_succ_eq_append_getElem hlt,List.foldl_append]
   refine cast ?_ this
   congr 1
   funext p
   rw[List.mem_append,List.mem_singleton]
 have hk:=key r.begs.length (Nat.le_refl _)
 rw[List.take_length,h] at hk
 exact amid_best hk (λst hst=>begs_all hr ⟨by rw[List.length_take,hst.len];have:=hr.s3;omega,λx hx=>hst.rng x (List.mem_of_mem_take hx)⟩)
theorem Kx.ofBelow{S:Nat->Prop}{W W':World}(h:Below W.heap.size W W'):Kx S W W':=(Kx.refl S W).below h
theorem best_ok(nf:Nat)(hnf:6<=nf)(r:Rg)(hr:r.Ok)(A B:Option Addr)(n c m d:Nat)(w:World)(hF:SlE intE 1 w A n r.fi)(hT:SlE intE 1 w B m r.th) :
 CallsIn Fence.wide nf Tryz.prog 9 #[.agg #[.int .i64 r.N,.int .i64 r.S,.int .i64 r.low,.int .i64 r.high,.int .i64 r.total,.int .i64 r.pure,.int .i64 r.worst,.slice A n c,.slice B m d]] w λen w'=>((en=.returned (.tuple #[.slice none 0 0,.int .i64 0,.int .i64 6])/\∀ st,¬ r.Good st)\/
  ∃ (st:List Int) (cs:Int) (A':Option Addr) (c':Nat),en=.returned (.tuple #[.slice A' r.N c',.int .i64 cs,.int .i64 0])/\r.Best st cs/\w'.ownsRow w.heap.size 3 1 (.slice A' r.N c') r.N (st.flatMap intE))/\Below w.heap.size w w':=by
 refine callsIn_cps ?_
 intro R hR
 have Hok:=zh hr
 have Hbox:=zh (heap_alloc_new w (.cells #[.int .i64 r.N,.int .i64 r.S,.int .i64 r.low,.int .i64 r.high,.int .i64 r.total,.int .i64 r.pure,.int .i64 r.worst,.slice A n c,.slice B m d] 24))
 refine callsIn_of_wp_marks Tryz.func9 rfl trivial ?_ rfl
 simp only[Tryz.ntmps9,List.size_toArray,List.length_cons,List.length_nil,Nat.reduceAdd,Nat.reduceSub,Array.replicate_succ,Array.replicate_zero,List.push_toArray,List.append_toArray,List.nil_append,List.cons_append]
 refine wpIn_wide.2 ?_
 go_wp2_with fail
 (with_reducible refine (check_ok r hr A B n c m d _ (hF.alloc _) (hT.alloc _)).mono ?_)
 rintro en w1 ⟨rfl,hb1⟩
 have Hbox1:=zh (below_cells hb1 (b:=w.heap.size) (by simp) Hbox.out)
 obtain⟨c0,c1,c2,c3,c4,c5,c6,c7,c8,cf⟩:=ring9 Hbox1.out
 have Hb1:=zh (below_box hb1)
 have hl1:w.heap.size<w1.heap.size:=(Array.getElem?_eq_some_iff.1 Hbox1.out).1
 clear hb1
 go_wp2_with fail
 refine (beginnings_any r A B n c m d _).mono ?_
 rintro en w2 ⟨rfl,rfl⟩
 go_wp2_with fail
 obtain⟨bs,hbs⟩:∃ bs,w1.heap.size=bs:=⟨_,rfl⟩
 rw[hbs] at hl1 ⊢
 have HI0:∀ g,BesI w (((w1.alloc (.cells #[.slice none 0 0] 22)).alloc (.cells #[.int .i64 (-1)] 3)).alloc (.cells #[.int .i64 r.N,.int .i64 r.S,.int .i64 r.low,.int .i64 r.high,.int .i64 r.total,.int .i64 r.pure,.int .i64 r.worst,.slice A n c,.slice B m d] 24)) r A B n c m d bs g []/\
  (((w1.alloc (.cells #[.slice none 0 0] 22)).alloc (.cells #[.int .i64 (-1)] 3)).alloc (.cells #[.int .i64 r.N,.int .i64 r.S,.int .i64 r.low,.int .i64 r.high,.int .i64 r.total,.int .i64 r.pure,.int .i64 r.worst,.slice A n c,.slice B m d] 24)).heap[bs+1+1]?=some (.cells #[.int .i64 r.N,.int .i64 r.S,.int .i64 r.low,.int .i64 r.high,.int .i64 r.total,.int .i64 r.pure,.int .i64 r.worst,.slice A n c,.slice B m d] 24)/\(((w1.alloc (.cells #[.slice none 0 0] 22)).alloc (.cells #[.int .i64 (-1)] 3)).alloc (.cells #[.int .i64 r.N,.int .i64 r.S,.int .i64 r.low,.int .i64 r.high,.int .i64 r.total,.int .i64 r.pure,.int .i64 r.worst,.slice A n c,.slice B m d] 24)).heap.size=bs+3:=λg=>by
  have h0:=heap_alloc_new w1 (.cells #[.slice none 0 0] 22)
  have h1:=heap_alloc_new (w1.alloc (.cells #[.slice none 0 0] 22)) (.cells #[.int .i64 (-1)] 3)
  have h2:=heap_alloc_new ((w1.alloc (.cells #[.slice none 0 0] 22)).alloc (.cells #[.int .i64 (-1)] 3)) (.cells #[.int .i64 r.N,.int .i64 r.S,.int .i64 r.low,.int .i64 r.high,.int .i64 r.total,.int .i64 r.pure,.int .i64 r.worst,.slice A n c,.slice B m d] 24)
  have b1:=below_new w1 (.cells #[.slice none 0 0] 22)
  have b2:=below_new (w1.alloc (.cells #[.slice none 0 0] 22)) (.cells #[.int .i64 (-1)] 3)
  have b3:=below_new ((w1.alloc (.cells #[.slice none 0 0] 22)).alloc (.cells #[.int .i64 (-1)] 3)) (.cells #[.int .i64 r.N,.int .i64 r.S,.int .i64 r.low,.int .i64 r.high,.int .i64 r.total,.int .i64 r.pure,.int .i64 r.worst,.slice A n c,.slice B m d] 24)
  simp only[World.size_alloc,hbs] at h0 h1 h2 b1 b2 b3
  refine⟨⟨Hb1.out.trans ((b1.mono (by omega)).trans ((b2.mono (by omega)).trans (b3.mono (by omega)))),?_,⟨_,(b3.block _ (by omega)).trans ((b2.block _ (by omega)).trans h0),.inl ⟨by show (-1:Int)<0;decide,rfl⟩⟩,(b3.block _ (by omega)).trans h1⟩,h2,by simp[hbs]⟩
  exact (b3.block _ (by omega)).trans ((b2.block _ (by omega)).trans ((b1.block _ (by omega)).trans Hbox1.out))
 obtain⟨W2,hW2⟩:∃ W2,((w1.alloc (.cells #[.slice none 0 0] 22)).alloc (.cells #[.int .i64 (-1)] 3)).alloc (.cells #[.int .i64 r.N,.int .i64 r.S,.int .i64 r.low,.int .i64 r.high,.int .i64 r.total,.int .i64 r.pure,.int .i64 r.worst,.slice A n c,.slice B m d] 24)=W2:=⟨_,rfl⟩
 rw[hW2] at HI0 ⊢
 have Hsz:=zh (HI0 0).2.2
 have Hbx:=zh (HI0 0).2.1
 have HI:=zh (HI0 (bs+5)).1
 clear HI0 hW2 hbs Hbox Hbox1 Hb1 c0 c1 c2 c3 c4 c5 c6 c7 c8 cf
 refine (wpIn_wide (n:=nf)).1 ?_
 refine each_begs (by omega) r Hok.out A B n c m d (bs+1+1) rfl (enters_of Tryz.func72 (by kernel_rfl) rfl) Hbx.out (λj=>j=bs\/j=bs+1) (λj hj=>by have:=Hsz.out;omega) (by omega)
  (λpre W=>BesI w W r A B n c m d bs (bs+5) pre) (λs X Y row h hg hr=>h.grown hg (by omega) (λk e=>by have:=hr k e;have:=Hsz.out;omega)) HI.out ?Ac ?assign ?body ?done
 case assign =>
  intro l x e W K hK
  gi_wp2_with fail
  exact hK
 case body =>
  rintro l pre first rest x e W hp hI hsl hx hW
  obtain⟨hvl,hlt⟩:=begs_lt Hok.out hp
  obtain⟨c0,c1,c2,c3,c4,c5,c6,c7,c8,cf⟩:=ring9 hI.box
  have hs1:=Hok.out.s1
  have hs2:=Hok.out.s2
  have hs3:=Hok.out.s3
  have hn2:=Hok.out.n2
  have hF1:=hF.below hI.below
  have hT1:=hT.below hI.below
  have HI:=zh hI
  have HW:=zh hW
  clear hI hW
  obtain⟨q,hq⟩:∃ q,r.S-1=q:=⟨_,rfl⟩
  have hqS:q+1=r.S:=by omega
  rw[hq] at hsl ⊢
  gi_wp2_with fail
  refine⟨trivial,?_⟩
  refine⟨λ_=>by omega,CallsIn.inRound l ((callsIn_wide.2 (begin_any r Hok.out A B (some x) n c m d q e first W hF1 hT1 hsl hqS hvl.2)).mono ?_)⟩
  rintro en w4 ⟨b,rb,gs,rfl,hR4,hbW,hb4⟩
  obtain⟨L,hL⟩:∃ L,r.N+r.S=L:=⟨_,rfl⟩
  obtain⟨K,hK⟩:∃ K,r.codes*r.sums=K:=⟨_,rfl⟩
  rw[hL,hK,hq] at hR4
  obtain⟨z0,hz0⟩:∃ z,r.code0 first=z:=⟨_,rfl⟩
  obtain⟨y0,hy0⟩:∃ z,r.sum0 first=z:=⟨_,rfl⟩
  have hzc:=code0_lt Hok.out (by rw[hvl.1,hq];exact hqS) hvl.2
  have hys:=sum0_lt Hok.out (by rw[hvl.1];omega) hvl.2
  rw[hz0] at hzc
  rw[hy0] at hys
  have hIdx:=idx_lt hzc hys
  have hvalB:=rowV_get (r:=r) (first:=first) (n:=r.N) (t:=q) hzc hys
  rw[show (r.lay first).val r.N q (z0,y0)=r.valB first by unfold Rg.valB;rw[hz0,hy0,hq]] at hvalB
  obtain⟨Ix,hIx⟩:∃ I,z0*r.sums+y0=I:=⟨_,rfl⟩
  obtain⟨V,hV⟩:∃ V,r.valB first=V:=⟨_,rfl⟩
  obtain⟨Cb,hCb⟩:∃ C,r.costB first=C:=⟨_,rfl⟩
  obtain⟨cb1,cb2⟩:=costB_bd Hok.out hvl.2
  obtain⟨vb1,vb2⟩:=val_bd Hok.out (first:=first) (by rw[hvl.1,hq];exact hqS) hvl.2 r.N q (z0,y0) (by omega)
  rw[show (r.lay first).val r.N q (z0,y0)=r.valB first by unfold Rg.valB;rw[hz0,hy0,hq]] at vb1 vb2
  rw[hIx,hV] at hvalB
  rw[hIx,hK] at hIdx
  rw[hV] at vb1 vb2
  rw[hCb] at cb1 cb2
  rw[hz0,hCb]
  obtain⟨ι,mk,hmk⟩:=cls_ex w4.heap.size w4
  have hd:=hmk.drew
  have hne:=hmk.ne
  have hboxW:=(Array.getElem?_eq_some_iff.1 HI.out.box).1
  have hbox4:=(hb4.block _ hboxW).trans HI.out.box
  have hrow:=λy=>(hR4.below (hmk.below y)).row (j:=q) (Nat.le_refl _) (by omega)
  have hown:=λy=>(hR4.below (hmk.below y)).own q (Nat.le_refl _) (by omega)
  rw[show L-1-q=r.N by omega] at hown
  have q0:=λy=>(hrow y).1
  have q1:=λy=>(hown y).cell hvalB
  have d11:=λy=>(circ13 (hR4.below (hmk.below y)).circ).2.2.2.2.2.2.2.2.2.2.2.1
  have d12:=λy=>(circ13 (hR4.below (hmk.below y)).circ).2.2.2.2.2.2.2.2.2.2.2.2.1
  have hringx:=λy=>ring9 ((hmk.below y).block _ (Nat.lt_of_lt_of_le hboxW hb4.size) |>.trans hbox4)
  have e0:=λy=>(hringx y).1
  have e1:=λy=>(hringx y).2.1
  have e2:=λy=>(hringx y).2.2.1
  have e3:=λy=>(hringx y).2.2.2.1
  have e4:=λy=>(hringx y).2.2.2.2.1
  have e5:=λy=>(hringx y).2.2.2.2.2.1
  have e6:=λy=>(hringx y).2.2.2.2.2.2.1
  have e7:=λy=>(hringx y).2.2.2.2.2.2.2.1
  have e8:=λy=>(hringx y).2.2.2.2.2.2.2.2.1
  have HCa:=zh (λy=>hmk.call (above_any r Hok.out A B (some x) n c m d q e first (mk y) ((hsl.below hb4).below (hmk.below y)) (by omega) hvl.2))
  rw[hy0] at HCa
  have hIxi:(z0:Int)*(r.sums:Int)+(y0:Int)=(Ix:Int):=by rw[← hIx];simp
  have hcd:=codes_64 Hok.out
  have hsm:r.sums<=73:=by unfold Rg.sums;omega
  have hK2:K<=64*73:=by rw[← hK];exact Nat.mul_le_mul hcd.2 hsm
  have hZs:(0:Int)<=(z0:Int)*(r.sums:Int):=Int.mul_nonneg (by omega) (by omega)
  have hu1:IntKind.i64.wrap ((z0:Int)*(r.sums:Int))=(z0:Int)*(r.sums:Int):=IntWalk.i64_in _ (by omega)
  have hu2:IntKind.i64.wrap ((z0:Int)*(r.sums:Int)+(y0:Int))=(Ix:Int):=by rw[hIxi];exact IntWalk.i64_in _ (by omega)
  have hu4:IntKind.i64.wrap (Ix:Int)=(Ix:Int):=IntWalk.i64_in _ (by omega)
  have hIk:(Ix:Int)<(K:Int):=by omega
  have hI0:(0:Int)<=(Ix:Int):=by omega
  have hqL:(q:Int)<(L:Int):=by omega
  have hq0:(0:Int)<=(q:Int):=by omega
  have HL:=zh hL
  have HK:=zh hK
  have Hq:=zh hq
  have Hmk:=zh hmk
  have HR4:=zh hR4
  have Hz0:=zh hz0
  have HV:=zh hV
  have HCb:=zh hCb
  have Hvl:=zh hvl
  have Hb4:=zh hb4
  have Hsl:=zh hsl
  have Hp:=zh hp
  have HqS:=zh hqS
  have HbW:=zh hbW
  clear hL hK hq hmk hR4 hz0 hy0 hV hCb hvl hb4 hsl hp hlt c0 c1 c2 c3 c4 c5 c6 c7 c8 cf hringx hrow hown hvalB hIx hbox4 hqS hbW
  gi_wp2_with fail
  refine wpIn_region_cls (C:=λw'=>∃ x,w'=mk x) (by kernel_rfl) (by kernel_rfl) (by kernel_rfl) hd ?_
  repeat (go_big_quiet_step ((go_at_call 31;exact HCa.out _)))
  refine wpQuiet_nil ?_
  intro _ hw'
  obtain⟨y,rfl⟩:=hw'
  obtain⟨W5,hW5⟩:∃ W5,mk y=W5:=⟨_,rfl⟩
  have hb5:=Hmk.out.below y
  rw[hW5] at hb5 ⊢
  have HR5:=zh (HR4.out.below hb5)
  have hb45:Below W.heap.size W W5:=Hb4.out.trans (hb5.mono Hb4.out.size)
  have HI5:=zh (HI.out.grown (grown_below hb45) (by omega) (λk e=>by cases e))
  have Hkx5:=zh (show Kx (λj=>j=bs\/j=bs+1) W W5 from Kx.ofBelow hb45)
  obtain⟨acc,hacc⟩:∃ acc,pre.foldl r.stepB ([],-1)=acc:=⟨_,rfl⟩
  have HStep:=zh (show (pre++[first]).foldl r.stepB ([],-1)=r.stepB acc first by rw[List.foldl_append,hacc];rfl)
  have Hacc:=zh hacc
  have hleast:=HI5.out.least
  rw[hacc] at hleast
  have hbs5:bs+1<W5.heap.size:=(Array.getElem?_eq_some_iff.1 hleast).1
  have g0:W5.cell? ⟨bs+1,0,none⟩=some (.int .i64 acc.2):=by rw[cell_of_row _ _ 0 _ _ (0,0) hleast];rfl
  obtain⟨lst,hlst⟩:∃ l,acc.2=l:=⟨_,rfl⟩
  rw[hlst] at g0 hleast
  have Hleast:=zh hleast
  have Hlst:=zh hlst
  have Hsl5:=zh ((Hsl.out.below Hb4.out).below hb5)
  have HF5:=zh (hF.below HI5.out.below)
  have HT5:=zh (hT.below HI5.out.below)
  have Hno:=zh (show ¬ (0<=V/\(lst<0\/Cb+V<lst))->BesI w W5 r A B n c m d bs (bs+5) (pre++[first]) from λh=>by
   have e1:r.stepB acc first=acc:=by unfold Rg.stepB;rw[HV.out,HCb.out,hlst,if_neg h]
   have h5:=HI5.out
   refine⟨h5.below,h5.box,?_,?_⟩
   ·rw[HStep.out,e1,← Hacc.out];exact h5.steps
   ·rw[HStep.out,e1,← Hacc.out];exact h5.least)
  clear hd hne q0 q1 d11 d12 e0 e1 e2 e3 e4 e5 e6 e7 e8 HCa hu1 hu2 hu4 hIxi hW5 hb5 hb45 hacc hleast hlst hF1 hT1 hcd
  by_cases hv0:0<=V
  ·by_cases hgo:lst<0\/Cb+V<lst
   ·have Hgo:=zh hgo
    have HFol:=zh (show Calls Tryz.prog 32 #[.pointer (some ⟨b,0,none⟩),.int .i64 (z0:Nat)] W5 _ from by
     have h:=HR5.out
     rw[← HL.out,← HK.out] at h
     rw[← Hz0.out]
     exact follow_any r Hok.out A B (some x) n c m d q e first Hvl.out.2 b rb gs W5 (by rw[Hq.out];exact h) HF5.out HT5.out Hsl5.out HqS.out (by rw[HV.out];exact hv0))
    rcases hgo with hl0|hl0
    ·skip
     gi_wp2_with fail
     refine⟨trivial,λ_=>by omega,CallsIn.inRound l ((callsIn_wide.2 HFol.out).mono ?_)⟩
     rintro en w6 ⟨A6,c6,rfl,ho6,hb6⟩
     have hI6:=HI5.out.grown (grown_below hb6) (by omega) (λk e=>by cases e)
     obtain⟨hB7,hK7⟩:=hI6.store (first:=first) (st:=r.wayB first) (cs:=Cb+V) (by omega) (by rw[HStep.out];unfold Rg.stepB;rw[HV.out,HCb.out,Hlst.out,if_pos ⟨hv0,Hgo.out⟩]) ho6 (by have:=HW.out;have:=Hsz.out;have:=Hkx5.out.size;omega)
     have HB7:=zh hB7
     have HK7:=zh ((Hkx5.out.below hb6).trans hK7 (λj _ h=>h))
     obtain⟨v6,s6,-⟩:=hI6.steps
     have l6:=hI6.least
     have t0:w6.cell? ⟨bs,0,none⟩=some v6:=by rw[cell_of_row _ _ 0 _ _ (0,0) s6];rfl
     have t1:w6.frozen? ⟨bs,0,none⟩=false:=by simp[World.frozen?,s6]
     have t2:w6.cell? ⟨bs+1,0,none⟩=some (.int .i64 (pre.foldl r.stepB ([],-1)).2):=by rw[cell_of_row _ _ 0 _ _ (0,0) l6];rfl
     have t3:w6.frozen? ⟨bs+1,0,none⟩=false:=by simp[World.frozen?,l6]
     have t4:bs≠bs+1:=by omega
     clear hI6 s6 l6 ho6 hb6 hB7 hK7
     gi_wp2_with fail
     exact⟨HB7.out,HK7.out⟩
    ·by_cases hl1:lst<0
     ·exact absurd hl1 (by omega)
     ·skip
      gi_wp2_with fail
      refine⟨trivial,λ_=>by omega,CallsIn.inRound l ((callsIn_wide.2 HFol.out).mono ?_)⟩
      rintro en w6 ⟨A6,c6,rfl,ho6,hb6⟩
      have hI6:=HI5.out.grown (grown_below hb6) (by omega) (λk e=>by cases e)
      obtain⟨hB7,hK7⟩:=hI6.store (first:=first) (st:=r.wayB first) (cs:=Cb+V) (by omega) (by rw[HStep.out];unfold Rg.stepB;rw[HV.out,HCb.out,Hlst.out,if_pos ⟨hv0,Hgo.out⟩]) ho6 (by have:=HW.out;have:=Hsz.out;have:=Hkx5.out.size;omega)
      have HB7:=zh hB7
      have HK7:=zh ((Hkx5.out.below hb6).trans hK7 (λj _ h=>h))
      obtain⟨v6,s6,-⟩:=hI6.steps
      have l6:=hI6.least
      have t0:w6.cell? ⟨bs,0,none⟩=some v6:=by rw[cell_of_row _ _ 0 _ _ (0,0) s6];rfl
      have t1:w6.frozen? ⟨bs,0,none⟩=false:=by simp[World.frozen?,s6]
      have t2:w6.cell? ⟨bs+1,0,none⟩=some (.int .i64 (pre.foldl r.stepB ([],-1)).2):=by rw[cell_of_row _ _ 0 _ _ (0,0) l6];rfl
      have t3:w6.frozen? ⟨bs+1,0,none⟩=false:=by simp[World.frozen?,l6]
      have t4:bs≠bs+1:=by omega
      clear hI6 s6 l6 ho6 hb6 hB7 hK7
      gi_wp2_with fail
      exact⟨HB7.out,HK7.out⟩
   ·have hl0:¬ lst<0:=λh=>hgo (.inl h)
    have hl1:¬ Cb+V<lst:=λh=>hgo (.inr h)
    have Hf:=zh (Hno.out (λh=>hgo h.2))
    clear hgo
    gi_wp2_with fail
    exact⟨Hf.out,Hkx5.out⟩
  ·have Hf:=zh (Hno.out (λh=>hv0 h.1))
   gi_wp2_with fail
   exact⟨Hf.out,Hkx5.out⟩
 case done =>
  intro D W hD hD1 hD2 hD3 hI
  obtain⟨acc,hacc⟩:∃ acc,r.begs.foldl r.stepB ([],-1)=acc:=⟨_,rfl⟩
  have Hacc:=zh hacc
  obtain⟨v,s1,s2⟩:=hI.steps
  have l1:=hI.least
  rw[hacc] at s2 l1
  have g0:W.cell? ⟨bs,0,none⟩=some v:=by rw[cell_of_row _ _ 0 _ _ (0,0) s1];rfl
  have g1:W.cell? ⟨bs+1,0,none⟩=some (.int .i64 acc.2):=by rw[cell_of_row _ _ 0 _ _ (0,0) l1];rfl
  have HI:=zh hI
  have Hs1:=zh s1
  have HD:=zh hD
  clear hI hacc s1 s2 l1 hD
  have HBest:=zh (begs_best Hok.out (acc:=acc) Hacc.out)
  have Hsz1:=Hsz.out
  have Hend:=zh (show ∀ q,BesI w ((W.drewN q).putObj D (.deferred none)) r A B n c m d bs (bs+5) r.begs from λq =>
   (HI.out.grown (grown_below (below_drewN (Below.refl _ _) q)) (by omega) (λk e=>by cases e)).grown (grownBy_putObj' (W.drewN q) D _) (by omega) (λk e=>by injection e with e;omega))
  by_cases hl:acc.2<0
  ·have Hf:=zh (hR.out (.returned (.tuple #[.slice none 0 0,.int .i64 0,.int .i64 6])) ((W.drewN 0).putObj D (.deferred none)) ⟨.inl ⟨rfl,by
    rcases HBest.out with h|⟨h,_⟩
    ·exact h.2
    ·omega⟩,(Hend.out 0).below⟩)
   clear hR
   go_wp2_with fail
   exact leave_oneT HD.out (v:=.tuple #[.slice none 0 0,.int .i64 0,.int .i64 6]) (by simp[results,Tryz.results9,go_sem]) Hf.out
  ·have Hf:=zh (show ∀ q,R (.returned (.tuple #[v,.int .i64 acc.2,.int .i64 0])) ((W.drewN q).putObj D (.deferred none)) from λq=>by
    rcases HBest.out with⟨h,_⟩|⟨h,h2⟩
    ·rw[h] at hl;exact absurd (show (-1:Int)<0 by decide) hl
    ·obtain⟨v',e1,e2⟩:=(Hend.out q).steps
     have e3:=HI.out.steps
     obtain⟨v2,f1,f2⟩:=e3
     rw[Hacc.out] at e2
     have hv:v'=v:=by
      have hW:W.heap[bs]?=some (.cells #[v] 22 (0,0)):=Hs1.out
      have:((W.drewN q).putObj D (.deferred none)).heap[bs]?=W.heap[bs]?:=(grownBy_putObj' (W.drewN q) D (.deferred none)).block bs (by exact (Array.getElem?_eq_some_iff.1 hW).1) (by simp;omega)
      rw[this,hW] at e1
      simp at e1
      exact e1.symm
     subst hv
     rcases e2 with⟨e2,_⟩|⟨A',c',rfl,e4,_⟩
     ·omega
     ·exact hR.out _ _ ⟨.inr ⟨acc.1,acc.2,A',c',rfl,h2,e4⟩,(Hend.out q).below⟩)
   clear hR
   go_wp2_with fail
   go_quiet (fail)
   go_wp2_with fail
   refine leave_oneT (by exact HD.out) (v:=.tuple #[v,.int .i64 acc.2,.int .i64 0]) (by simp[results,Tryz.results9,go_sem]) (Hf.out _)
end
end Go.Proofs.YtjibohkeapdalaaGreatDoor
