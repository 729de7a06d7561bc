/-
  The contract of temper's circle.fill: the table of the least costs of all that is behind each place; condition: the ring is valid. The contract of temper's circle.fill: the table of the least costs of all that is behind each place; condition: the ring is valid, and the circle's block is none of the slices' own. Contracts of temper's above and begin; each states its condition. The contract of temper's circle.follow: the lexicographically least steps of the least cost behind a beginning; condition: there are some.  A region that draws its order, in the body of a range over a function: one walk serves every order; condition: no defer statement stands in it.
-/
import Derived.Test.YtjibohkeapdalaaGreatDoorBd
import Derived.Test.YtjibohkeapdalaaGreatDoorAa
import Derived.Test.YtjibohkeapdalaaGreatDoorBb
import Derived.Deep.OwnRows
import Derived.Laws.OwnMore
import Derived.Laws.EntriesVeiled
import Derived.BigRegion
import Derived.Deep.RegionHeld3
import Derived.RangeFuncNested
import Derived.RangeFuncBound
import Derived.RangeFuncCalls
import Derived.RangeFuncLeaves
import Derived.Shelf.Abstract
import Derived.Shelf.RegionOpen
import Derived.OwnWalkIn
import Derived.TacticsInMore
import Derived.LoopNIn
import Derived.LoopIn
import Derived.Sort.LoopGhostIn
namespace Go.Proofs.YtjibohkeapdalaaGreatDoor
set_option maxHeartbeats 16000000
set_option maxRecDepth 8000
section
open Go.RowKit
theorem slE_kx{S:Nat->Prop}{W W':World}{A:Option Addr}{n:Nat}{l:List Int}(h:SlE intE 1 W A n l)(hk:Kx S W W')(hs:∀ a,A=some a->¬ S a.block):SlE intE 1 W' A n l:=
 ⟨h.1,h.2.1,λhn=>by
  obtain⟨b,o,e,hb,hc⟩:=h.2.2 hn
  exact⟨b,o,e,Nat.lt_of_lt_of_le hb hk.size,λj u hu=>(World.cell?_of_block (w:=W) (hk.block b hb (hs _ e))).trans (hc j u hu)⟩⟩
def Blk(W:World)(g:Nat)(l:List Int):Prop:=W.heap[g]?=some (.cells (l.map (Value.int .i64)).toArray 3 (0,0))
theorem Blk.lt{W:World}{g:Nat}{l:List Int}(h:Blk W g l):g<W.heap.size:=(Array.getElem?_eq_some_iff.1 h).1
theorem Blk.cell{W:World}{g i:Nat}{l:List Int}(h:Blk W g l){x:Int}(hx:l[i]?=some x):W.cell? ⟨g,i,none⟩=some (.int .i64 x):=by
 rw[cell_of_row W g i _ _ (0,0) h];simp[hx]
theorem Blk.frozen{W:World}{g:Nat}{l:List Int}(h:Blk W g l)(i:Nat):W.frozen? ⟨g,i,none⟩=false:=by
 have h':W.heap[g]?=some _:=h
 simp[World.frozen?,h']
theorem Blk.sl{W:World}{g k:Nat}{l:List Int}(h:Blk W g l)(hk:k=l.length):SlE intE 1 W (some ⟨g,0,none⟩) k l:=by
 refine⟨hk,by rw[flat_length intE_len,hk],λ_=>⟨g,0,rfl,h.lt,λj u hu=>?_⟩⟩
 rw[flat_int] at hu
 rw[Nat.zero_add,cell_of_row W g j _ _ (0,0) h]
 simpa using hu
theorem Blk.set{W:World}{g:Nat}{l:List Int}(h:Blk W g l)(i:Nat)(x:Int):Blk (W.setCell ⟨g,i,none⟩ (.int .i64 x)) g (l.set i x):=by
 have h':W.heap[g]?=some _:=h
 unfold Blk
 simp only[World.setCell,Array.getElem?_modify,h']
 simp[List.map_set]
theorem Blk.of_eq{W W':World}{g:Nat}{l:List Int}(h:Blk W g l)(he:W'.heap[g]?=W.heap[g]?):Blk W' g l:=he.trans h
theorem Blk.made{W:World}{g k:Nat}(h:W.heap[g]?=some (.cells (madeCells #[Value.int .i64 0] k) 3 (0,0))):Blk W g (List.replicate k 0):=by
 unfold Blk
 rw[h]
 congr 2
 apply Array.toList_inj.1
 rw[toList_madeCells_one]
 simp
theorem run_mkInt(k:Nat)(hm:k<=100000)(w:World):(Instr.makeSlice 22 (.int .i64 (k:Int)) (.int .i64 (k:Int))).run Tryz.prog w=.ok (.slice (some ⟨w.heap.size,0,none⟩) k k) (w.alloc (.cells (madeCells #[Value.int .i64 0] k) 3)):=
 run_make_row' 22 3 (.int .i64 0) 8 Tryz.underlying22 infoInt8 rfl .i64 .i64 k (by omega) (by omega) w
theorem infoSl24:(Tryz.prog.info? 22).map (λi=>(i.zero,i.size,i.bytes))=some (some (.slice none 0 0),1,24):=by kernel_rfl
theorem run_mkRows(k:Nat)(hm:k<=100000)(w:World):(Instr.makeSlice 106 (.int .i64 (k:Int)) (.int .i64 (k:Int))).run Tryz.prog w=.ok (.slice (some ⟨w.heap.size,0,none⟩) k k) (w.alloc (.cells (madeCells #[Value.slice none 0 0] k) 22)):=
 run_make_row' 106 22 (.slice none 0 0) 24 Tryz.underlying106 infoSl24 rfl .i64 .i64 k (by omega) (by omega) w
structure Rst(W:World)(r:Rg)(first:List Int)(b rb L K:Nat)(gs:Nat->Nat)(C:Array Value)(t0:Nat):Prop where
 circ:W.heap[b]?=some (.cells C 108 (0,0))
 rows:∃ rs:List Value,rs.length=L/\W.heap[rb]?=some (.cells rs.toArray 22 (0,0))/\∀ j,t0<=j->j<L->rs[j]?=some (.slice (some ⟨gs j,0,none⟩) K K)
 own:∀ j,t0<=j->j<L->Blk W (gs j) (r.rowV first (L-1-j) j)
section
variable{W W':World}{r:Rg}{first:List Int}{b rb L K t0:Nat}{gs:Nat->Nat}{C:Array Value}
theorem Rst.keep(h:Rst W r first b rb L K gs C t0)(hk:∀ j o,W.heap[j]?=some o->(j=b\/j=rb\/∃ i,t0<=i/\i<L/\j=gs i)->W'.heap[j]?=some o):Rst W' r first b rb L K gs C t0:=by
 obtain⟨h1,⟨rs,h2,h3,h4⟩,h5⟩:=h
 exact⟨hk _ _ h1 (.inl rfl),⟨rs,h2,hk _ _ h3 (.inr (.inl rfl)),h4⟩,λj j1 j2=>hk _ _ (h5 j j1 j2) (.inr (.inr ⟨j,j1,j2,rfl⟩))⟩
theorem Rst.below(h:Rst W r first b rb L K gs C t0)(hb:Below W.heap.size W W'):Rst W' r first b rb L K gs C t0:=
 h.keep λj _o ho _=>(hb.block j (Array.getElem?_eq_some_iff.1 ho).1).trans ho
theorem Rst.apart(h:Rst W r first b rb L K gs C t0){g:Nat}{l:List Int}(hg:Blk W g l):b≠g/\rb≠g/\b≠rb:=by
 obtain⟨h1,⟨rs,h2,h3,h4⟩,h5⟩:=h
 have hg':W.heap[g]?=some _:=hg
 refine⟨λe=>?_,λe=>?_,λe=>?_⟩
 ·rw[e,hg'] at h1;simp at h1
 ·rw[e,hg'] at h3;simp at h3
 ·rw[e,h3] at h1;simp at h1
theorem Rst.store(h:Rst W r first b rb L K gs C t0){g:Nat}{l:List Int}(hg:Blk W g l)(hne:∀ j,t0<=j->j<L->gs j≠g)(i:Nat)(v:Value):Rst (W.setCell ⟨g,i,none⟩ v) r first b rb L K gs C t0:=by
 obtain⟨a1,a2,_⟩:=h.apart hg
 refine h.keep λj o ho hj=>(Below.heap_setCell _ _ _ _ λe=>?_).trans ho
 dsimp only at e
 subst e
 rcases hj with hj|hj|⟨i,i1,i2,i3⟩
 ·exact a1 hj.symm
 ·exact a2 hj.symm
 ·exact hne i i1 i2 i3.symm
theorem Rst.next{u:Nat}(h:Rst W r first b rb L K gs C (u+1)){g:Nat}(hg:Blk W g (r.rowV first (L-1-u) u))(hc:∃ rs:List Value,rs.length=L/\W.heap[rb]?=some (.cells rs.toArray 22 (0,0))/\rs[u]?=some (.slice (some ⟨g,0,none⟩) K K)) :
 Rst W r first b rb L K (λj=>if j=u then g else gs j) C u:=by
 obtain⟨h1,⟨rs,h2,h3,h4⟩,h5⟩:=h
 obtain⟨rs',k1,k2,k3⟩:=hc
 rw[h3] at k2
 simp only[Option.some.injEq,Obj.cells.injEq,and_true] at k2
 obtain rfl:rs=rs':=by simpa using congrArg Array.toList k2
 refine⟨h1,⟨rs,h2,h3,λj j1 j2=>?_⟩,λj j1 j2=>?_⟩
 ·by_cases e:j=u
  ·rw[if_pos e,e];exact k3
  ·rw[if_neg e];exact h4 j (by omega) j2
 ·by_cases e:j=u
  ·rw[if_pos e,e];exact hg
  ·rw[if_neg e];exact h5 j (by omega) j2
theorem Rst.row(h:Rst W r first b rb L K gs C t0){j:Nat}(h1:t0<=j)(h2:j<L):W.cell? ⟨rb,j,none⟩=some (.slice (some ⟨gs j,0,none⟩) K K)/\∀ i,W.frozen? ⟨rb,i,none⟩=false:=by
 obtain⟨rs,k1,k2,k3⟩:=h.rows
 refine⟨?_,λi=>by simp[World.frozen?,k2]⟩
 rw[cell_of_row W rb j _ _ (0,0) k2]
 simp[k3 j h1 h2]
end
def PartR(r:Rg)(first:List Int)(z u k:Nat)(l:List Int):Prop:=l.length=r.codes*r.sums/\∀ i,i<k->l[i]?=(r.rowV first z u)[i]?
theorem rowV_len(r:Rg)(first:List Int)(z u:Nat):(r.rowV first z u).length=r.codes*r.sums:=by simp[Rg.rowV]
theorem PartR.set{r:Rg}{first:List Int}{z u k:Nat}{l:List Int}(h:PartR r first z u k l){x:Int}(hk:k<r.codes*r.sums)(hx:(r.rowV first z u)[k]?=some x):PartR r first z u (k+1) (l.set k x):=by
 refine⟨by simp[h.1],λi hi=>?_⟩
 by_cases e:k=i
 ·subst e;rw[List.getElem?_set_self (by rw[h.1];exact hk),hx]
 ·rw[List.getElem?_set_ne e];exact h.2 i (by omega)
theorem PartR.fin{r:Rg}{first:List Int}{z u:Nat}{l:List Int}(h:PartR r first z u (r.codes*r.sums) l):l=r.rowV first z u:=by
 refine List.ext_getElem? λi=>?_
 by_cases hi:i<r.codes*r.sums
 ·exact h.2 i hi
 ·rw[List.getElem?_eq_none (by rw[h.1];omega),List.getElem?_eq_none (by rw[rowV_len];omega)]
theorem nlow_bd{r:Rg}(hr:r.Ok) : -288<=(r.N:Int)*r.low/\(r.N:Int)*r.low<=288:=by
 have h1:=hr.n2
 have h2:=hr.l1
 have h3:=hr.l2
 have:=mul_abs (a:=(r.N:Int)) (b:=r.low) (A:=24) (B:=12) (by omega) (by omega) (by omega)
 omega
theorem setCell_cells{W:World}{b i:Nat}{C:Array Value}{ty:TypeId}{v:Value}(h:W.heap[b]?=some (.cells C ty (0,0))):(W.setCell ⟨b,i,none⟩ v).heap[b]?=some (.cells (C.setIfInBounds i v) ty (0,0)):=by
 simp only[World.setCell,Array.getElem?_modify,h]
 simp
theorem kx_setb(W:World)(b i:Nat)(v:Value):Kx (λj=>j=b) W (W.setCell ⟨b,i,none⟩ v):=kx_set (S:=λj=>j=b) (Kx.refl _ W) rfl i v
theorem rst_start{wd:World}{r:Rg}{first:List Int}{b L K:Nat}{gs:Nat->Nat}{C C1:Array Value}(hc:wd.heap[b]?=some (.cells C 108 (0,0)))(h1:C.setIfInBounds 12 (.slice (some ⟨wd.heap.size,0,none⟩) L L)=C1) :
 Rst ((wd.setCell ⟨b,12,none⟩ (.slice (some ⟨wd.heap.size,0,none⟩) L L)).alloc (.cells (madeCells #[Value.slice none 0 0] L) 22)) r first b wd.heap.size L K gs C1 L/\
 Kx (λj=>j=b) wd ((wd.setCell ⟨b,12,none⟩ (.slice (some ⟨wd.heap.size,0,none⟩) L L)).alloc (.cells (madeCells #[Value.slice none 0 0] L) 22)):=by
 have hb:b<wd.heap.size:=(Array.getElem?_eq_some_iff.1 hc).1
 have hsz:(wd.setCell ⟨b,12,none⟩ (.slice (some ⟨wd.heap.size,0,none⟩) L L)).heap.size=wd.heap.size:=by simp[World.setCell]
 refine⟨⟨?_,⟨(madeCells #[Value.slice none 0 0] L).toList,by rw[toList_madeCells_one];simp,?_,λj h1 h2=>absurd h1 (by omega)⟩,λj h1 h2=>absurd h1 (by omega)⟩,(kx_setb wd b 12 _).below (below_new _ _)⟩
 ·rw[Below.heap_alloc _ _ _ (by rw[hsz];exact hb),setCell_cells hc,h1]
 ·have h:=heap_alloc_new (wd.setCell ⟨b,12,none⟩ (.slice (some ⟨wd.heap.size,0,none⟩) L L)) (.cells (madeCells #[Value.slice none 0 0] L) 22)
  rw[hsz] at h
  rw[h]
structure Fil(w W:World)(r:Rg)(first:List Int)(b rb L K:Nat)(gs:Nat->Nat)(C:Array Value)(u g k:Nat)(l:List Int):Prop where
 rst:Rst W r first b rb L K gs C (u+1)
 blk:Blk W g l
 hdr:∃ rs:List Value,rs.length=L/\W.heap[rb]?=some (.cells rs.toArray 22 (0,0))/\rs[u]?=some (.slice (some ⟨g,0,none⟩) K K)
 part:PartR r first (L-1-u) u k l
 kx:Kx (λj=>j=b) w W
 ne:∀ j,u+1<=j->j<L->gs j≠g
 gw:w.heap.size<=g
section
variable{w W W':World}{r:Rg}{first:List Int}{b rb L K:Nat}{gs:Nat->Nat}{C:Array Value}{u g k:Nat}{l:List Int}
theorem Fil.below(h:Fil w W r first b rb L K gs C u g k l)(hb:Below W.heap.size W W'):Fil w W' r first b rb L K gs C u g k l:=by
 obtain⟨rs,a1,a2,a3⟩:=h.hdr
 exact⟨h.rst.below hb,h.blk.of_eq (hb.block _ h.blk.lt),⟨rs,a1,(hb.block _ (Array.getElem?_eq_some_iff.1 a2).1).trans a2,a3⟩,h.part,h.kx.below hb,h.ne,h.gw⟩
theorem Fil.drewN(h:Fil w W r first b rb L K gs C u g k l)(x:Nat):Fil w (W.drewN x) r first b rb L K gs C u g k l:=h.below (below_drewN (Below.refl _ _) x)
theorem Fil.drew(h:Fil w W r first b rb L K gs C u g k l):Fil w W.drew r first b rb L K gs C u g k l:=h.drewN 1
theorem Fil.set(h:Fil w W r first b rb L K gs C u g k l){x:Int}(hk:k<r.codes*r.sums)(hx:(r.rowV first (L-1-u) u)[k]?=some x):Fil w (W.setCell ⟨g,k,none⟩ (.int .i64 x)) r first b rb L K gs C u g (k+1) (l.set k x):=by
 obtain⟨rs,a1,a2,a3⟩:=h.hdr
 have hap:=h.rst.apart h.blk
 refine⟨h.rst.store h.blk h.ne _ _,h.blk.set k x,⟨rs,a1,(Below.heap_setCell _ _ _ _ hap.2.1).trans a2,a3⟩,h.part.set hk hx,?_,h.ne,h.gw⟩
 refine h.kx.trans (kx_setb W g k _) (λj hj e=>absurd h.gw (by subst e;omega))
theorem Fil.cells(h:Fil w W r first b rb L K gs C u g k l)(hk:k<r.codes*r.sums):W.cell? ⟨rb,u,none⟩=some (.slice (some ⟨g,0,none⟩) K K)/\W.frozen? ⟨g,k,none⟩=false/\∃ v,W.cell? ⟨g,k,none⟩=some v:=by
 obtain⟨rs,a1,a2,a3⟩:=h.hdr
 refine⟨?_,h.blk.frozen k,_,h.blk.cell (List.getElem?_eq_getElem (by rw[h.part.1];exact hk))⟩
 rw[cell_of_row W rb u _ _ (0,0) a2]
 simp[a3]
theorem Fil.fin(h:Fil w W r first b rb L K gs C u g (r.codes*r.sums) l):Rst W r first b rb L K (λj=>if j=u then g else gs j) C u:=
 h.rst.next (by have:=h.blk;rwa [h.part.fin] at this) h.hdr
theorem fil_start(h:Rst W r first b rb L K gs C (u+1))(hu:u<L)(hK:K=r.codes*r.sums)(hk:Kx (λj=>j=b) w W)(hrb:w.heap.size<=rb) :
 Fil w ((W.setCell ⟨rb,u,none⟩ (.slice (some ⟨W.heap.size,0,none⟩) K K)).alloc (.cells (madeCells #[Value.int .i64 0] K) 3)) r first b rb L K gs C u W.heap.size 0 (List.replicate K 0):=by
 have hsz:(W.setCell ⟨rb,u,none⟩ (.slice (some ⟨W.heap.size,0,none⟩) K K)).heap.size=W.heap.size:=by simp[World.setCell]
 have hown:=h.own
 obtain⟨rs,a1,a2,a3⟩:=h.rows
 have hbr:b≠rb:=λe=>by have h1:=h.circ;rw[e,a2] at h1;simp at h1
 have hgr:∀ j,u+1<=j->j<L->gs j≠rb:=λj j1 j2 e=>(h.apart (hown j j1 j2)).2.1 e.symm
 have key:∀ j o,W.heap[j]?=some o->j≠rb->((W.setCell ⟨rb,u,none⟩ (.slice (some ⟨W.heap.size,0,none⟩) K K)).alloc (.cells (madeCells #[Value.int .i64 0] K) 3)).heap[j]?=some o:=λj o ho hj=>by
  rw[Below.heap_alloc _ _ _ (by rw[hsz];exact (Array.getElem?_eq_some_iff.1 ho).1)]
  exact (Below.heap_setCell _ _ _ _ hj).trans ho
 have hrbn:((W.setCell ⟨rb,u,none⟩ (.slice (some ⟨W.heap.size,0,none⟩) K K)).alloc (.cells (madeCells #[Value.int .i64 0] K) 3)).heap[rb]?=some (.cells (rs.set u (.slice (some ⟨W.heap.size,0,none⟩) K K)).toArray 22 (0,0)):=by
  rw[Below.heap_alloc _ _ _ (by rw[hsz];exact (Array.getElem?_eq_some_iff.1 a2).1),setCell_cells a2]
  simp
 refine⟨⟨key _ _ h.circ hbr,⟨_,by simp[a1],hrbn,λj j1 j2=>?_⟩,λj j1 j2=>key _ _ (hown j j1 j2) (hgr j j1 j2)⟩,Blk.made ?_,⟨_,by simp[a1],hrbn,by rw[List.getElem?_set_self (by omega)]⟩,⟨by simp[hK],λi hi=>absurd hi (by omega)⟩,?_,λj j1 j2 e=>?_,hk.size⟩
 ·rw[List.getElem?_set_ne (by omega)];exact a3 j j1 j2
 ·have h:=heap_alloc_new (W.setCell ⟨rb,u,none⟩ (.slice (some ⟨W.heap.size,0,none⟩) K K)) (.cells (madeCells #[Value.int .i64 0] K) 3)
  rw[hsz] at h
  exact h
 ·exact (hk.trans (kx_setb W rb u _) (λj hj e=>absurd hrb (by subst e;omega))).below (below_new _ _)
 ·have:=(hown j j1 j2).lt;omega
end
end
section
open Go.RowKit
theorem fill_any(r:Rg)(hr:r.Ok)(A B D:Option Addr)(n c m d q e:Nat)(first:List Int)(hg:∀ x∈first,r.low<=x/\x<=r.high)(b:Nat)(w:World)
 (hC:w.heap[b]?=some (.cells #[.int .i64 r.N,.int .i64 r.S,.int .i64 r.low,.int .i64 r.high,.int .i64 r.total,.int .i64 r.pure,.int .i64 r.worst,.slice A n c,.slice B m d,.slice D q e,.int .i64 (r.codes:Nat),.int .i64 (r.sums:Nat),.slice none 0 0] 108))
 (hF:SlE intE 1 w A n r.fi) (hT:SlE intE 1 w B m r.th) (hS:SlE intE 1 w D q first) (hq:q+1=r.S) (hA:∀ a,A=some a->a.block≠b) (hB:∀ a,B=some a->a.block≠b) (hD:∀ a,D=some a->a.block≠b) :
 Calls Tryz.prog 74 #[.pointer (some ⟨b,0,none⟩)] w λen w'=>en=.returned (.tuple #[])/\∃ (rb:Nat) (gs:Nat->Nat),
  Rst w' r first b rb (r.N+r.S) (r.codes*r.sums) gs #[.int .i64 r.N,.int .i64 r.S,.int .i64 r.low,.int .i64 r.high,.int .i64 r.total,.int .i64 r.pure,.int .i64 r.worst,.slice A n c,.slice B m d,.slice D q e,.int .i64 (r.codes:Nat),.int .i64 (r.sums:Nat),.slice (some ⟨rb,0,none⟩) (r.N+r.S) (r.N+r.S)] (r.S-1)/\Kx (λj=>j=b) w w':=by
 refine calls_cps ?_
 intro R hR0
 have Hok:=zh hr
 have Hg:=zh hg
 have Hq:=zh hq
 have Hfl:=zh (show first.length+1=r.S by rw[← hS.1];exact hq)
 have hbl:b<w.heap.size:=(Array.getElem?_eq_some_iff.1 hC).1
 have HFx:=zh (show ∀ W',Kx (λj=>j=b) w W'->SlE intE 1 W' A n r.fi from λW' h=>slE_kx hF h (λa ha=>hA a ha))
 have HTx:=zh (show ∀ W',Kx (λj=>j=b) w W'->SlE intE 1 W' B m r.th from λW' h=>slE_kx hT h (λa ha=>hB a ha))
 have HSx:=zh (show ∀ W',Kx (λj=>j=b) w W'->SlE intE 1 W' D q first from λW' h=>slE_kx hS h (λa ha=>hD a ha))
 obtain⟨hc1,hc2⟩:=codes_64 hr
 have hsm:r.sums<=73:=by have:=hr.n2;unfold Rg.sums;omega
 have hsm1:1<=r.sums:=by unfold Rg.sums;omega
 obtain⟨nl1,nl2⟩:=nlow_bd hr
 obtain⟨n1,n2,s1,s2,s3,l1,l2,h1,h2,t1,t2,p1,p2,w1,w2,fl,tl,fw,tw⟩:=hr
 have HC:=zh hC
 obtain⟨L,hL⟩:∃ L,r.N+r.S=L:=⟨_,rfl⟩
 obtain⟨K,hK⟩:∃ K,r.codes*r.sums=K:=⟨_,rfl⟩
 rw[hL,hK] at hR0
 have hKi:(r.codes:Int)*(r.sums:Int)=(K:Int):=by rw[← hK];simp
 have hK2:K<=64*73:=by rw[← hK];exact Nat.mul_le_mul hc2 hsm
 have hLi:(r.N:Int)+(r.S:Int)=(L:Int):=by omega
 have HL:=zh hL
 have HK:=zh hK
 have HKi:=zh hKi
 have HLi:=zh hLi
 obtain⟨c0,c1,c2,c3,c4,c5,c6,c7,c8,c9,c10,c11,c12,cf⟩:=circ13 hC
 have hL1:r.N+r.S<=L:=by omega
 have hL2:L<=r.N+r.S:=by omega
 clear fl tl fw tw hg hq hF hT hS hA hB hD hC hL hK hKi hLi
 go_enter Tryz.func74,Tryz.ntmps74
 have hu1:IntKind.i64.wrap ((r.N:Int)+(r.S:Int))=(L:Int):=by rw[HLi.out];exact IntWalk.i64_in _ (by omega)
 have hu2:IntKind.i64.wrap ((L:Int)-1)=(L:Int)-1:=IntWalk.i64_in _ (by omega)
 go_wp2_with fail
 go_quiet (fail)
 clear hu1 hu2
 obtain⟨wd,hwd⟩:∃ wd,w.drewN nq=wd:=⟨_,rfl⟩
 have Hwd:=zh (show Kx (λj=>j=b) w wd by rw[← hwd];exact (Kx.refl _ _).drewN nq)
 have Hcd:=zh (show wd.heap[b]?=some (.cells #[.int .i64 r.N,.int .i64 r.S,.int .i64 r.low,.int .i64 r.high,.int .i64 r.total,.int .i64 r.pure,.int .i64 r.worst,.slice A n c,.slice B m d,.slice D q e,.int .i64 (r.codes:Nat),.int .i64 (r.sums:Nat),.slice none 0 0] 108 (0,0)) by rw[← hwd];exact HC.out)
 rw[hwd]
 clear hwd c0 c1 c2 c3 c4 c5 c6 c7 c8 c9 c10 c11 c12 cf
 obtain⟨c0,c1,c2,c3,c4,c5,c6,c7,c8,c9,c10,c11,c12,cf⟩:=circ13 Hcd.out
 have hbd:b<wd.heap.size:=(Array.getElem?_eq_some_iff.1 Hcd.out).1
 have hmr:=run_mkRows L (by omega)
 have hL3:(L:Int)-1+1=(L:Int):=by omega
 go_upto_region 2 with fail
 clear hmr hL3
 have hst:=rst_start (r:=r) (first:=first) (K:=K) (gs:=λ_=>0) (L:=L) Hcd.out rfl
 obtain⟨rb,hrb⟩:∃ rb,wd.heap.size=rb:=⟨_,rfl⟩
 rw[hrb] at hst ⊢
 obtain⟨W2,hW2⟩:∃ W2,(wd.setCell ⟨b,12,none⟩ (.slice (some ⟨rb,0,none⟩) L L)).alloc (.cells (madeCells #[Value.slice none 0 0] L) 22)=W2:=⟨_,rfl⟩
 rw[hW2] at hst ⊢
 obtain⟨hst,hk2⟩:=hst
 have hrbw:w.heap.size<=rb:=by rw[← hrb];exact Hwd.out.size
 rw[show (#[.int .i64 r.N,.int .i64 r.S,.int .i64 r.low,.int .i64 r.high,.int .i64 r.total,.int .i64 r.pure,.int .i64 r.worst,.slice A n c,.slice B m d,.slice D q e,.int .i64 (r.codes:Nat),.int .i64 (r.sums:Nat),.slice none 0 0]:Array Value).setIfInBounds 12 (.slice (some ⟨rb,0,none⟩) L L)=#[.int .i64 r.N,.int .i64 r.S,.int .i64 r.low,.int .i64 r.high,.int .i64 r.total,.int .i64 r.pure,.int .i64 r.worst,.slice A n c,.slice B m d,.slice D q e,.int .i64 (r.codes:Nat),.int .i64 (r.sums:Nat),.slice (some ⟨rb,0,none⟩) L L] from rfl] at hst
 have Hst:=zh hst
 have Hk2:=zh (Hwd.out.trans hk2 (λj _ h=>h))
 clear hW2 hrb hst hk2 Hcd HC Hwd hbd c0 c1 c2 c3 c4 c5 c6 c7 c8 c9 c10 c11 c12 cf
 go_wp2_with fail
 go_loopw [3] (λs3 wr=>∃ (t:Nat) (a:Int) (gs:Nat->Nat),r.S<=t+1/\t<=L/\s3=.int .i64 a/\(t:Int)-1<=a/\a<=(t:Int)-1/\Rst wr r first b rb L K gs #[.int .i64 r.N,.int .i64 r.S,.int .i64 r.low,.int .i64 r.high,.int .i64 r.total,.int .i64 r.pure,.int .i64 r.worst,.slice A n c,.slice B m d,.slice D q e,.int .i64 (r.codes:Nat),.int .i64 (r.sums:Nat),.slice (some ⟨rb,0,none⟩) L L] t/\Kx (λj=>j=b) w wr) (λs3 _=>(intOf s3+1).toNat)
 case atStart=>exact⟨L,_,_,by omega,Nat.le_refl _,rfl,Int.le_refl _,Int.le_refl _,Hst.out,Hk2.out⟩
 case round =>
  obtain⟨t,a,gs,ht1,ht2,rfl,a1,a2,hR,hk⟩:=hrel
  obtain⟨wo,rfl⟩:∃ wo:World,wo=wr:=⟨_,rfl⟩
  obtain⟨c0,c1,c2,c3,c4,c5,c6,c7,c8,c9,c10,c11,c12,cf⟩:=circ13 hR.circ
  by_cases hlt:r.S<=t
  ·obtain⟨u,rfl⟩:∃ u:Nat,t=u+1:=⟨t-1,by omega⟩
   obtain rfl:a=(u:Int):=by omega
   have hd33:decide ((r.S:Int)-1<=(u:Int))=true:=by simp;omega
   clear a1 a2
   obtain⟨rs,k1,k2,k3⟩:=hR.rows
   have hcr:∃ v,wo.cell? ⟨rb,u,none⟩=some v:=⟨rs[u]'(by omega),by rw[cell_of_row wo rb u _ _ (0,0) k2];simp[show u<rs.length by omega]⟩
   have hfr:wo.frozen? ⟨rb,u,none⟩=false:=by simp[World.frozen?,k2]
   obtain⟨vold,hcr⟩:=hcr
   have hrbl:rb<wo.heap.size:=World.block_lt_of_cell? wo _ hcr
   have hbo:b<wo.heap.size:=World.block_lt_of_cell? wo _ c0
   have ha0:∀ o,(wo.alloc o).cell? ⟨rb,u,none⟩=some vold:=λo=>((below_new wo o).cell (p:=⟨rb,u,none⟩) hrbl).trans hcr
   have ha1:∀ o,(wo.alloc o).cell? ⟨b,10,none⟩=some (.int .i64 (r.codes:Nat)):=λo=>((below_new wo o).cell (p:=⟨b,10,none⟩) hbo).trans c10
   have ha2:∀ o,(wo.alloc o).cell? ⟨b,11,none⟩=some (.int .i64 (r.sums:Nat)):=λo=>((below_new wo o).cell (p:=⟨b,11,none⟩) hbo).trans c11
   have ha3:∀ o,(wo.alloc o).cell? ⟨b,12,none⟩=some (.slice (some ⟨rb,0,none⟩) L L):=λo=>((below_new wo o).cell (p:=⟨b,12,none⟩) hbo).trans c12
   have hfa:∀ o,(wo.alloc o).frozen? ⟨rb,u,none⟩=false:=λo=>((below_new wo o).frozen (p:=⟨rb,u,none⟩) hrbl).trans hfr
   clear k1 k2 k3
   have HR:=zh hR
   have Hk:=zh hk
   clear hR hk
   have hmk:=run_mkInt K (by omega)
   have hKm:IntKind.i64.wrap ((r.codes:Int)*(r.sums:Int))=(K:Int):=by rw[HKi.out];exact IntWalk.i64_in _ (by omega)
   have hu0:(0:Int)<=(u:Int):=by omega
   have huL:(u:Int)<(L:Int):=by omega
   go_wp2_with fail
   go_region
   clear hmk hKm hcr hfr hfa ha0 ha1 ha2 ha3 c0 c1 c2 c3 c4 c5 c6 c7 c8 c9 c10 c11 c12 cf hrbl hbo
   have HFil:=zh (fil_start HR.out (by omega) HK.out.symm Hk.out hrbw).drew
   obtain⟨g,hg⟩:∃ g,wo.heap.size=g:=⟨_,rfl⟩
   rw[hg] at HFil ⊢
   obtain⟨W3,hW3⟩:∃ W3,((wo.setCell ⟨rb,u,none⟩ (.slice (some ⟨g,0,none⟩) K K)).alloc (.cells (madeCells #[Value.int .i64 0] K) 3)).drew=W3:=⟨_,rfl⟩
   rw[hW3] at HFil ⊢
   clear hW3 hg HR Hk
   obtain⟨c0,c1,c2,c3,c4,c5,c6,c7,c8,c9,c10,c11,c12,cf⟩:=circ13 HFil.out.rst.circ
   go_wp2_with fail
   go_loopw [56] (λs56 wr=>∃ (k:Nat) (l:List Int),k<=r.codes/\s56=.int .i64 k/\Fil w wr r first b rb L K gs #[.int .i64 r.N,.int .i64 r.S,.int .i64 r.low,.int .i64 r.high,.int .i64 r.total,.int .i64 r.pure,.int .i64 r.worst,.slice A n c,.slice B m d,.slice D q e,.int .i64 (r.codes:Nat),.int .i64 (r.sums:Nat),.slice (some ⟨rb,0,none⟩) L L] u g (k*r.sums) l) (λi _=>r.codes-(intOf i).toNat)
   case atStart=>exact⟨0,_,Nat.zero_le _,rfl,by rw[Nat.zero_mul];exact HFil.out⟩
   case round =>
    clear HFil c0 c1 c2 c3 c4 c5 c6 c7 c8 c9 c10 c11 c12 cf
    obtain⟨k,l,hk,rfl,hFil⟩:=hrel
    obtain⟨w5,rfl⟩:∃ w5:World,w5=wr:=⟨_,rfl⟩
    have HFil:=zh hFil
    clear hFil
    obtain⟨c0,c1,c2,c3,c4,c5,c6,c7,c8,c9,c10,c11,c12,cf⟩:=circ13 HFil.out.rst.circ
    by_cases hltk:k<r.codes
    ·go_wp2_with fail
     go_loopw [63] (λs63 wr=>∃ (s:Nat) (l:List Int),s<=r.sums/\s63=.int .i64 s/\Fil w wr r first b rb L K gs #[.int .i64 r.N,.int .i64 r.S,.int .i64 r.low,.int .i64 r.high,.int .i64 r.total,.int .i64 r.pure,.int .i64 r.worst,.slice A n c,.slice B m d,.slice D q e,.int .i64 (r.codes:Nat),.int .i64 (r.sums:Nat),.slice (some ⟨rb,0,none⟩) L L] u g (k*r.sums+s) l) (λi _=>r.sums-(intOf i).toNat)
     case atStart=>exact⟨0,_,Nat.zero_le _,rfl,HFil.out⟩
     case round =>
      clear HFil c0 c1 c2 c3 c4 c5 c6 c7 c8 c9 c10 c11 c12 cf
      obtain⟨s,l,hs,rfl,hFil⟩:=hrel
      obtain⟨w6,rfl⟩:∃ w6:World,w6=wr:=⟨_,rfl⟩
      have HFil:=zh hFil
      clear hFil
      obtain⟨c0,c1,c2,c3,c4,c5,c6,c7,c8,c9,c10,c11,c12,cf⟩:=circ13 HFil.out.rst.circ
      by_cases hlts:s<r.sums
      ·have hIdx:=idx_lt hltk hlts
       have HIdx:=zh hIdx
       rw[HK.out] at hIdx
       obtain⟨I,hI⟩:∃ I,k*r.sums+s=I:=⟨_,rfl⟩
       rw[hI] at hIdx HIdx
       have hIk:(I:Int)<(K:Int):=by omega
       have hI0:(0:Int)<=(I:Int):=by omega
       have hIz:(k:Int)*(r.sums:Int)+(s:Int)=(I:Int):=by rw[← hI];simp
       have hZs:(0:Int)<=(k:Int)*(r.sums:Int):=Int.mul_nonneg (by omega) (by omega)
       have hu1:IntKind.i64.wrap ((k:Int)*(r.sums:Int))=(k:Int)*(r.sums:Int):=IntWalk.i64_in _ (by omega)
       have hu2:IntKind.i64.wrap ((k:Int)*(r.sums:Int)+(s:Int))=(I:Int):=by rw[hIz];exact IntWalk.i64_in _ (by omega)
       have hu4:IntKind.i64.wrap (I:Int)=(I:Int):=IntWalk.i64_in _ (by omega)
       have Hu:=zh (And.intro hu1 (And.intro hu2 (And.intro hu4 hIz)))
       have HI:=zh hI
       have Hval:=zh (rowV_get (r:=r) (first:=first) (n:=L-1-u) (t:=u) hltk hlts)
       rw[hI] at Hval HFil
       clear hu1 hu2 hu4 hI hIz hIdx
       have hu0:(0:Int)<=(u:Int):=by omega
       have huL:(u:Int)<(L:Int):=by omega
       by_cases hend:u+1<L
       ·obtain⟨hr1,-⟩:=HFil.out.rst.row (Nat.le_refl _) hend
        have hx1:=(HFil.out.rst.own _ (Nat.le_refl _) hend).sl (show K=(r.rowV first (L-1-(u+1)) (u+1)).length by rw[rowV_len];exact HK.out.symm)
        have hkk:=HFil.out.kx
        have hend':(u:Int)<(L:Int)-1:=by omega
        go_wp2_with fail
        (with_reducible refine (best_any r Hok.out A B D n c m d q e first Hg.out b rb (gs (u+1)) L K (L-1-(u+1)) k s u _ HFil.out.rst.circ (HFx.out _ hkk) (HTx.out _ hkk) (HSx.out _ hkk) Hq.out hr1 HK.out.symm HL.out.symm hx1 (by omega) hltk hlts (by omega)).mono ?_)
        rintro en w7 ⟨rfl,hb7⟩
        obtain⟨X,hX⟩:∃ X,((r.lay first).best (L-1-(u+1)) u (k,s)).1=X:=⟨_,rfl⟩
        have Hval:=zh (show (r.rowV first (L-1-u) u)[I]?=some X by rw[Hval.out,show L-1-u=(L-1-(u+1))+1 by omega,← hX];rfl)
        rw[hX]
        have HFil:=zh (HFil.out.below hb7)
        clear hX hb7 hkk hr1 hx1 c0 c1 c2 c3 c4 c5 c6 c7 c8 c9 c10 c11 c12 cf
        obtain⟨c0,c1,c2,c3,c4,c5,c6,c7,c8,c9,c10,c11,c12,cf⟩:=circ13 HFil.out.rst.circ
        obtain⟨q0,qf,vo,q1⟩:=HFil.out.cells HIdx.out
        have Hset:=zh (HFil.out.set HIdx.out Hval.out)
        go_upto_region 17 with fail
        obtain⟨hu1,hu2,hu4,hIz⟩:=Hu.out
        go_still_tail 17,(by kernel_rfl)
        clear hu1 hu2 hu4 hIz
        go_wp2_with fail
        exact⟨⟨s+1,_,by omega,by go_num,by rw[← Nat.add_assoc,HI.out];exact Hset.out.drew⟩,by simp[intOf];omega⟩
       ·have hend':¬ (u:Int)<(L:Int)-1:=by omega
        have Hval:=zh (show (r.rowV first (L-1-u) u)[I]?=some (if (s:Int)=r.total-r.N*r.low then 0 else -1) by
         rw[Hval.out,show L-1-u=0 by omega]
         simp[Lay.val,Rg.lay])
        have hv1:IntKind.i64.wrap ((r.N:Int)*r.low)=(r.N:Int)*r.low:=IntWalk.i64_in _ (by omega)
        have hv2:IntKind.i64.wrap (r.total-(r.N:Int)*r.low)=r.total-(r.N:Int)*r.low:=IntWalk.i64_in _ (by omega)
        by_cases hfin:(s:Int)=r.total-(r.N:Int)*r.low
        ·have Hval:=zh (show (r.rowV first (L-1-u) u)[I]?=some 0 by rw[Hval.out,if_pos hfin])
         have hb0:((s:Int)==r.total-(r.N:Int)*r.low)=true:=by simp[hfin]
         clear hfin
         go_wp2_with fail
         go_quiet (fail)
         clear hv1 hv2
         have HFil:=zh (HFil.out.drewN nq)
         obtain⟨w7,hw7⟩:∃ w7,w6.drewN nq=w7:=⟨_,rfl⟩
         rw[hw7] at HFil ⊢
         clear hw7 c0 c1 c2 c3 c4 c5 c6 c7 c8 c9 c10 c11 c12 cf
         obtain⟨c0,c1,c2,c3,c4,c5,c6,c7,c8,c9,c10,c11,c12,cf⟩:=circ13 HFil.out.rst.circ
         obtain⟨q0,qf,vo,q1⟩:=HFil.out.cells HIdx.out
         have Hset:=zh (HFil.out.set HIdx.out Hval.out)
         go_upto_region 17 with fail
         obtain⟨hu1,hu2,hu4,hIz⟩:=Hu.out
         go_still_tail 17,(by kernel_rfl)
         clear hu1 hu2 hu4 hIz
         go_wp2_with fail
         exact⟨⟨s+1,_,by omega,by go_num,by rw[← Nat.add_assoc,HI.out];exact Hset.out.drew⟩,by simp[intOf];omega⟩
        ·have Hval:=zh (show (r.rowV first (L-1-u) u)[I]?=some (-1) by rw[Hval.out,if_neg hfin])
         have hb0:((s:Int)==r.total-(r.N:Int)*r.low)=false:=by simpa using hfin
         clear hfin
         go_wp2_with fail
         go_quiet (fail)
         clear hv1 hv2
         have HFil:=zh (HFil.out.drewN nq)
         obtain⟨w7,hw7⟩:∃ w7,w6.drewN nq=w7:=⟨_,rfl⟩
         rw[hw7] at HFil ⊢
         clear hw7 c0 c1 c2 c3 c4 c5 c6 c7 c8 c9 c10 c11 c12 cf
         obtain⟨c0,c1,c2,c3,c4,c5,c6,c7,c8,c9,c10,c11,c12,cf⟩:=circ13 HFil.out.rst.circ
         obtain⟨q0,qf,vo,q1⟩:=HFil.out.cells HIdx.out
         have Hset:=zh (HFil.out.set HIdx.out Hval.out)
         go_upto_region 17 with fail
         obtain⟨hu1,hu2,hu4,hIz⟩:=Hu.out
         go_still_tail 17,(by kernel_rfl)
         clear hu1 hu2 hu4 hIz
         go_wp2_with fail
         exact⟨⟨s+1,_,by omega,by go_num,by rw[← Nat.add_assoc,HI.out];exact Hset.out.drew⟩,by simp[intOf];omega⟩
      ·obtain rfl:s=r.sums:=by omega
       go_wp2_with fail
       exact⟨⟨k+1,l,by omega,by go_num,by rw[Nat.succ_mul];exact HFil.out⟩,by simp[intOf];omega⟩
    ·obtain rfl:k=r.codes:=by omega
     go_wp2_with fail
     exact⟨⟨u,(u:Int)-1,_,by omega,by omega,rfl,Int.le_refl _,Int.le_refl _,by exact HFil.out.fin,by exact HFil.out.kx⟩,by simp[intOf]<;>omega⟩
  ·have hts:t=r.S-1:=by omega
   subst hts
   have Hf:=zh (hR0.out _ wo ⟨rfl,rb,gs,hR,hk⟩)
   clear hR hk hR0
   go_wp2_with fail
   go_end0
   exact Hf.out
end
section
open Go.RowKit
theorem fold_take(f:Nat->Int->Nat)(l:List Int)(k:Nat)(x:Int)(hx:l[k]?=some x)(z:Nat):(l.take (k+1)).foldl f z=f ((l.take k).foldl f z) x:=by
 obtain⟨hk,rfl⟩:=List.getElem?_eq_some_iff.1 hx
 rw[List.take_succ_eq_append_getElem hk,List.foldl_append]
 rfl
theorem sum0_take{r:Rg}{l:List Int}{k:Nat}{x:Int}(hx:l[k]?=some x):r.sum0 (l.take (k+1))=r.sum0 (l.take k)+(x-r.low).toNat:=fold_take _ l k x hx 0
theorem code0_take{r:Rg}{l:List Int}{k:Nat}{x:Int}(hx:l[k]?=some x):r.code0 (l.take (k+1))=r.code0 (l.take k)*4+(x-r.low).toNat:=fold_take _ l k x hx 0
theorem above_any(r:Rg)(hr:r.Ok)(A B D:Option Addr)(n c m d q e:Nat)(first:List Int)(w:World)(hS:SlE intE 1 w D q first)(hq:q<=24)(hg:∀ x∈first,r.low<=x/\x<=r.high) :
 Calls Tryz.prog 31 #[.agg #[.int .i64 r.N,.int .i64 r.S,.int .i64 r.low,.int .i64 r.high,.int .i64 r.total,.int .i64 r.pure,.int .i64 r.worst,.slice A n c,.slice B m d],.slice D q e] w λen w'=>en=.returned (.int .i64 (r.sum0 first:Nat))/\Below w.heap.size w w':=by
 refine calls_cps ?_
 intro R hR
 have h2:=hr.h2
 have l1:=hr.l1
 have l2:=hr.l2
 have Hg:=zh hg
 have Hl:=zh hS.1
 have Hfin:=zh (hR.out _ _ ⟨rfl,below_new w (.cells #[.int .i64 r.N,.int .i64 r.S,.int .i64 r.low,.int .i64 r.high,.int .i64 r.total,.int .i64 r.pure,.int .i64 r.worst,.slice A n c,.slice B m d] 24)⟩)
 clear hR hg hr
 go_enter Tryz.func31,Tryz.ntmps31
 go_wp2_with fail
 go_loop [5,10] (λs5 s10=>∃ (k T:Nat),k<=q/\s10=.int .i64 (k:Nat)/\s5=.int .i64 (T:Nat)/\T<=3*k/\Hid (T=r.sum0 (first.take k))) (λ_ i=>q-(intOf i).toNat)
 case atStart=>exact⟨0,0,Nat.zero_le _,rfl,rfl,by omega,zh rfl⟩
 case round =>
  obtain⟨k,T,hk,rfl,rfl,hT,HT⟩:=hrel
  by_cases hlt:k<q
  ·obtain⟨b,o,x,rfl,hbl,hs,c0⟩:=(hS.alloc (.cells #[.int .i64 r.N,.int .i64 r.S,.int .i64 r.low,.int .i64 r.high,.int .i64 r.total,.int .i64 r.pure,.int .i64 r.worst,.slice A n c,.slice B m d] 24)).at1 hlt
   obtain⟨x1,x2⟩:=Hg.out x (List.mem_of_getElem? hs)
   have HT2:=zh (show T+(x-r.low).toNat=r.sum0 (first.take (k+1)) by rw[sum0_take hs,HT.out])
   have hc:(T:Int)+(x-r.low)=((T+(x-r.low).toNat:Nat):Int):=by omega
   have Hc:=zh hc
   clear hs hc
   go_wp2_with fail
   exact⟨⟨k+1,T+(x-r.low).toNat,by omega,by go_num,by rw[Hc.out],by omega,HT2⟩,by simp[intOf];omega⟩
  ·obtain rfl:k=q:=by omega
   have Hf:=zh (show R (.returned (.int .i64 (T:Nat))) _ from by
    have h:=Hfin.out
    rw[show first=first.take k by rw[List.take_of_length_le (by rw[Hl.out];exact Nat.le_refl _)],← HT.out] at h
    exact h)
   clear Hfin
   go_wp2
   exact Hf.out
theorem begin_any(r:Rg)(hr:r.Ok)(A B D:Option Addr)(n c m d q e:Nat)(first:List Int)(w:World)(hF:SlE intE 1 w A n r.fi)(hT:SlE intE 1 w B m r.th)(hS:SlE intE 1 w D q first)(hq:q+1=r.S)(hg:∀ x∈first,r.low<=x/\x<=r.high) :
 Calls Tryz.prog 30 #[.agg #[.int .i64 r.N,.int .i64 r.S,.int .i64 r.low,.int .i64 r.high,.int .i64 r.total,.int .i64 r.pure,.int .i64 r.worst,.slice A n c,.slice B m d],.slice D q e] w λen w'=>∃ (b rb:Nat) (gs:Nat->Nat),en=.returned (.tuple #[.pointer (some ⟨b,0,none⟩),.int .i64 (r.code0 first:Nat),.int .i64 (r.costB first)])/\
  Rst w' r first b rb (r.N+r.S) (r.codes*r.sums) gs #[.int .i64 r.N,.int .i64 r.S,.int .i64 r.low,.int .i64 r.high,.int .i64 r.total,.int .i64 r.pure,.int .i64 r.worst,.slice A n c,.slice B m d,.slice D q e,.int .i64 (r.codes:Nat),.int .i64 (r.sums:Nat),.slice (some ⟨rb,0,none⟩) (r.N+r.S) (r.N+r.S)] (r.S-1)/\
  w.heap.size<=b/\Below w.heap.size w w':=by
 refine calls_cps ?_
 intro R hR
 have Hok:=zh hr
 have Hg:=zh hg
 have Hl:=zh hS.1
 have Hq:=zh hq
 have Hn:=zh (hF.1.trans hr.fl)
 obtain⟨n1,n2,s1,s2,s3,l1,l2,h1,h2,t1,t2,p1,p2,w1,w2,fl,tl,fw,tw⟩:=hr
 have hsums:(r.N:Int)*3+1=(r.sums:Int):=by unfold Rg.sums;simp
 have Hsums:=zh hsums
 have hsm:r.sums<=73:=by unfold Rg.sums;omega
 clear fl tl fw tw hg hq hsums
 go_enter Tryz.func30,Tryz.ntmps30
 go_wp2_with fail
 obtain⟨W0,hW0⟩:∃ W0,(w.alloc (.cells #[.int .i64 r.N,.int .i64 r.S,.int .i64 r.low,.int .i64 r.high,.int .i64 r.total,.int .i64 r.pure,.int .i64 r.worst,.slice A n c,.slice B m d] 24)).alloc (.cells #[.int .i64 r.N,.int .i64 r.S,.int .i64 r.low,.int .i64 r.high,.int .i64 r.total,.int .i64 r.pure,.int .i64 r.worst,.slice A n c,.slice B m d,.slice D q e,.int .i64 1,.int .i64 ((r.N:Int)*3+1),.slice none 0 0] 108)=W0:=⟨_,rfl⟩
 have Hbel:=zh (show Below w.heap.size w W0 from by rw[← hW0];exact below_two w _ _)
 have Hbox:=zh (show W0.heap[w.heap.size]?=some (.cells #[.int .i64 r.N,.int .i64 r.S,.int .i64 r.low,.int .i64 r.high,.int .i64 r.total,.int .i64 r.pure,.int .i64 r.worst,.slice A n c,.slice B m d] 24) from by rw[← hW0,Below.heap_alloc _ _ _ (by simp)];exact heap_alloc_new w _)
 have Hcirc:=zh (show W0.heap[w.heap.size+1]?=some (.cells #[.int .i64 r.N,.int .i64 r.S,.int .i64 r.low,.int .i64 r.high,.int .i64 r.total,.int .i64 r.pure,.int .i64 r.worst,.slice A n c,.slice B m d,.slice D q e,.int .i64 (((1:Nat):Int)),.int .i64 (r.sums:Nat),.slice none 0 0] 108 (0,0)) from by
  rw[← hW0,← Hsums.out]
  have h:=heap_alloc_new (w.alloc (.cells #[.int .i64 r.N,.int .i64 r.S,.int .i64 r.low,.int .i64 r.high,.int .i64 r.total,.int .i64 r.pure,.int .i64 r.worst,.slice A n c,.slice B m d] 24)) (.cells #[.int .i64 r.N,.int .i64 r.S,.int .i64 r.low,.int .i64 r.high,.int .i64 r.total,.int .i64 r.pure,.int .i64 r.worst,.slice A n c,.slice B m d,.slice D q e,.int .i64 1,.int .i64 ((r.N:Int)*3+1),.slice none 0 0] 108)
  rw[World.size_alloc] at h
  exact h)
 rw[hW0]
 clear hW0
 obtain⟨bx,hbx⟩:∃ bx,w.heap.size=bx:=⟨_,rfl⟩
 have Hbx:=zh hbx
 rw[hbx] at Hbel Hbox Hcirc ⊢
 have hF0:=hF.below (show Below w.heap.size w W0 by rw[hbx];exact Hbel.out)
 have hT0:=hT.below (show Below w.heap.size w W0 by rw[hbx];exact Hbel.out)
 have hS0:=hS.below (show Below w.heap.size w W0 by rw[hbx];exact Hbel.out)
 have HA:=zh (show ∀ a,A=some a->a.block<bx from λa ha=>by
  obtain⟨b',o',h1,h2,_⟩:=hF.2.2 (by rw[Hn.out];omega)
  rw[ha] at h1
  injection h1 with h1
  subst h1
  rw[← hbx];exact h2)
 have HB:=zh (show ∀ a,B=some a->a.block<bx from λa ha=>by
  obtain⟨b',o',h1,h2,_⟩:=hT.2.2 (by rw[hT.1,Hok.out.tl];omega)
  rw[ha] at h1
  injection h1 with h1
  subst h1
  rw[← hbx];exact h2)
 have HD:=zh (show ∀ a,D=some a->a.block<bx from λa ha=>by
  obtain⟨b',o',h1,h2,_⟩:=hS.2.2 (by have:=Hq.out;omega)
  rw[ha] at h1
  injection h1 with h1
  subst h1
  rw[← hbx];exact h2)
 have HFx:=zh (show ∀ W',Kx (λj=>j=bx+1) W0 W'->SlE intE 1 W' A n r.fi from λW' h=>slE_kx hF0 h (λa ha=>by have:=HA.out a ha;omega))
 have HTx:=zh (show ∀ W',Kx (λj=>j=bx+1) W0 W'->SlE intE 1 W' B m r.th from λW' h=>slE_kx hT0 h (λa ha=>by have:=HB.out a ha;omega))
 have HSx:=zh (show ∀ W',Kx (λj=>j=bx+1) W0 W'->SlE intE 1 W' D q first from λW' h=>slE_kx hS0 h (λa ha=>by have:=HD.out a ha;omega))
 have hbxl:bx<W0.heap.size:=(Array.getElem?_eq_some_iff.1 Hbox.out).1
 have Hboxx:=zh (show ∀ W',Kx (λj=>j=bx+1) W0 W'->W'.heap[bx]?=some (.cells #[.int .i64 r.N,.int .i64 r.S,.int .i64 r.low,.int .i64 r.high,.int .i64 r.total,.int .i64 r.pure,.int .i64 r.worst,.slice A n c,.slice B m d] 24) from λW' h=>(h.block bx hbxl (by omega)).trans Hbox.out)
 clear hF hT hS hF0 hT0 hS0 hbx
 have hq3:q<=3:=by have:=Hq.out;omega
 go_loopw [8,9,22] (λs8 s9 s22 wr=>∃ (k cc Cd:Nat) (T:Int),k<=q/\s22=.int .i64 (k:Nat)/\s8=.int .i64 (cc:Nat)/\cc<Cd/\Cd<=64/\s9=.int .i64 T/\0<=T/\T<=225000*(k:Int)/\
  Hid (Cd=4 ^ k/\cc=r.code0 (first.take k)/\T=totF (λi=>r.fi.getD i 0*first.getD i 0*first.getD i 0) 0 k)/\wr.heap[bx+1]?=some (.cells #[.int .i64 r.N,.int .i64 r.S,.int .i64 r.low,.int .i64 r.high,.int .i64 r.total,.int .i64 r.pure,.int .i64 r.worst,.slice A n c,.slice B m d,.slice D q e,.int .i64 ((Cd:Nat)),.int .i64 (r.sums:Nat),.slice none 0 0] 108 (0,0))/\Kx (λj=>j=bx+1) W0 wr) (λ_ _ i _=>q-(intOf i).toNat)
 case atStart=>exact⟨0,0,1,0,Nat.zero_le _,rfl,rfl,by omega,by omega,rfl,by omega,by omega,zh ⟨rfl,rfl,rfl⟩,Hcirc.out,Kx.refl _ _⟩
 case round =>
  obtain⟨k,cc,Cd,T,hk,rfl,rfl,hcc,hCd,rfl,T0,T1,HT,hC,hkx⟩:=hrel
  obtain⟨wo,rfl⟩:∃ wo:World,wo=wr:=⟨_,rfl⟩
  by_cases hlt:k<q
  ·have hCd4:Cd*4<=64:=by
    have:=HT.out.1
    obtain e|e|e:k=0\/k=1\/k=2:=by omega
    all_goals subst e;simp at this;omega
   have q10:wo.cell? ⟨bx+1,10,none⟩=some (.int .i64 (Cd:Int)):=by rw[cell_of_row _ _ 10 _ _ (0,0) hC];rfl
   have qf:∀ j,wo.frozen? ⟨bx+1,j,none⟩=false:=λj=>by simp[World.frozen?,hC]
   obtain⟨b3,o3,x,rfl,-,hx,x0⟩:=(HSx.out _ hkx).at1 hlt
   obtain⟨x1,x2⟩:=Hg.out x (List.mem_of_getElem? hx)
   have HCs:=zh (setCell_cells (i:=10) (v:=.int .i64 ((Cd:Int)*4)) hC)
   have Hkx:=zh (hkx.trans (kx_setb wo (bx+1) 10 (.int .i64 ((Cd:Int)*4))) (λj _ h=>h))
   clear hC hkx
   go_upto_region 7 with fail
   obtain⟨W6,hW6⟩:∃ W6,wo.setCell ⟨bx+1,10,none⟩ (.int .i64 ((Cd:Int)*4))=W6:=⟨_,rfl⟩
   rw[hW6] at HCs Hkx ⊢
   clear hW6 q10 qf x0
   obtain⟨c0,c1,c2,c3,c4,c5,c6,c7,c8,cf⟩:=ring9 (Hboxx.out _ Hkx.out)
   obtain⟨b1,o1,y,rfl,-,hy,y0⟩:=(HFx.out _ Hkx.out).at1 (k:=k) (by rw[Hn.out];omega)
   have hyb:=(wt_1000 Hok.out k).1
   rw[getD_some hy] at hyb
   obtain⟨⟨m1,m2⟩,m3,m4⟩:=wss_bd (s:=x) (S:=15) hyb (by omega) (by omega)
   have hkn : (k : Int) < (n : Int) := by have : k < n := (by rw [Hn.out]; omega)
                                          omega
   have HT2:=zh (show T+y*x*x=totF (λi=>r.fi.getD i 0*first.getD i 0*first.getD i 0) 0 (k+1) by rw[totF_snoc,← HT.out.2.2,getD_some hy,getD_some hx])
   have HT3:=zh (show cc*4+(x-r.low).toNat=r.code0 (first.take (k+1)) by rw[code0_take hx,← HT.out.2.1])
   have HT4:=zh (show Cd*4=4 ^ (k+1) by rw[HT.out.1,Nat.pow_succ])
   have Hc:=zh (show (cc:Int)*4+x-r.low=((cc*4+(x-r.low).toNat:Nat):Int) by omega)
   clear hx hy
   have hT15:T+y*x*x<=225000*((k+1:Nat):Int):=by omega
   have hT00:0<=T+y*x*x:=by omega
   go_wp2_with fail
   exact⟨⟨k+1,cc*4+(x-r.low).toNat,Cd*4,_,by omega,by go_num,by rw[Hc.out],by omega,hCd4,rfl,hT00,hT15,zh ⟨HT4.out,HT3.out,HT2.out⟩,by exact HCs.out,by exact Hkx.out⟩,by simp[intOf];omega⟩
  ·obtain rfl:k=q:=by omega
   have hcd:Cd=r.codes:=by rw[HT.out.1,Rg.codes,← Hq.out,Nat.add_sub_cancel]
   subst hcd
   have hcc2:cc=r.code0 first:=by rw[HT.out.2.1,List.take_of_length_le (by rw[Hl.out];exact Nat.le_refl _)]
   have hTc:T=r.costB first:=by rw[HT.out.2.2,Rg.costB,← Hq.out,Nat.add_sub_cancel]
   subst hcc2 hTc
   go_wp2_with fail
   (with_reducible refine (fill_any r Hok.out A B D n c m d k e first Hg.out (bx+1) _ hC (HFx.out _ hkx) (HTx.out _ hkx) (HSx.out _ hkx) Hq.out (λa ha=>by have:=HA.out a ha;omega) (λa ha=>by have:=HB.out a ha;omega) (λa ha=>by have:=HD.out a ha;omega)).mono ?_)
   rintro en w7 ⟨rfl,rb,gs,hR7,hk7⟩
   have hbl7:=Kx.low Hbel.out (hkx.trans hk7 (λj _ h=>h)) (λj h=>by subst h;omega) (by omega)
   have Hf:=zh (hR.out _ w7 ⟨bx+1,rb,gs,rfl,hR7,by rw[Hbx.out];omega,by rw[Hbx.out];exact hbl7⟩)
   clear hR hR7 hk7 hbl7
   go_wp2_with fail
   go_ret3
   exact Hf.out
end
section
open Go.RowKit
theorem fol_step{σ:Type}{Y:Lay σ}(hp:Y.Pos){n t:Nat}{s:σ}(h:0<=Y.val (n+1) t s) :
 ∃ s' p,(Y.lo t<=(Y.best n t s).2/\(Y.best n t s).2<=Y.hi t)/\Y.tr t s (Y.best n t s).2=some (s',p)/\0<=Y.val n (t+1) s'/\Y.follow (n+1) t s=(Y.best n t s).2 :: Y.follow n (t+1) s':=by
 have hpk:=pick_ok (Y:=Y) hp (val:=Y.val n (t+1)) (t:=t) (s:=s) (lo:=Y.lo t) (Y.cnt t) (Y.lo t) (-1,0) (Int.le_refl _) (.inl ⟨rfl,λx s' p h1 h2 _=>by omega⟩)
 have hv:Y.val (n+1) t s=(Y.best n t s).1:=rfl
 rw[show Y.pick (Y.val n (t+1)) t s (Y.cnt t) (Y.lo t) (-1,0)=Y.best n t s from rfl] at hpk
 rcases hpk with⟨h1,_⟩|⟨h1,s',p,h2,h3,h4,h5,h6,h7⟩
 ·omega
 ·exact⟨s',p,⟨h2,by unfold Lay.cnt at h3;omega⟩,h4,h5,by rw[Lay.follow,h4]⟩
def FolI(r:Rg)(first:List Int)(t n:Nat)(s:Nat×Nat)(out:List Int):Prop:=0<=(r.lay first).val n t s/\out++((r.lay first).follow n t s).take (r.N-t)=r.wayB first
theorem FolI.step{r:Rg}(hr:r.Ok){first:List Int}{t z cc sm:Nat}{out:List Int}(h:FolI r first t (z+1) (cc,sm) out)(ht:t<r.N) :
 ∃ a:Int,((r.lay first).best z t (cc,sm)).2=a/\r.low<=a/\a<=r.high/\sm+(a-r.low).toNat<r.sums/\FolI r first (t+1) z ((cc*4+(a-r.low).toNat)%r.codes,sm+(a-r.low).toNat) (out++[a]):=by
 obtain⟨h1,h2⟩:=h
 obtain⟨s',p,k1,k2,k3,k4⟩:=fol_step (lay_pos hr first) h1
 refine⟨_,rfl,?_⟩
 obtain⟨a,ha⟩:∃ a,((r.lay first).best z t (cc,sm)).2=a:=⟨_,rfl⟩
 rw[ha] at k1 k2 k4 ⊢
 rw[lay_tr] at k2
 simp only[if_pos ht] at k2
 have hl:(r.lay first).lo t=r.low:=by simp[Rg.lay,ht]
 have hh:(r.lay first).hi t=r.high:=by simp[Rg.lay,ht]
 rw[hl,hh] at k1
 by_cases hc : -r.worst<=r.offC cc a (r.S-1)/\r.offC cc a (r.S-1)<=r.worst/\sm+(a-r.low).toNat<r.sums
 ·rw[if_pos hc] at k2
  simp only[Option.some.injEq,Prod.mk.injEq] at k2
  obtain⟨rfl,-⟩:=k2
  refine⟨k1.1,k1.2,hc.2.2,k3,?_⟩
  rw[k4,show r.N-t=(r.N-(t+1))+1 by omega,List.take_succ_cons] at h2
  rw[List.append_assoc]
  exact h2
 ·rw[if_neg hc] at k2;cases k2
theorem sum0_lt{r:Rg}(hr:r.Ok){first:List Int}(hf:first.length<=r.N)(hg:∀ x∈first,r.low<=x/\x<=r.high):r.sum0 first<r.sums:=by
 have h2:=hr.h2
 have key:∀ (l:List Int) (z:Nat),(∀ x∈l,r.low<=x/\x<=r.high)->l.foldl (λc s=>c+(s-r.low).toNat) z<=z+3*l.length:=by
  intro l
  induction l with
  |nil=>intro z _;simp
  |cons a l ih =>
   intro z h
   have ha:=h a (by simp)
   have:=ih (z+(a-r.low).toNat) (λx hx=>h x (by simp[hx]))
   simp only[List.foldl_cons,List.length_cons]
   omega
 have:=key first 0 hg
 unfold Rg.sum0 Rg.sums
 omega
theorem code0_lt{r:Rg}(hr:r.Ok){first:List Int}(hf:first.length+1=r.S)(hg:∀ x∈first,r.low<=x/\x<=r.high):r.code0 first<r.codes:=by
 have h2:=hr.h2
 have key:∀ k,k<=first.length->r.code0 (first.take k)<4 ^ k:=by
  intro k
  induction k with
  |zero=>intro _;simp[Rg.code0]
  |succ k ih =>
   intro hk
   have hx:first[k]?=some (first[k]'(by omega)):=List.getElem?_eq_getElem (by omega)
   have hb:=hg _ (List.getElem_mem (show k<first.length by omega))
   have:=ih (by omega)
   rw[code0_take hx,Nat.pow_succ]
   omega
 have:=key first.length (Nat.le_refl _)
 rw[List.take_length] at this
 unfold Rg.codes
 rwa [← hf,Nat.add_sub_cancel]
theorem follow_any(r:Rg)(hr:r.Ok)(A B D:Option Addr)(n c m d q e:Nat)(first:List Int)(hg:∀ x∈first,r.low<=x/\x<=r.high)(b rb:Nat)(gs:Nat->Nat)(w:World)
 (hR:Rst w r first b rb (r.N+r.S) (r.codes*r.sums) gs #[.int .i64 r.N,.int .i64 r.S,.int .i64 r.low,.int .i64 r.high,.int .i64 r.total,.int .i64 r.pure,.int .i64 r.worst,.slice A n c,.slice B m d,.slice D q e,.int .i64 (r.codes:Nat),.int .i64 (r.sums:Nat),.slice (some ⟨rb,0,none⟩) (r.N+r.S) (r.N+r.S)] (r.S-1))
 (hF:SlE intE 1 w A n r.fi) (hT:SlE intE 1 w B m r.th) (hS:SlE intE 1 w D q first) (hq:q+1=r.S) (hv:0<=r.valB first) :
 Calls Tryz.prog 32 #[.pointer (some ⟨b,0,none⟩),.int .i64 (r.code0 first:Nat)] w λen w'=>∃ A' c',en=.returned (.slice A' r.N c')/\w'.ownsRow w.heap.size 3 1 (.slice A' r.N c') r.N ((r.wayB first).flatMap intE)/\Below w.heap.size w w':=by
 refine calls_cps ?_
 intro R hR0
 have Hok:=zh hr
 have Hg:=zh hg
 have Hq:=zh hq
 have Hl:=zh hS.1
 have hN:=hr.n2
 have h2:=hr.h2
 have r1:=hr.l1
 have r2:=hr.l2
 have s1:=hr.s1
 have s2:=hr.s2
 have s3:=hr.s3
 have hfl:first.length+1=r.S:=by rw[← hS.1];exact hq
 have Hc0:=zh (code0_lt hr hfl hg)
 have Hs0:=zh (sum0_lt hr (by omega) hg)
 obtain⟨hc1,hc2⟩:=codes_64 hr
 have hsm:r.sums<=73:=by unfold Rg.sums;omega
 have HI0:=zh (show FolI r first (r.S-1) r.N (r.code0 first,r.sum0 first) first from ⟨hv,rfl⟩)
 obtain⟨bd,od,rfl,-,-⟩:=hS.2.2 (by omega)
 have hbl:b<w.heap.size:=(Array.getElem?_eq_some_iff.1 hR.circ).1
 have HR:=zh hR
 have HF:=zh hF
 have HT:=zh hT
 have HS:=zh hS
 obtain⟨c0,c1,c2,c3,c4,c5,c6,c7,c8,c9,c10,c11,c12,cf⟩:=circ13 hR.circ
 have hq3:q<=3:=by omega
 have hqS:r.S-1=q:=by omega
 rw[hqS] at HI0
 have HqS:=zh hqS
 clear hr hg hq hfl hR hF hT hS hv hqS
 obtain⟨z0,hz0⟩:∃ z,r.code0 first=z:=⟨_,rfl⟩
 rw[hz0] at Hc0 HI0 ⊢
 clear hz0
 go_enter Tryz.func32,Tryz.ntmps32
 go_wp2_with fail
 (with_reducible refine (clone_any ⟨bd,od,none⟩ q e first _ HS.out (by omega)).mono ?_)
 rintro en w1 ⟨A1,e1,rfl,ho1,hb1⟩
 have HB1:=zh hb1
 have Ho1:=zh ho1
 obtain⟨bo,oo,hA1,-,-⟩:=(SlE.of_own ho1 Hl.out).2.2 (by have:=Hq.out;omega)
 clear hA1 c0 c1 c2 c3 c4 c5 c6 c7 c8 c9 c10 c11 c12 cf
 obtain⟨c0,c1,c2,c3,c4,c5,c6,c7,c8,c9,c10,c11,c12,cf⟩:=circ13 (HR.out.below hb1).circ
 clear hb1 ho1
 go_wp2_with fail
 (with_reducible refine (above_any r Hok.out A B A1 n c m d q e1 first _ (SlE.of_own Ho1.out Hl.out) (by omega) Hg.out).mono ?_)
 rintro en w2 ⟨rfl,hb2⟩
 have HB2:=zh (HB1.out.trans (hb2.mono HB1.out.size))
 have Ho2:=zh (ownsRow_below Ho1.out hb2)
 clear hb2 c0 c1 c2 c3 c4 c5 c6 c7 c8 c9 c10 c11 c12 cf
 obtain⟨y0,hy0⟩:∃ z,r.sum0 first=z:=⟨_,rfl⟩
 rw[hy0] at Hs0 HI0 ⊢
 clear hy0
 go_wp2_with fail
 go_loopw [1,5,6,7] (λs1 s5 s6 s7 wr=>∃ (t cc sm:Nat) (out:List Int) (A':Option Addr) (c':Nat),q<=t/\t<=r.N/\s7=.int .i64 (t:Nat)/\s1=.int .i64 (cc:Nat)/\s6=.int .i64 (sm:Nat)/\s5=.slice A' t c'/\cc<r.codes/\sm<r.sums/\
  Hid (FolI r first t (r.N+q-t) (cc,sm) out)/\wr.ownsRow w.heap.size 3 1 (.slice A' t c') t (out.flatMap intE)/\Below w.heap.size w wr) (λ_ _ _ i _=>r.N-(intOf i).toNat)
 case atStart=>exact⟨q,z0,y0,first,A1,e1,Nat.le_refl _,by omega,rfl,rfl,rfl,rfl,Hc0.out,Hs0.out,zh (by rw[Nat.add_sub_cancel];exact HI0.out),Ho2.out,HB2.out⟩
 case round =>
  obtain⟨t,cc,sm,out,A',c',ht1,ht2,rfl,rfl,rfl,rfl,hcc,hsmm,HI,ho,hb⟩:=hrel
  obtain⟨wo,rfl⟩:∃ wo:World,wo=wr:=⟨_,rfl⟩
  obtain⟨c0,c1,c2,c3,c4,c5,c6,c7,c8,c9,c10,c11,c12,cf⟩:=circ13 (HR.out.below hb).circ
  have HO:=zh ho
  have HB:=zh hb
  clear ho hb
  by_cases hlt:t<r.N
  ·obtain⟨z,hz⟩:∃ z,r.N+q-t=z+1:=⟨r.N+q-t-1,by omega⟩
   have hz2:r.N+q-(t+1)=z:=by omega
   obtain⟨a,ha,ha1,ha2,ha3,HI2⟩:=FolI.step Hok.out (by have:=HI.out;rwa [hz] at this) hlt
   have HI2:=zh HI2
   have Ha:=zh ha
   have Hz:=zh hz
   have Hz2:=zh hz2
   clear ha hz hz2
   obtain⟨hr1,-⟩:=(HR.out.below HB.out).row (j:=t+1) (by have:=Hq.out;omega) (by omega)
   have hx1:=((HR.out.below HB.out).own (t+1) (by have:=Hq.out;omega) (by omega)).sl (show r.codes*r.sums=(r.rowV first (r.N+r.S-1-(t+1)) (t+1)).length by rw[rowV_len])
   have hF1:=HF.out.below HB.out
   have hT1:=HT.out.below HB.out
   have hS1:=HS.out.below HB.out
   have hcirc:=(HR.out.below HB.out).circ
   have hzz:r.N+r.S-1-(t+1)=z:=by have:=Hz.out;have:=Hq.out;omega
   rw[hzz] at hx1
   clear hzz
   go_wp2_with fail
   (with_reducible refine (best_any r Hok.out A B _ n c m d q e first Hg.out b rb (gs (t+1)) (r.N+r.S) (r.codes*r.sums) z cc sm t _ hcirc hF1 hT1 hS1 Hq.out hr1 rfl rfl hx1 (by have:=Hz.out;have:=Hq.out;omega) hcc hsmm (by have:=Hq.out;omega)).mono ?_)
   rintro en w3 ⟨rfl,hb3⟩
   rw[Ha.out]
   have HB3:=zh (HB.out.trans (hb3.mono HB.out.size))
   have HO3:=zh (ownsRow_below HO.out hb3)
   clear hb3 hr1 hx1 hF1 hT1 hS1 hcirc c0 c1 c2 c3 c4 c5 c6 c7 c8 c9 c10 c11 c12 cf
   have hF1:=HF.out.below HB3.out
   have hT1:=HT.out.below HB3.out
   have hcirc:=(HR.out.below HB3.out).circ
   go_wp2_with fail
   (with_reducible refine (next_any r Hok.out A B _ n c m d q e (.slice (some ⟨rb,0,none⟩) (r.N+r.S) (r.N+r.S)) b cc t a _ hcirc hF1 hT1 hcc (by have:=Hq.out;omega) (by omega) ⟨ha1,by omega⟩).mono ?_)
   rintro en w4 ⟨rfl,hb4⟩
   have HB4:=zh (HB3.out.trans (hb4.mono HB3.out.size))
   have HO4:=zh (ownsRow_below HO3.out hb4)
   have hz4:w.heap.size<=w4.heap.size:=HB4.out.size
   obtain⟨Z,hZ⟩:∃ Z,(cc*4+(a-r.low).toNat)%r.codes=Z:=⟨_,rfl⟩
   have hZc:Z<r.codes:=by rw[← hZ];exact Nat.mod_lt _ (by omega)
   rw[hZ] at HI2 ⊢
   clear hb4 hF1 hT1 hcirc hZ
   obtain⟨c0,c1,c2,c3,c4,c5,c6,c7,c8,c9,c10,c11,c12,cf⟩:=circ13 (HR.out.below HB4.out).circ
   have Hc:=zh (show (sm:Int)+(a-r.low)=((sm+(a-r.low).toNat:Nat):Int) by omega)
   go_wp2_with (at_builtin;refine wpList_app rfl (.tmp 58) (.tmp 60) _ rfl elemInt w.heap.size _ _ _ rfl (HO4.out.kept (World.grownBy_alloc w4 _ none) (by cases (Value.slice A' t c').ownBlock<;>simp)) _ _ _ _ rfl (Sl.new _ _ _ 1 1 rfl) (by simp[Value.oneCell']) (by unfold maxLen;omega) (by omega) (by simp;omega) ?_;intro A5 c5' w5 ho5 hg5 _;have HB5:=zh (below_own (HB4.out.alloc hz4 _) (HO4.out.kept (World.grownBy_alloc w4 _ none) (by cases (Value.slice A' t c').ownBlock<;>simp)) (Nat.le_refl _) (by simp;omega) hg5);have HO5:=zh ho5;clear ho5 hg5)
   exact⟨⟨t+1,Z,sm+(a-r.low).toNat,out++[a],A5,c5',by omega,by omega,by go_num,rfl,by rw[Hc.out],rfl,hZc,ha3,zh (by rw[Hz2.out];exact HI2.out),by rw[List.flatMap_append];exact HO5.out,HB5.out⟩,by simp[intOf];omega⟩
  ·obtain rfl:t=r.N:=by omega
   have hout:out=r.wayB first:=by
    have:=HI.out.2
    rwa [Nat.sub_self,List.take_zero,List.append_nil] at this
   have Hf:=zh (hR0.out (.returned (.slice A' r.N c')) wo ⟨A',c',rfl,by rw[← hout];exact HO.out,HB.out⟩)
   clear hout hR0
   go_wp2_with fail
   exact Hf.out
end
section
def VL(lo hi:Int)(n:Nat)(l:List Int):Prop:=l.length=n/\∀ x∈l,lo<=x/\x<=hi
theorem VL.tail{lo hi a:Int}{n:Nat}{l:List Int}(h:VL lo hi (n+1) (a :: l)):VL lo hi n l:=⟨by have:=h.1;simpa using this,λx hx=>h.2 x (by simp[hx])⟩
theorem VL.cons{lo hi a:Int}{n:Nat}{l:List Int}(h:VL lo hi n l)(ha:lo<=a/\a<=hi):VL lo hi (n+1) (a :: l):=⟨by simp[h.1],λx hx=>by
 rcases List.mem_cons.1 hx with rfl|hx
 ·exact ha
 ·exact h.2 x hx⟩
def odo(lo hi:Int):List Int->Option (List Int)
 |[]=>none
 |a :: r=>match odo lo hi r with
  |some r'=>some (a :: r')
  |none=>if a<hi then some ((a+1) :: List.replicate r.length lo) else none
def slex(p q:List Int):Prop:=lexI p q/\p≠q
theorem lexI_total:∀ {a b:List Int},a.length=b.length->lexI a b\/lexI b a
 |[],_,_=>.inl trivial
 |_ :: _,[],h=>by simp at h
 |x :: a,y :: b,h=>by
  by_cases e:x=y
  ·subst e
   rcases lexI_total (a:=a) (b:=b) (by simpa using h) with k|k
   ·exact .inl (.inr ⟨rfl,k⟩)
   ·exact .inr (.inr ⟨rfl,k⟩)
  ·by_cases l:x<y
   ·exact .inl (.inl l)
   ·exact .inr (.inl (by omega))
theorem lexI_lows{lo hi:Int}:∀ {n:Nat} {s:List Int},VL lo hi n s->lexI s (List.replicate n lo)->s=List.replicate n lo
 |0,s,h,_=>by rw[List.length_eq_zero_iff.1 h.1];rfl
 |n+1,[],h,_=>by have:=h.1;simp at this
 |n+1,b :: s,h,k=>by
  rw[List.replicate_succ] at k ⊢
  have hb:=(h.2 b (by simp)).1
  rcases k with k|⟨k1,k2⟩
  ·omega
  ·rw[k1,lexI_lows h.tail k2]
theorem lows_lexI{lo hi:Int}:∀ {n:Nat} {s:List Int},VL lo hi n s->lexI (List.replicate n lo) s
 |0,s,_=>by simp[lexI]
 |n+1,[],h=>by have:=h.1;simp at this
 |n+1,b :: s,h=>by
  rw[List.replicate_succ]
  have hb:=(h.2 b (by simp)).1
  by_cases e:lo=b
  ·exact .inr ⟨e,lows_lexI h.tail⟩
  ·exact .inl (by omega)
theorem odo_none{lo hi:Int}:∀ {n:Nat} {l:List Int},VL lo hi n l->odo lo hi l=none->∀ p,VL lo hi n p->lexI p l
 |0,_,_,_,p,hp=>by rw[List.length_eq_zero_iff.1 hp.1];trivial
 |n+1,[],h,_,_,_=>by have:=h.1;simp at this
 |n+1,a :: r,h,ho,p,hp=>by
  cases p with
  |nil=>have:=hp.1;simp at this
  |cons b s =>
   rw[odo] at ho
   cases hr:odo lo hi r with
   |some r'=>rw[hr] at ho;cases ho
   |none =>
    rw[hr] at ho
    have ha:=h.2 a (by simp)
    have hb:=hp.2 b (by simp)
    by_cases c:a<hi
    ·simp[c] at ho
    ·by_cases e:b=a
     ·exact .inr ⟨e,odo_none h.tail hr s hp.tail⟩
     ·exact .inl (by omega)
theorem odo_some{lo hi:Int}:∀ {n:Nat} {l l':List Int},VL lo hi n l->odo lo hi l=some l'->VL lo hi n l'/\slex l l'/\∀ p,VL lo hi n p->slex p l'->lexI p l
 |0,l,l',h,ho=>by rw[List.length_eq_zero_iff.1 h.1] at ho;cases ho
 |n+1,[],l',h,_=>by have:=h.1;simp at this
 |n+1,a :: r,l',h,ho=>by
  have ha:=h.2 a (by simp)
  rw[odo] at ho
  cases hr:odo lo hi r with
  |some r' =>
   rw[hr] at ho
   simp only[Option.some.injEq] at ho
   subst ho
   obtain⟨k1,⟨k2,k3⟩,k4⟩:=odo_some h.tail hr
   refine⟨k1.cons ha,⟨.inr ⟨rfl,k2⟩,λe=>k3 (by injection e)⟩,λp hp ⟨h1,h2⟩=>?_⟩
   cases p with
   |nil=>trivial
   |cons b s =>
    rcases h1 with h1|⟨rfl,h1⟩
    ·exact .inl h1
    ·exact .inr ⟨rfl,k4 s hp.tail ⟨h1,λe=>h2 (by rw[e])⟩⟩
  |none =>
   rw[hr] at ho
   by_cases c:a<hi
   ·simp only[c,if_true,Option.some.injEq] at ho
    subst ho
    have hl:r.length=n:=by have:=h.1;simpa using this
    rw[hl]
    refine⟨VL.cons ⟨by simp,λx hx=>?_⟩ (by omega),⟨.inl (by omega),λe=>?_⟩,λp hp ⟨h1,h2⟩=>?_⟩
    ·rw[List.eq_of_mem_replicate hx];omega
    ·injection e with e1 e2;omega
    ·cases p with
     |nil=>trivial
     |cons b s =>
      rcases h1 with h1|⟨rfl,h1⟩
      ·by_cases e:b=a
       ·exact .inr ⟨e,odo_none h.tail hr s hp.tail⟩
       ·exact .inl (by omega)
      ·exact absurd (by rw[lexI_lows hp.tail h1]) h2
   ·simp[c] at ho
def rk(lo:Int):List Int->Nat
 |[]=>0
 |a :: r=>(a-lo).toNat*4 ^ r.length+rk lo r
theorem rk_lt{lo hi:Int}(h3:hi<=lo+3):∀ {n:Nat} {l:List Int},VL lo hi n l->rk lo l<4 ^ n
 |0,l,h=>by rw[List.length_eq_zero_iff.1 h.1];simp[rk]
 |n+1,[],h=>by have:=h.1;simp at this
 |n+1,a :: r,h=>by
  have ha:=h.2 a (by simp)
  have ih:=rk_lt h3 h.tail
  have hl:r.length=n:=by have:=h.1;simpa using this
  rw[rk,hl,Nat.pow_succ]
  have h4:(a-lo).toNat<=3:=by omega
  have:=Nat.mul_le_mul_right (4 ^ n) h4
  omega
theorem rk_odo{lo hi:Int}(h3:hi<=lo+3):∀ {n:Nat} {l l':List Int},VL lo hi n l->odo lo hi l=some l'->rk lo l<rk lo l'
 |0,l,l',h,ho=>by rw[List.length_eq_zero_iff.1 h.1] at ho;cases ho
 |n+1,[],l',h,_=>by have:=h.1;simp at this
 |n+1,a :: r,l',h,ho=>by
  have ha:=h.2 a (by simp)
  have hl:r.length=n:=by have:=h.1;simpa using this
  rw[odo] at ho
  cases hr:odo lo hi r with
  |some r' =>
   rw[hr] at ho
   simp only[Option.some.injEq] at ho
   subst ho
   have ih:=rk_odo h3 h.tail hr
   have h1:=(odo_some h.tail hr).1.1
   rw[rk,rk,hl,h1]
   omega
  |none =>
   rw[hr] at ho
   by_cases c:a<hi
   ·simp only[c,if_true,Option.some.injEq] at ho
    subst ho
    have:=rk_lt h3 h.tail
    rw[rk,rk,hl,List.length_replicate,show (a+1-lo).toNat=(a-lo).toNat+1 by omega,Nat.add_mul,Nat.one_mul]
    omega
   ·simp[c] at ho
def seqO(lo hi:Int):Nat->List Int->List (List Int)
 |0,_=>[]
 |f+1,l=>l :: match odo lo hi l with
  |none=>[]
  |some l'=>seqO lo hi f l'
theorem seqO_all{lo hi:Int}(h3:hi<=lo+3){n:Nat}:∀ (f:Nat) {l:List Int},VL lo hi n l->4 ^ n<=rk lo l+f->∀ p,VL lo hi n p->lexI l p->p∈seqO lo hi f l
 |0,l,h,hf,p,_,_=>by have:=rk_lt h3 h;omega
 |f+1,l,h,hf,p,hp,hlp=>by
  rw[seqO]
  by_cases e:p=l
  ·rw[e];simp
  ·refine List.mem_cons_of_mem _ ?_
   cases ho:odo lo hi l with
   |none=>exact absurd (lexI.antisymm (by rw[hp.1,h.1]) (odo_none h ho p hp) hlp) e
   |some l' =>
    obtain⟨k1,k2,k3⟩:=odo_some h ho
    have hr:=rk_odo h3 h ho
    refine seqO_all h3 f k1 (by omega) p hp ?_
    rcases lexI_total (a:=l') (b:=p) (by rw[k1.1,hp.1]) with t|t
    ·exact t
    ·by_cases e2:p=l'
     ·rw[e2];exact lexI.refl _
     ·exact absurd (lexI.antisymm (by rw[hp.1,h.1]) (k3 p hp ⟨t,e2⟩) hlp) e
theorem seqO_ge{lo hi:Int}{n:Nat}:∀ (f:Nat) {l:List Int},VL lo hi n l->∀ p∈seqO lo hi f l,VL lo hi n p/\lexI l p
 |0,_,_,p,hp=>by simp[seqO] at hp
 |f+1,l,h,p,hp=>by
  rw[seqO] at hp
  rcases List.mem_cons.1 hp with rfl|hp
  ·exact⟨h,lexI.refl _⟩
  ·cases ho:odo lo hi l with
   |none=>rw[ho] at hp;simp at hp
   |some l' =>
    rw[ho] at hp
    obtain⟨k1,k2,k3⟩:=odo_some h ho
    obtain⟨m1,m2⟩:=seqO_ge f k1 p hp
    exact⟨m1,lexI.trans k2.1 m2⟩
theorem seqO_lt{lo hi:Int}{n:Nat}:∀ (f:Nat) {l:List Int} {pre rest:List (List Int)} {x:List Int},VL lo hi n l->pre++x :: rest=seqO lo hi f l->∀ p∈pre,slex p x
 |0,_,pre,rest,x,_,he,p,hp=>by simp[seqO] at he
 |f+1,l,pre,rest,x,h,he,p,hp=>by
  cases pre with
  |nil=>simp at hp
  |cons y pre =>
   rw[seqO,List.cons_append] at he
   injection he with h1 h2
   subst h1
   cases ho:odo lo hi y with
   |none=>rw[ho] at h2;simp at h2
   |some l' =>
    rw[ho] at h2
    dsimp only at h2
    obtain⟨k1,k2,k3⟩:=odo_some h ho
    rcases List.mem_cons.1 hp with rfl|hp
    ·obtain⟨m1,m2⟩:=seqO_ge f k1 x (by rw[← h2];simp)
     refine⟨lexI.trans k2.1 m2,λe=>?_⟩
     subst e
     exact k2.2 (lexI.antisymm (by rw[h.1,k1.1]) k2.1 m2)
    ·exact seqO_lt f k1 h2 p hp
theorem odo_highs{lo hi:Int}{s:List Int}(h:∀ x∈s,x=hi):odo lo hi s=none:=by
 induction s with
 |nil=>rfl
 |cons a s ih =>
  rw[odo,ih (λx hx=>h x (by simp[hx])),h a (by simp)]
  simp
theorem odo_at{lo hi:Int}{pre s:List Int}{a:Int}(h:∀ x∈s,x=hi)(ha:a<hi):odo lo hi (pre++a :: s)=some (pre++(a+1) :: List.replicate s.length lo):=by
 induction pre with
 |nil=>rw[List.nil_append,odo,odo_highs h];simp[ha]
 |cons b pre ih=>rw[List.cons_append,odo,ih];rfl
def Rg.begs(r:Rg):List (List Int):=seqO r.low r.high 64 (List.replicate (r.S-1) r.low)
theorem lows_VL{r:Rg}(hr:r.Ok)(n:Nat):VL r.low r.high n (List.replicate n r.low):=⟨by simp,λx hx=>by rw[List.eq_of_mem_replicate hx];exact⟨Int.le_refl _,hr.h1⟩⟩
theorem begs_all{r:Rg}(hr:r.Ok){p:List Int}(hp:VL r.low r.high (r.S-1) p):p∈r.begs:=by
 refine seqO_all hr.h2 64 (lows_VL hr _) ?_ p hp (lows_lexI hp)
 have:=(4:Nat).pow_le_pow_right (by omega) (show r.S-1<=3 by have:=hr.s2;omega)
 omega
theorem begs_lt{r:Rg}(hr:r.Ok){pre rest:List (List Int)}{x:List Int}(h:pre++x :: rest=r.begs):VL r.low r.high (r.S-1) x/\∀ p∈pre,lexI p x/\p≠x:=
 ⟨(seqO_ge 64 (lows_VL hr _) x (by rw[show seqO _ _ _ _=r.begs from rfl,← h];simp)).1,seqO_lt 64 (lows_VL hr _) h⟩
end
section
open Go.RowKit
section
variable{P:Program}{ops:Array Oper}{C:World->Prop}{md:Region.Mode}{l n:Nat}
def noDefer(ops:Array Oper):Bool:=ops.all λo=>match o.op with | .defer _=>false|_=>true
theorem noDefer_at{i:Nat}{o:Oper}(h:noDefer ops=true)(ho:ops[i]?=some o):∀ c,o.op≠.defer c:=by
 intro c hc
 obtain⟨hi,rfl⟩:=Array.getElem?_eq_some_iff.1 ho
 have:=Array.all_eq_true.1 h i hi
 rw[hc] at this
 cases this
theorem wpIn_of_quiet{o:Oper}{a:Act}{K:Act->Prop}{K':Act->World->Prop}{Q':Exit->Act->World->Prop}{w:World}(hd:∀ c,o.op≠.defer c)(hw:C w)(h:∀ a w',C w'->K a->K' a w')(hh:o.quiet P a C K) :
 o.wpIn (Fence.wide.inRound l) n P a w K' Q':=by
 obtain⟨v,h1,h2⟩:=hh
 have h3:=h1 w hw
 unfold Oper.quietAt at h3
 refine⟨λ_ _=>trivial,?_⟩
 rw[show (Fence.wide.inRound l).round=some l from rfl,Oper.semAt_some l a.eval o hd]
 generalize (execOp a.eval o).run P w=r at *
 cases r with
 |ok x w' =>
  cases x<;>simp only[Oper.quietUpon] at h3<;>simp only[Oper.uponIn]
  case value u =>
   obtain⟨e1,e2⟩:=h3
   rw[e1,e2]
   exact h _ _ hw h2
  case skip =>
   obtain⟨e1,e2⟩:=h3
   rw[e1,← e2]
   exact h _ _ hw h2
  case enter f args =>
   obtain⟨e1,hc⟩:=h3
   rw[e1]
   refine⟨λh0=>by simp[Fence.wide,Fence.inRound] at h0,CallsIn.inRound l (callsIn_wide.2 (hc.mono λe w'' ⟨he,hw''⟩=>?_))⟩
   subst he
   exact h _ _ hw'' h2
 |halt x w'=>simp only[Oper.quietUpon] at h3
theorem wpOpIn_of_qOp{i:Nat}{a:Act}{K:Act->Prop}{K':Act->World->Prop}{Q':Exit->Act->World->Prop}{w:World}(hd:noDefer ops=true)(hC:C w)(h:∀ a w',C w'->K a->K' a w')(hh:qOp P ops C i K a) :
 wpOpIn (Fence.wide.inRound l) n P ops Q' i K' a w:=by
 unfold qOp at hh
 unfold wpOpIn
 split
 ·rename_i ho;simp only[ho] at hh;exact h _ _ hC hh
 ·rename_i o ho
  simp only[ho] at hh
  split
  ·rename_i hw;simp only[hw,if_true] at hh;exact wpIn_of_quiet (noDefer_at hd ho) hC h hh
  ·rename_i hw;simp only[hw] at hh;exact⟨λ_ _=>trivial,h _ _ hC hh⟩
theorem wpAnyIn_of_quiet{Q:Act->Prop}{Q':Exit->Act->World->Prop}(hd:noDefer ops=true)(hQ:∀ a w,C w->Q a->Q' .normal a w):∀ (fuel:Nat) (listed:Array Bool) (a:Act) (w:World),C w->
 wpAnyQ P md ops C Q fuel listed a->wpAnyIn (Fence.wide.inRound l) n P md ops Q' fuel listed a w
 |0,_,_,_,hw,h=>⟨h.1,hQ _ _ hw h.2⟩
 |fuel+1,_,_,_,hw,h=>⟨λh0=>hQ _ _ hw (h.1 h0),λi hi=>wpOpIn_of_qOp hd hw (λa' w' hw'=>wpAnyIn_of_quiet hd hQ fuel _ a' w' hw') (h.2 i hi)⟩
theorem wpIn_region_cls{C:World->Prop}{id:Nat}{Q:Exit->Act->World->Prop}{a:Act}{w:World}{lo:List Oper}(hm:P.follows .mixedOrders=true)(hB:Region.lexB .any lo.toArray=true)(hd:noDefer lo.toArray=true)(hC:C { w with drawn:=w.drawn+1 })
 (h:wpQuiet P lo.toArray C (λa'=>∀ w',C w'->Q .normal a' w') lo a):(Code.region id lo.toArray true).wpIn (Fence.wide.inRound l) n P Q a w:=by
 simp only[Region.lexB,Bool.and_eq_true] at hB
 refine wpIn_region_any hm (wpAnyIn_of_quiet (C:=C) (Q:=λa'=>∀ w',C w'->Q .normal a' w') hd (λ_ w' hw' h=>h w' hw') _ _ _ _ hC ?_)
 have:=wpAnyQ_lex (C:=C) hB.1 lo 0 (Array.replicate lo.toArray.size false) a (by simp) (by simpa using hB.2) h
 simpa using this
end
theorem callsIn_cps{F:Fence}{n:Nat}{P:Program}{f:FuncId}{args:Array Value}{w:World}{Q:Ending->World->Prop}
 (h:∀ R:Ending->World->Prop,Hid (∀ e w',Q e w'->R e w')->CallsIn F n P f args w R):CallsIn F n P f args w Q:=h Q λ_ _ h=>h
end
end Go.Proofs.YtjibohkeapdalaaGreatDoor
