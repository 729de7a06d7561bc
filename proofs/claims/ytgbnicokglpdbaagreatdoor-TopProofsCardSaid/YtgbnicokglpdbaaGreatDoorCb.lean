/-
Contracts of match's small functions; conditions: those of each theorem.
-/
import Derived.Test.YtgbnicokglpdbaaGreatDoorA1
import Derived.Test.YtgbnicokglpdbaaGreatDoorCa
import Derived.Deep.RegionHeld3
import Derived.Laws.CopyOwn
import Derived.Shelf.Abstract
namespace Go.Proofs.YtgbnicokglpdbaaGreatDoor
set_option maxHeartbeats 2000000
set_option maxRecDepth 100000
section
open Go.RowKit
structure Fs(W:World)(B bp n m:Nat)(mayV:Value)(br cr bs cs:Nat)(of:List Int)(seen:List Bool):Prop where
 box:W.heap[bp]?=some (.cells #[.int .i64 (n:Int),.int .i64 (m:Int),mayV,.slice (some ⟨br,0,none⟩) m cr,.slice (some ⟨bs,0,none⟩) m cs] 228 (0,0))
 row:W.ownsRow B 3 1 (.slice (some ⟨br,0,none⟩) m cr) m (of.map (Value.int .i64))
 sn:W.ownsRow B 4 1 (.slice (some ⟨bs,0,none⟩) m cs) m (seen.map Value.bool)
 bpB:B<=bp
section
variable{W W':World}{B bp n m:Nat}{mayV:Value}{br cr bs cs:Nat}{of:List Int}{seen:List Bool}
theorem mB{W:World}{B g c sz m:Nat}{e:TypeId}{xs:List Value}(h:W.ownsRow B e sz (.slice (some ⟨g,0,none⟩) m c) m xs):B<=g/\g<W.heap.size/\∃ cur,W.heap[g]?=some (.cells cur e (0,0))/\m<=c/\c<=maxLen:=by
 rcases h.2 with⟨h',_⟩|⟨g',c',cur,h',hb,hg,hn,hc,_⟩
 ·simp at h'
 simp only[Value.slice.injEq,Option.some.injEq,Addr.mk.injEq,and_true,true_and] at h'
 obtain⟨rfl,rfl⟩:=h'
 exact⟨hb,(Array.getElem?_eq_some_iff.1 hg).1,cur,hg,hn,hc⟩
theorem Fs.ne(h:Fs W B bp n m mayV br cr bs cs of seen):bp≠br/\bp≠bs/\br≠bs:=by
 obtain⟨_,_,c1,h1,_⟩:=mB h.row
 obtain⟨_,_,c2,h2,_⟩:=mB h.sn
 refine⟨λe=>?_,λe=>?_,λe=>?_⟩
 ·have:=h.box;rw[e,h1] at this;simp at this
 ·have:=h.box;rw[e,h2] at this;simp at this
 rw[e,h2] at h1;simp at h1
theorem Fs.len(h:Fs W B bp n m mayV br cr bs cs of seen):of.length=m/\seen.length=m:=⟨by have:=h.row.1;simpa using this,by have:=h.sn.1;simpa using this⟩
theorem Fs.drewN(h:Fs W B bp n m mayV br cr bs cs of seen)(q:Nat):Fs (W.drewN q) B bp n m mayV br cr bs cs of seen:=⟨h.box,h.row,h.sn,h.bpB⟩
theorem xI{α:Type}(f:α->Value)(l:List α)(k:Nat)(x:α):(l.set k x).map f=(l.map f).set k (f x):=by simp[List.map_set]
theorem Fs.see(h:Fs W B bp n m mayV br cr bs cs of seen)(k:Nat):Fs (W.setCell ⟨bs,k,none⟩ (.bool true)) B bp n m mayV br cr bs cs of (seen.set k true)/\Kx (λj=>j=br\/j=bs) W (W.setCell ⟨bs,k,none⟩ (.bool true)):=by
 obtain⟨n1,n2,n3⟩:=h.ne
 obtain⟨s1,s2⟩:=h.sn.stored k (.bool true)
 refine⟨⟨?_,h.row.kept s2 (.inr (by simp[Value.ownBlock];exact n3)),by rw[xI];exact s1,h.bpB⟩,(Kx.refl _ _).grown s2 (λj hj=>.inl (.inr (by injection hj with hj;exact hj.symm)))⟩
 exact (s2.block bp (Array.getElem?_eq_some_iff.1 h.box).1 (by simp;exact n2)).trans h.box
theorem Fs.put(h:Fs W B bp n m mayV br cr bs cs of seen)(k:Nat)(r:Int):Fs (W.setCell ⟨br,k,none⟩ (.int .i64 r)) B bp n m mayV br cr bs cs (of.set k r) seen/\Kx (λj=>j=br\/j=bs) W (W.setCell ⟨br,k,none⟩ (.int .i64 r)):=by
 obtain⟨n1,n2,n3⟩:=h.ne
 obtain⟨s1,s2⟩:=h.row.stored k (.int .i64 r)
 refine⟨⟨?_,by rw[xI];exact s1,h.sn.kept s2 (.inr (by simp[Value.ownBlock];exact λe=>n3 e.symm)),h.bpB⟩,(Kx.refl _ _).grown s2 (λj hj=>.inl (.inl (by injection hj with hj;exact hj.symm)))⟩
 exact (s2.block bp (Array.getElem?_eq_some_iff.1 h.box).1 (by simp;exact n1)).trans h.box
theorem Fs.cells(h:Fs W B bp n m mayV br cr bs cs of seen):W.cell? ⟨bp,0,none⟩=some (.int .i64 (n:Int))/\W.cell? ⟨bp,1,none⟩=some (.int .i64 (m:Int))/\W.cell? ⟨bp,2,none⟩=some mayV/\
 W.cell? ⟨bp,3,none⟩=some (.slice (some ⟨br,0,none⟩) m cr)/\W.cell? ⟨bp,4,none⟩=some (.slice (some ⟨bs,0,none⟩) m cs)/\∀ j,W.frozen? ⟨bp,j,none⟩=false:=
 ⟨by rw[cell_of_row _ _ 0 _ _ (0,0) h.box];rfl,by rw[cell_of_row _ _ 1 _ _ (0,0) h.box];rfl,by rw[cell_of_row _ _ 2 _ _ (0,0) h.box];rfl,by rw[cell_of_row _ _ 3 _ _ (0,0) h.box];rfl,by rw[cell_of_row _ _ 4 _ _ (0,0) h.box];rfl,λj=>by simp[World.frozen?,h.box]⟩
theorem Fs.at_(h:Fs W B bp n m mayV br cr bs cs of seen){k:Nat}(hk:k<m):W.cell? ⟨br,k,none⟩=some (.int .i64 (of.getD k (-1)))/\W.cell? ⟨bs,k,none⟩=some (.bool (seen.getD k false))/\W.frozen? ⟨br,k,none⟩=false/\W.frozen? ⟨bs,k,none⟩=false:=by
 obtain⟨l1,l2⟩:=h.len
 refine⟨?_,?_,h.row.frozenAt k,h.sn.frozenAt k⟩
 ·rw[h.row.cellAt k (by omega),aw _ _ _ (by omega)];simp[show k<of.length by omega]
 rw[h.sn.cellAt k (by omega),aw _ _ _ (by omega)];simp[show k<seen.length by omega]
end
end
section
open Go.RowKit
def kb(w0:World)(B:Nat)(F:FuncId)(caps:Array Value)(n m:Nat)(g:Nat->Nat->Bool):Prop:=
 ∀ (W:World) (r k:Nat),Below B w0 W->r<n->k<m->Calls Tryz.prog F (#[.int .i64 (r:Int),.int .i64 (k:Int)]++caps) W λe W'=>e=.returned (.bool (g r k))/\Qt W W'
def lL(n:Nat)(of:List Int):Prop:=∀ k,of.getD k (-1)<(n:Int)
theorem yN(g:Nat->Nat->Bool)(m f row:Nat)(of:List Int)(seen:List Bool):ea g m (f+1) row of seen=eh (ea g m f) g row ((List.range m).drop 0) of seen:=by simp[ea]
theorem Gb(rec:Nat->List Int->List Bool->qp)(g:Nat->Nat->Bool)(row m:Nat)(of:List Int)(seen:List Bool):eh rec g row ((List.range m).drop m) of seen=(of,seen,false):=by
 rw[List.drop_of_length_le (by simp)];rfl
theorem eY{m k:Nat}(h:k<m):(List.range m).drop k=k :: (List.range m).drop (k+1):=by
 rw[List.drop_eq_getElem_cons (by simpa using h)];simp
section
variable{rec:Nat->List Int->List Bool->qp}{g:Nat->Nat->Bool}{row m k:Nat}{of:List Int}{seen:List Bool}
theorem vH(h:k<m)(hs:seen.getD k false=true\/g row k=false):eh rec g row ((List.range m).drop k) of seen=eh rec g row ((List.range m).drop (k+1)) of seen:=by
 rw[eY h,eh,if_pos hs]
theorem DG(h:k<m)(hs:seen.getD k false=false)(hg:g row k=true)(hf:of.getD k (-1)<0):eh rec g row ((List.range m).drop k) of seen=(of.set k (row:Int),seen.set k true,true):=by
 rw[eY h,eh,if_neg (by rw[hs,hg];simp),if_pos hf]
theorem Gc(h:k<m)(hs:seen.getD k false=false)(hg:g row k=true)(hf:¬ of.getD k (-1)<0){u:qp}(hu:rec (of.getD k (-1)).toNat of (seen.set k true)=u)(a0:u.2.2=true):eh rec g row ((List.range m).drop k) of seen=(u.1.set k (row:Int),u.2.1,true):=by
 rw[eY h,eh,if_neg (by rw[hs,hg];simp),if_neg hf,hu,if_pos a0]
theorem IJ(h:k<m)(hs:seen.getD k false=false)(hg:g row k=true)(hf:¬ of.getD k (-1)<0){u:qp}(hu:rec (of.getD k (-1)).toNat of (seen.set k true)=u)(a0:u.2.2=false):eh rec g row ((List.range m).drop k) of seen=eh rec g row ((List.range m).drop (k+1)) u.1 u.2.1:=by
 rw[eY h,eh,if_neg (by rw[hs,hg];simp),if_neg hf,hu,if_neg (by rw[a0];simp)]
end
theorem dT{B:Nat}{W W':World}(h:Below B W W')(n:Nat):Below B W (W'.drewN n):=⟨h.os,h.tape,h.output,h.size,h.block⟩
theorem CK{seen:List Bool}{k:Nat}(h:dY seen<=0)(hk:k<seen.length)(hs:seen.getD k false=false):False:=by
 have:=oP (k:=k) hk (by rw[hs];simp)
 omega
theorem ER(w0:World)(B bp n m n':Nat)(F:FuncId)(caps:Array Value)(g:Nat->Nat->Bool)(br cr bs cs:Nat)(cq:Enters Tryz.prog F)(cI:kb w0 B F caps n m g)(hm:m<=1000)(_hn:n<=1000)(eo:B<=br)(es:B<=bs) :
 ∀ (f row:Nat) (of:List Int) (seen:List Bool) (W:World),dY seen<=f->row<n->Fs W B bp n' m (.func (.func F) #[] caps) br cr bs cs of seen->Below B w0 W->B<=W.heap.size->lg g m of->lL n of->
 Calls Tryz.prog 141 #[.pointer (some ⟨bp,0,none⟩),.int .i64 (row:Int)] W λe W'=>e=.returned (.bool (ea g m (f+1) row of seen).2.2)/\
  Fs W' B bp n' m (.func (.func F) #[] caps) br cr bs cs (ea g m (f+1) row of seen).1 (ea g m (f+1) row of seen).2.1/\Kx (λj=>j=br\/j=bs) W W':=by
 intro f
 induction f using Nat.strongRecOn with
 |_ f ih =>
  intro row of seen W ei eg hF hb cc hv hr
  refine ae ?_
  intro R hR
  have Ih:=zh ih
  have c9:=zh cI
  have HF:=zh hF
  have Hv:=zh hv
  have Hr:=zh hr
  have et:∀ (args:Array Value) (w:World),(callFunc F args).run Tryz.prog w=.ok (.enter F args) w:=cq
  obtain⟨q0,q1,q2,q3,q4,q5⟩:=hF.cells
  have cA:=hF.len
  have en:=zh cA
  clear ih cI hF hv hr cq cA
  go_enter Tryz.func141,Tryz.ntmps141
  go_wp2_with fail
  go_loopg [5,11] m (λgk s5 s11 wr=>∃ k seen',k+gk=m/\s11=.int .i64 ((k:Nat):Int)/\Fs wr B bp n' m (.func (.func F) #[] caps) br cr bs cs of seen'/\Kx (λj=>j=br\/j=bs) W wr/\dY seen'<=f/\
   Hid (ea g m (f+1) row of seen=eh (ea g m f) g row ((List.range m).drop k) of seen'))
  case atStart=>exact⟨0,seen,by omega,rfl,HF.out,Kx.refl _ _,ei,zh (yN _ _ _ _ _ _)⟩
  clear q0 q1 q2 q3 q4 q5
  obtain⟨k,seen',dz,rfl,hF,hK,cO,He⟩:=hrel
  obtain⟨wi,rfl⟩:∃ wi:World,wi=wr:=⟨_,rfl⟩
  by_cases aa:k<m
  ·obtain⟨q0,q1,q2,q3,q4,q5⟩:=hF.cells
   obtain⟨c1,c2,c3,c4⟩:=hF.at_ aa
   have bf:=zh hF
   have bj:Below B w0 wi:=Kx.low hb hK (by rintro j (rfl|rfl)<;>assumption) cc
   clear hF
   have i1:(k:Int)<(m:Int):=by omega
   have b7:seen'.length=m:=bf.out.len.2
   cases hs:seen'.getD k false with
   |true =>
    rw[hs] at c2
    have HE:=zh (He.out.trans (vH aa (.inl hs)))
    clear b7 hs
    go_wp2_with fail
    go_roundg (gk-1)
    case measure=>omega
    case rel=>exact⟨k+1,seen',by omega,by go_num,bf.out,hK,cO,zh HE.out⟩
   |false =>
    rw[hs] at c2
    have Hs:=zh hs
    have bw:=zh b7
    obtain⟨x,hx⟩:∃ x,of.getD k (-1)=x:=⟨_,rfl⟩
    rw[hx] at c1
    have Hx:=zh hx
    clear hs b7 hx
    go_wp2_with fail
    refine (c9.out _ row k bj eg aa).mono ?_
    cases hg:g row k with
    |false =>
     have HE:=zh (He.out.trans (vH aa (.inr hg)))
     clear hg
     rintro e w1 ⟨rfl,q,rfl⟩
     go_wp2_with fail
     go_roundg (gk-1)
     case measure=>omega
     case rel=>exact⟨k+1,seen',by omega,by go_num,bf.out.drewN q,hK.drewN q,cO,zh HE.out⟩
    |true =>
     obtain⟨f',rfl⟩:∃ f',f=f'+1:=⟨f-1,by
      have:¬ dY seen'<=0:=λh=>CK h (by rw[bw.out];exact aa) Hs.out
      omega⟩
     have Hg:=zh hg
     clear hg
     rintro e w1 ⟨rfl,q,rfl⟩
     have bg:=bf.out.drewN q
     have cl:=hK.drewN q
     have dt:=dT bj q
     generalize wi.drewN q=wd at *
     obtain⟨d0,d1,d2,d3,d4,d5⟩:=bg.cells
     obtain⟨e1,e2,e3,e4⟩:=bg.at_ aa
     rw[Hx.out] at e1
     rw[Hs.out] at e2
     obtain⟨n1,n2,n3⟩:=bg.ne
     obtain⟨bD,cj⟩:=bg.see k
     have b6:Kx (λj=>j=br\/j=bs) W (wd.setCell ⟨bs,k,none⟩ (.bool true)):=cl.trans cj (λ_ _ h=>h)
     obtain⟨y0,y1,y2,y3,y4,y5⟩:=bD.cells
     obtain⟨z1,z2,z3,z4⟩:=bD.at_ aa
     rw[Hx.out] at z1
     have aF:Below B w0 (wd.setCell ⟨bs,k,none⟩ (.bool true)):=Kx.low hb b6 (by rintro j (rfl|rfl)<;>assumption) cc
     have cS:dY (seen'.set k true)<=f':=by
      have:=oP (seen:=seen') (k:=k) (by rw[bw.out];exact aa) (by rw[Hs.out];simp)
      omega
     have b8:=zh bD
     have bv:=zh b6
     have c5:=zh aF
     have b5:=zh cS
     clear bD cj b6 bg cl dt aF cS q0 q1 q2 q3 q4 q5 c1 c2 c3 c4
     by_cases cV:x<0
     ·have he:=He.out.trans (DG aa Hs.out Hg.out (by rw[Hx.out];exact cV))
      obtain⟨am,a9⟩:=b8.out.put k (row:Int)
      have ad:=zh (hR.out (.returned (.bool true)) _ (by rw[he];exact⟨rfl,am,bv.out.trans a9 (λ_ _ h=>h)⟩))
      clear he am a9
      go_wp2
      exact ad.out
     obtain⟨r',rfl⟩:∃ r':Nat,x=r':=⟨x.toNat,by omega⟩
     have d7:r'<n:=by have:=Hr.out k;rw[Hx.out] at this;omega
     have ev:(0:Int)<=(r':Int):=by omega
     obtain⟨u,hu⟩:∃ u,ea g m (f'+1) r' of (seen'.set k true)=u:=⟨_,rfl⟩
     have cT:ea g m (f'+1) (of.getD k (-1)).toNat of (seen'.set k true)=u:=by rw[Hx.out];exact hu
     have hP:=pu g m of bf.out.len.1 Hv.out (f'+1) r' (seen'.set k true) (by rw[List.length_set];exact bw.out) (by have:=b5.out;omega)
     rw[hu] at hP
     have HU:=zh hu
     have b9:=zh cT
     have HP:=zh hP
     clear hu cT hP cV
     go_wp2_with fail
     refine (Ih.out f' (by omega) r' of (seen'.set k true) _ b5.out d7 b8.out c5.out (by have:=bv.out.size;omega) Hv.out Hr.out).mono ?_
     rw[HU.out]
     rintro e w4 ⟨rfl,am,a9⟩
     cases a0:u.2.2 with
     |true =>
      have he:=He.out.trans (Gc aa Hs.out Hg.out (by rw[Hx.out];omega) b9.out a0)
      obtain⟨y0,y1,y2,y3,y4,y5⟩:=am.cells
      obtain⟨z1,z2,z3,z4⟩:=am.at_ aa
      obtain⟨cd,bE⟩:=am.put k (row:Int)
      have ad:=zh (hR.out (.returned (.bool true)) _ (by rw[he];exact⟨rfl,cd,(bv.out.trans a9 (λ_ _ h=>h)).trans bE (λ_ _ h=>h)⟩))
      clear he am cd a9 bE a0
      go_wp2
      exact ad.out
     |false =>
      have he:=He.out.trans (IJ aa Hs.out Hg.out (by rw[Hx.out];omega) b9.out a0)
      have h1:=(HP.out.no a0).1
      rw[h1] at he am
      have HE:=zh he
      have eF:dY u.2.1<=f':=by
       have:=qN (a:=seen'.set k true) (b:=u.2.1) (by rw[List.length_set,bw.out,HP.out.l2]) HP.out.mono
       have:=b5.out
       omega
      have bE:=bv.out.trans a9 (λ_ _ h=>h)
      clear he h1 a0 a9
      go_wp2_with fail
      go_roundg (gk-1)
      case measure=>omega
      case rel=>exact⟨k+1,u.2.1,by omega,by go_num,am,bE,by omega,zh HE.out⟩
  obtain rfl:m=k:=by omega
  have he:=He.out
  rw[Gb] at he
  have ad:=zh (hR.out (.returned (.bool false)) wi (by rw[he];exact⟨rfl,hF,hK⟩))
  clear hF hK he
  go_wp2
  exact ad.out
end
section
open Go.RowKit
theorem iM{w0 W:World}{A:Option Addr}{n m r k:Nat}{T:List (List Int)}(hT:d8 w0 A n T)(ec:∀ x∈T,x.length=m)(hb:Below w0.heap.size w0 W)(hr:r<n)(hk:k<m) :
 ∃ b o Ai ci bi oi,A=some ⟨b,o,none⟩/\b<w0.heap.size/\bi<w0.heap.size/\W.cell? ⟨b,o+r,none⟩=some (.slice (some ⟨bi,oi,none⟩) m ci)/\Ai=some (⟨bi,oi,none⟩:Addr)/\W.cell? ⟨bi,oi+k,none⟩=some (.int .i64 (ct T r k)):=by
 obtain⟨b,o,x,Ai,ci,hA,aa,hx,hc,hs⟩:=hT.at_ hr
 have ej:x.length=m:=ec x (List.mem_of_getElem? hx)
 rw[ej] at hc hs
 obtain⟨bi,oi,v,dq,bj,hv,bS⟩:=hs.at1 hk
 subst dq
 refine⟨b,o,_,ci,bi,oi,hA,aa,bj,(hb.cell (p:=⟨b,o+r,none⟩) aa).trans hc,rfl,?_⟩
 rw[hb.cell (p:=⟨bi,oi+k,none⟩) bj,bS]
 have e1:T.getD r []=x:=by rw[List.getD_eq_getElem?_getD,hx];rfl
 have e2:x.getD k (-1)=v:=by rw[List.getD_eq_getElem?_getD,hv];rfl
 unfold ct
 rw[e1,e2]
end
section
open Go.RowKit
theorem El{m:Nat}(h:m<4294967296):m &&& 4294967295=m:=by
 have:=Nat.and_two_pow_sub_one_eq_mod m 32
 simp only[Nat.reducePow,Nat.reduceSub] at this
 rw[this];exact Nat.mod_eq_of_lt h
theorem Db(m:Nat)(hm:m<=1000)(w:World):Calls Tryz.prog 279 #[.int .u64 1,.int .u64 (m:Int)] w λe w'=>e=.returned (.tuple #[.int .u64 0,.int .u64 (m:Int)])/\w=w':=by
 have b1:bits .and .u64 1 4294967295=1:=by decide
 have b2:bits .and .u64 (m:Int) 4294967295=(m:Int):=by
  have:=u64_and_nat m 4294967295 (by omega) (by omega)
  rw[El (by omega)] at this
  exact this
 have b3:bits .and .u64 0 4294967295=0:=by decide
 have w1:IntKind.u64.wrap (m:Int)=(m:Int):=by simp[IntKind.wrap,IntKind.bits,IntKind.signed];omega
 have h4:(m:Int)/4294967296=0:=by omega
 go_enter Tryz.func279,Tryz.ntmps279
 go_wp2
 go_ret2
 exact⟨rfl,rfl⟩
theorem mul_one(m:Nat)(hm:m<=1000)(w:World):Calls Tryz.prog 221 #[.int .u64 1,.int .u64 (m:Int)] w λe w'=>e=.returned (.tuple #[.int .u64 0,.int .u64 (m:Int)])/\w=w':=by
 go_enter Tryz.func221,Tryz.ntmps221
 go_wp2_with (go_at_call 279;refine (Db m hm _).mono ?_;rintro e w' ⟨rfl,rfl⟩)
 go_ret2
 exact⟨rfl,rfl⟩
def eA(x:Int)(m k:Nat):List Value:=List.replicate k (.int .i64 x)++List.replicate (m-k) (.int .i64 0)
theorem FW{x:Int}{m k:Nat}(h:k<=m):(eA x m k).length=m:=by simp[eA];omega
theorem qK{x:Int}{m k c:Nat}(h:k+c<=m):splice (eA x m k) k (List.replicate c (.int .i64 x))=eA x m (k+c):=by
 have h1:(eA x m k).take k=List.replicate k (.int .i64 x):=by
  unfold eA
  rw[List.take_append_of_le_length (by simp),List.take_of_length_le (by simp)]
 have h2:(eA x m k).drop (k+c)=List.replicate (m-(k+c)) (.int .i64 0):=by
  unfold eA
  rw[List.drop_append,List.drop_of_length_le (by simp),List.nil_append,List.length_replicate,List.drop_replicate]
  congr 1;omega
 unfold splice
 rw[List.length_replicate,h1,h2,← List.append_assoc,List.replicate_append_replicate]
 rfl
theorem IG{x:Int}{m k j:Nat}(hj:j<k):(eA x m k)[j]?=some (.int .i64 x):=by
 unfold eA
 rw[List.getElem?_append_left (by simpa using hj),List.getElem?_replicate,if_pos hj]
theorem kC:(Tryz.prog.info? 3).map (λi=>(i.zero,i.size,i.bytes))=some (some (.int .i64 0),1,8):=by kernel_rfl
theorem uZ:(Tryz.prog.info? 3).map (·.size)=some 1:=by kernel_rfl
theorem ti(x:Int)(A:Option Addr)(c m:Nat)(cC:1<=m)(hm:m<=1000)(w:World)(hA:ag ak 1 w A 1 [x]) :
 Calls Tryz.prog 140 #[.slice A 1 c,.int .i64 (m:Int)] w λe w'=>∃ g,e=.returned (.slice (some ⟨g,0,none⟩) m m)/\w.heap.size<=g/\w'.heap[g]?=some (.cells (eA x m m).toArray 3 (0,0))/\Below w.heap.size w w':=by
 refine ae ?_
 intro R hR
 have eu:(0:Int)<=(m:Int):=by omega
 have cv:IntKind.u64.wrap (m:Int)=(m:Int):=by simp[IntKind.wrap,IntKind.bits,IntKind.signed];omega
 go_enter Tryz.func140,Tryz.ntmps140
 obtain⟨b,o,y,rfl,cn,hx,bS⟩:=hA.at1 (k:=0) (by omega)
 obtain rfl:x=y:=by simpa using hx
 clear hx
 go_wp2_with (first
  |(go_at_call 221;refine (mul_one m hm _).mono ?_;rintro e w' ⟨rfl,rfl⟩)
  |(at_make;refine jB rfl (.tmp 29) (.tmp 29) _ rfl 3 Tryz.underlying27 kC m m rfl rfl rfl (by omega) ?_;intro w2 bu bm;have bc:Below w.heap.size w w2:=(Below.refl _ _).grown bm (Nat.le_refl _) (λk hk=>by cases hk);have bk:w2.heap[w.heap.size]?=some (.cells (eA x m 0).toArray 3 (0,0)):=bu.trans (by simp[eA]);have cp:w2.cell? ⟨b,o,none⟩=some (.int .i64 x):=(bc.cell (p:=⟨b,o,none⟩) cn).trans (by simpa using bS);clear bu bm)
  |(refine wpList_copy_splice rfl (.tmp 31) (.tmp 32) 27 27 rfl 3 Tryz.underlying27 uZ (some ⟨w.heap.size,0,none⟩) (some ⟨b,o,none⟩) m m 1 c rfl rfl w.heap.size 0 (eA x m 0) 3 bk (List.replicate 1 (.int .i64 x)) (Nat.min_eq_left cC).symm (λ_=>⟨rfl,⟨b,o,none⟩,rfl,λj v hv=>by cases j with|zero=>(simp at hv;subst hv;simpa[Addr.add] using cp)|succ j=>simp at hv⟩) (by simp[eA];omega) (by intro v hv;simp at hv;subst hv;rfl) w.heap.size w bc (Nat.le_refl _) ?_;intro w3 h3 aF;have bI:w3.heap[w.heap.size]?=some (.cells (eA x m 1).toArray 3 (0,0)):=h3.out.trans (by rw[qK (by omega)]);clear h3))
 clear cp bk bc bS
 go_loopw [8] (λs8 wr=>∃ k:Nat,1<=k/\k<=m/\s8=.int .i64 k/\wr.heap[w.heap.size]?=some (.cells (eA x m k).toArray 3 (0,0))/\Below w.heap.size w wr) (λs8 _=>m-(intOf s8).toNat)
 case atStart=>exact⟨1,by omega,cC,rfl,bI,aF⟩
 clear bI aF
 obtain⟨k,d6,eB,rfl,hc,hb⟩:=hrel
 obtain⟨wi,rfl⟩:∃ wi:World,wi=wr:=⟨_,rfl⟩
 by_cases aa:k<m
 ·have i1:(k:Int)<=(m:Int):=by omega
  have i2:(0:Int)<=(k:Int):=by omega
  have eI:¬ m=k:=by omega
  obtain⟨q,hq⟩:∃ q,Nat.min k (m-k)=q:=⟨_,rfl⟩
  have e6:1<=q:=by rw[← hq];exact Nat.le_min.2 ⟨d6,by omega⟩
  have e7:q<=m-k:=by rw[← hq];exact Nat.min_le_right _ _
  have e8:q<=k:=by rw[← hq];exact Nat.min_le_left _ _
  have Hq:=zh hq
  have Hc:=zh hc
  have Hb:=zh hb
  have z1:IntKind.i64.wrap ((k:Int)+(q:Int))=(k:Int)+(q:Int):=IntWalk.i64_in _ (by omega)
  clear hq hc hb
  go_wp2_with fail
  have cN:∀ (W:World),W.heap[w.heap.size]?=some (.cells (eA x m k).toArray 3 (0,0))->∀ j v,(List.replicate q (Value.int .i64 x))[j]?=some v->W.cell? ((⟨w.heap.size,0,none⟩:Addr).add j)=some v:=λW dx j v hv=>by
   have hj:j<q:=by have:=(List.getElem?_eq_some_iff.1 hv).1;simpa using this
   rw[List.getElem?_replicate,if_pos hj] at hv
   have ds:(⟨w.heap.size,0,none⟩:Addr).add j=⟨w.heap.size,j,none⟩:=by unfold Addr.add;split<;>simp_all
   rw[ds,← hv,cell_of_row _ _ _ _ _ (0,0) dx]
   simpa using IG (x:=x) (m:=m) (show j<k by omega)
  have ca:=zh (show wi.drew.heap[w.heap.size]?=some (.cells (eA x m k).toArray 3 (0,0)) from Hc.out)
  have c6:=zh (show Below w.heap.size w wi.drew from Hb.out.drew)
  have dk:=zh (cN wi.drew ca.out)
  have c8:=zh (show k+(List.replicate q (Value.int .i64 x)).length<=(eA x m k).length by rw[List.length_replicate,FW (by omega)];omega)
  have dd:=zh (show ∀ v∈List.replicate q (Value.int .i64 x),v.oneCell'=true from λv hv=>by have:=List.eq_of_mem_replicate hv;subst this;rfl)
  have Hn:=zh (show (List.replicate q (Value.int .i64 x)).length=Nat.min k (m-k) by rw[List.length_replicate];exact Hq.out.symm)
  clear cN
  go_region_held3 (λ_=>True) (trivial) (first
   |(refine step_copy_splice rfl (.tmp 41) (.tmp 44) 27 27 (by rfl) 3 Tryz.underlying27 uZ (some ⟨w.heap.size,k,none⟩) (some ⟨w.heap.size,0,none⟩) (m-k) (m-k) k m (by rfl) (by rfl) w.heap.size k (eA x m k) 3 ca.out (List.replicate q (.int .i64 x)) Hn.out (λ_=>⟨rfl,⟨w.heap.size,0,none⟩,rfl,dk.out⟩) c8.out dd.out w.heap.size w c6.out (Nat.le_refl _) ?_;intro w3 h3 aF))
  have bI:w3.heap[w.heap.size]?=some (.cells (eA x m (k+q)).toArray 3 (0,0)):=h3.out.trans (by rw[qK (by omega)])
  clear h3
  go_wp2
  refine⟨⟨k+q,by omega,by omega,?_,bI,aF⟩,?_⟩
  ·simp[]
  simp[intOf];omega
 obtain rfl:m=k:=by omega
 have ad:=zh (hR.out (.returned (.slice (some ⟨w.heap.size,0,none⟩) m m)) wi ⟨_,rfl,Nat.le_refl _,hc,hb⟩)
 clear hc hb
 go_wp2
 exact ad.out
end
section
open Go.RowKit
def iG(n k:Nat):List Int:=(List.range n).map λi=>if i<k then (i:Int) else 0
theorem rm(n k:Nat):(iG n k).length=n:=by simp[iG]
theorem Di(n:Nat):iG n 0=List.replicate n 0:=by
 unfold iG
 simp only[Nat.not_lt_zero,if_false]
 rw[List.map_const']
 simp
theorem Dh(n:Nat):iG n n=(List.range n).map λ(i:Nat)=>(i:Int):=by
 unfold iG
 exact List.map_congr_left λi hi=>if_pos (List.mem_range.1 hi)
theorem Fp{n k:Nat}:(iG n k).set k (k:Int)=iG n (k+1):=by
 apply List.ext_getElem?
 intro a
 rw[List.getElem?_set,rm]
 by_cases ha:a<n
 ·simp only[iG,List.getElem?_map,List.getElem?_range ha,Option.map_some]
  by_cases bq:k=a
  ·subst bq;simp[ha]
  rw[if_neg bq]
  by_cases h1:a<k
  ·rw[if_pos h1,if_pos (by omega)]
  rw[if_neg h1,if_neg (by omega)]
 by_cases bq:k=a
 ·subst bq;simp[iG,ha]
 simp[iG,ha,bq]
theorem io(n:Nat)(hn:n<=1000)(w:World):Calls Tryz.prog 52 #[.int .i64 (n:Int)] w λe w'=>∃ g,e=.returned (.slice (some ⟨g,0,none⟩) n n)/\w.heap.size<=g/\w'.heap[g]?=some (.cells (((List.range n).map λ(i:Nat)=>(i:Int)).map (Value.int .i64)).toArray 3 (0,0))/\Below w.heap.size w w':=by
 refine ae ?_
 intro R hR
 go_enter Tryz.func52,Tryz.ntmps52
 go_wp2_with (at_make;refine jB rfl (.tmp 5) (.tmp 5) _ rfl 3 Tryz.underlying27 kC n n rfl rfl rfl (by omega) ?_;intro w2 bu bm;have bc:Below w.heap.size w w2:=(Below.refl _ _).grown bm (Nat.le_refl _) (λk hk=>by cases hk);have bk:w2.heap[w.heap.size]?=some (.cells ((iG n 0).map (Value.int .i64)).toArray 3 (0,0)):=bu.trans (by rw[Di];simp);clear bu bm)
 go_loopg [4,9] n (λgk s4 s9 wr=>∃ k:Nat,k+gk=n/\s9=.int .i64 ((k:Nat):Int)/\wr.heap[w.heap.size]?=some (.cells ((iG n k).map (Value.int .i64)).toArray 3 (0,0))/\Below w.heap.size w wr)
 case atStart=>exact⟨0,by omega,rfl,bk,bc⟩
 clear bk bc
 obtain⟨k,dz,rfl,hc,hb⟩:=hrel
 obtain⟨wi,rfl⟩:∃ wi:World,wi=wr:=⟨_,rfl⟩
 by_cases aa:k<n
 ·have y0:wi.cell? ⟨w.heap.size,k,none⟩=some (.int .i64 ((iG n k).getD k 0)):=by
   rw[cell_of_row _ _ _ _ _ (0,0) hc,aw _ _ _ (by rw[rm];exact aa)]
   simp[rm,aa]
  have y1:wi.frozen? ⟨w.heap.size,k,none⟩=false:=by simp[World.frozen?,hc]
  have hN:(wi.setCell ⟨w.heap.size,k,none⟩ (.int .i64 (k:Int))).heap[w.heap.size]?=some (.cells ((iG n (k+1)).map (Value.int .i64)).toArray 3 (0,0)):=by
   rw[← Fp]
   simp[World.setCell,Array.getElem?_modify,hc,List.map_set]
  have HN:=zh hN
  have HB:=zh (hb.setCell (p:=⟨w.heap.size,k,none⟩) (Nat.le_refl _) (.int .i64 (k:Int)))
  have i1:(k:Int)<(n:Int):=by omega
  clear hN hc hb
  go_wp2_with fail
  go_roundg (gk-1)
  case measure=>omega
  case rel=>exact⟨k+1,by omega,by go_num,HN.out,HB.out⟩
 obtain rfl:n=k:=by omega
 rw[Dh] at hc
 have ad:=zh (hR.out (.returned (.slice (some ⟨w.heap.size,0,none⟩) n n)) wi ⟨_,rfl,Nat.le_refl _,hc,hb⟩)
 clear hc hb
 go_wp2
 exact ad.out
end
section
open Go.RowKit
def kT(v:Int):List Int->Nat->Int
 |[],_ => -1
 |a :: r,k=>if v=a then (k:Int) else kT v r (k+1)
theorem CV{v:Int}{l:List Int}{k:Nat}{x:Int}(hx:l[k]?=some x):kT v (l.drop k) k=if v=x then (k:Int) else kT v (l.drop (k+1)) (k+1):=by
 obtain⟨hk,rfl⟩:=List.getElem?_eq_some_iff.1 hx
 rw[List.drop_eq_getElem_cons hk,kT]
theorem uX(v:Int):∀ (l:List Int) (k:Nat),(kT v l k = -1/\v ∉ l)\/∃ j,kT v l k=((k+j:Nat):Int)/\l[j]?=some v
 |[],k=>.inl ⟨rfl,by simp⟩
 |a :: r,k=>by
  rw[kT]
  by_cases h:v=a
  ·rw[if_pos h];exact .inr ⟨0,by simp,by simp[h]⟩
  rw[if_neg h]
  rcases uX v r (k+1) with⟨h1,h2⟩|⟨j,h1,h2⟩
  ·exact .inl ⟨h1,by simp[h,h2]⟩
  exact .inr ⟨j+1,by rw[h1];congr 1;omega,by simpa using h2⟩
theorem CW(A:Option Addr)(n c:Nat)(l:List Int)(v:Int)(w:World)(hA:ag ak 1 w A n l)(hn:n<=9223372036854775807) :
 Calls Tryz.prog 143 #[.slice A n c,.int .i64 v] w λe w'=>e=.returned (.int .i64 (kT v l 0))/\w=w':=by
 refine ae ?_
 intro R hR
 have Hl:=zh hA.1
 go_enter Tryz.func143,Tryz.ntmps143
 go_wp2_with fail
 go_loop [5,8] (λs5 s8=>∃ k:Nat,k<=n/\s8=.int .i64 ((k:Nat):Int)/\Hid (kT v l 0=kT v (l.drop k) k)) (λ_ s8=>n-(intOf s8).toNat)
 case atStart=>exact⟨0,by omega,rfl,zh (by simp)⟩
 obtain⟨k,hk,rfl,He⟩:=hrel
 by_cases aa:k<n
 ·obtain⟨b,o,x,rfl,cn,hx,q0⟩:=hA.at1 aa
  have he:=He.out.trans (CV hx)
  obtain⟨t,ht⟩:∃ t,(v==x)=t:=⟨_,rfl⟩
  have i1:(k:Int)<(n:Int):=by omega
  cases t with
  |true =>
   have bt:v=x:=by simpa using ht
   rw[if_pos bt] at he
   have ad:=zh (hR.out (.returned (.int .i64 (k:Int))) w ⟨by rw[he],rfl⟩)
   clear he bt hx
   go_wp2
   exact ad.out
  |false =>
   have bt:¬ v=x:=by simpa using ht
   rw[if_neg bt] at he
   have HE:=zh he
   clear he bt hx
   go_wp2
   exact⟨⟨k+1,by omega,by go_num,zh HE.out⟩,by simp[intOf];omega⟩
 obtain rfl:n=k:=by omega
 have he:=He.out
 rw[List.drop_of_length_le (by rw[Hl.out];exact Nat.le_refl _)] at he
 have ad:=zh (hR.out (.returned (.int .i64 (-1))) w ⟨by rw[he];rfl,rfl⟩)
 clear he
 go_wp2
 exact ad.out
end
section
open Go.RowKit
theorem lG:au Tryz.prog 27 3 1 8:=au.of (z:=.int .i64 0) Tryz.underlying27 kC rfl (by omega)
theorem AP{wc w3:World}{o:Obj}{b:Nat}(hb:b=wc.heap.size)(hg:(wc.alloc o).grownBy w3 (some b)):Below wc.heap.size wc w3:=
 (ab wc o).grown hg (by simp) (λk hk=>by injection hk with hk;omega)
theorem uM(a:Addr)(n c:Nat)(l:List Int)(w:World)(hA:ag ak 1 w (some a) n l)(hn:n<=2000) :
 Calls Tryz.prog 49 #[.slice (some a) n c] w λe w'=>∃ A' c',e=.returned (.slice A' n c')/\w'.ownsRow w.heap.size 3 1 (.slice A' n c') n (l.flatMap ak)/\Below w.heap.size w w':=by
 refine ae ?_
 intro R hR
 have e5:=λ(W:World)=>Lib.run_eql_slice_nil (P:=Tryz.prog) W 27 3 (some a) n c 0 0 Tryz.underlying27
 go_enter Tryz.func49,Tryz.ntmps49
 go_wp2_with (at_builtin;refine ax rfl (.tmp 5) (.tmp 6) _ rfl lG w.heap.size _ _ _ rfl (gW _ _ _ 1 0 _ (by simp) (Nat.le_refl _) (by unfold maxLen;omega)) _ _ _ _ rfl (hA.2.alloc _) (lH _) (by unfold maxLen;omega) (by omega) (by simp) ?_;intro A3 c3 w3 cL cx _;rw[Nat.zero_add,List.nil_append] at cL;have aF:=AP rfl cx;clear cx)
 exact hR.out _ _ ⟨_,_,rfl,cL,aF⟩
end
end Go.Proofs.YtgbnicokglpdbaaGreatDoor
