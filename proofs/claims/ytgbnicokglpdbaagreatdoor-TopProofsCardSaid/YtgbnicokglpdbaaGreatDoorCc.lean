/-
Contracts of match's functions; conditions: those of each theorem.
-/
import Derived.Test.YtgbnicokglpdbaaGreatDoorCb
import Derived.Laws.EntriesVeiled
import Derived.Shelf.Slices.Delete
namespace Go.Proofs.YtgbnicokglpdbaaGreatDoor
set_option maxHeartbeats 2000000
set_option maxRecDepth 100000
section
open Go.RowKit
theorem lD{P:Program}{w:World}{ops:Array Oper}{rest:List Oper}{o:Oper}{a:Act}{Q:Exit->Act->World->Prop}
 (hg:o.guard=none) (l c:Operand) (t:TypeId) (eI:o.op=Op.makeSlice t l c) (e:TypeId) {z:Value} {bytes:Nat}
 (ht:P.underlying t=some (.slice e)) (hi:(P.info? e).map (λi=>(i.zero,i.size,i.bytes))=some (some z,1,bytes)) (hz:z.cells=#[z]) (eo:bytes<=100)
 (L:Int) (n:Nat) (hl:a.eval l=.int .i64 L) (hc:a.eval c=.int .i64 L) (hL:L=(n:Int)) (b2:n<=1000000000)
 (hK:∀ w',w'.heap[w.heap.size]?=some (.cells (List.replicate n z).toArray e (0,0))->w.grownBy w' none->wpList P ops Q rest (a.put o.dst (.slice (some ⟨w.heap.size,0,none⟩) n n)) w') :
 wpList P ops Q (o :: rest) a w:=by
 obtain⟨i0,eu,z0,z1,z2⟩:=info_parts hi
 refine wpList_make_full w hg l c t eI w.heap.size e i0 _ 1 ht eu z0 z1 .i64 .i64 L L n hl hc hL hL (by rw[z2];exact Nat.le_trans (Nat.mul_le_mul eo b2) (by omega)) (by unfold maxLen;omega) (Nat.le_refl _) λw' ho et=>hK w' ?_ et
 have h:=xV ho
 rw[h]
 congr 2
 simp only[Nat.mul_one]
 rw[hz,toList_madeCells_one]
theorem GB{b g1 g2:Nat}(h1:b<=g1)(h2:b<=g2):∀ j,(j=g1\/j=g2)->b<=j:=by rintro j (rfl|rfl)<;>assumption
theorem nO:(Tryz.prog.info? 4).map (λi=>(i.zero,i.size,i.bytes))=some (some (.bool false),1,1):=by kernel_rfl
theorem pJ{w:World}{base g n:Nat}{e:TypeId}{xs:List Value}(h:w.heap[g]?=some (.cells xs.toArray e (0,0)))(hn:xs.length=n)(hb:base<=g)(hm:n<=maxLen):w.ownsRow base e 1 (.slice (some ⟨g,0,none⟩) n n) n xs:=
 ⟨by omega,.inr ⟨g,n,xs.toArray,rfl,hb,h,Nat.le_refl _,hm,by simp[hn],by rw[List.take_of_length_le];simp[hn]⟩⟩
theorem ic(W:World)(b k:Nat)(v:Value):W.grownBy (W.setCell ⟨b,k,none⟩ v) (some b):=
 ⟨rfl,rfl,rfl,by simp[World.setCell],λj _ hn=>Below.heap_setCell W ⟨b,k,none⟩ v j (λe=>hn (by rw[e]))⟩
theorem kb.at{w0 W:World}{B n m:Nat}{F:FuncId}{caps:Array Value}{g:Nat->Nat->Bool}(h:kb w0 B F caps n m g)(hb:Below B w0 W)(hB:B<=W.heap.size):kb W W.heap.size F caps n m g:=
 λW1 r k ad hr hk=>h W1 r k (hb.trans (ad.mono hB)) hr hk
structure Ps(W:World)(B bp n m:Nat)(mayV:Value)(br cr:Nat)(of:List Int):Prop where
 box:∃ sv,W.heap[bp]?=some (.cells #[.int .i64 (n:Int),.int .i64 (m:Int),mayV,.slice (some ⟨br,0,none⟩) m cr,sv] 228 (0,0))
 row:W.ownsRow B 3 1 (.slice (some ⟨br,0,none⟩) m cr) m (of.map (Value.int .i64))
 bpB:B<=bp
section
variable{W W':World}{B bp n m:Nat}{mayV:Value}{br cr bs cs:Nat}{of:List Int}{seen:List Bool}
theorem Fs.ps(h:Fs W B bp n m mayV br cr bs cs of seen):Ps W B bp n m mayV br cr of:=⟨⟨_,h.box⟩,h.row,h.bpB⟩
theorem Ps.ne(h:Ps W B bp n m mayV br cr of):bp≠br:=by
 obtain⟨_,_,c1,h1,_⟩:=mB h.row
 obtain⟨sv,h2⟩:=h.box
 exact λe=>by rw[e,h1] at h2;simp at h2
theorem Ps.lt(h:Ps W B bp n m mayV br cr of):bp<W.heap.size:=by
 obtain⟨sv,h2⟩:=h.box
 exact (Array.getElem?_eq_some_iff.1 h2).1
theorem Ps.len(h:Ps W B bp n m mayV br cr of):of.length=m:=by have:=h.row.1;simpa using this
theorem Ps.grown(h:Ps W B bp n m mayV br cr of)(hg:W.grownBy W' none):Ps W' B bp n m mayV br cr of:=by
 obtain⟨sv,h2⟩:=h.box
 exact⟨⟨sv,(hg.block bp h.lt (by simp)).trans h2⟩,h.row.kept hg (.inr (by simp[Value.ownBlock])),h.bpB⟩
theorem Ps.free(h:Ps W B bp n m mayV br cr of):W.frozen? ⟨bp,4,none⟩=false:=by
 obtain⟨sv,h2⟩:=h.box
 simp[World.frozen?,h2]
theorem Ps.cell(h:Ps W B bp n m mayV br cr of):∃ sv,W.cell? ⟨bp,4,none⟩=some sv:=by
 obtain⟨sv,h2⟩:=h.box
 exact⟨sv,by rw[cell_of_row _ _ 4 _ _ (0,0) h2];rfl⟩
theorem Ps.fs(h:Ps W B bp n m mayV br cr of)(hs:W.heap[bs]?=some (.cells (List.replicate m (Value.bool false)).toArray 4 (0,0)))(hb:B<=bs)(hm:m<=1000)(_hne:br≠bs) :
 Fs (W.setCell ⟨bp,4,none⟩ (.slice (some ⟨bs,0,none⟩) m m)) B bp n m mayV br cr bs m of (List.replicate m false):=by
 obtain⟨sv,h2⟩:=h.box
 have eF:bp≠bs:=λe=>by rw[e,hs] at h2;simp at h2
 have hg:=ic W bp 4 (.slice (some ⟨bs,0,none⟩) m m)
 refine⟨?_,h.row.kept hg (.inr (by simp[Value.ownBlock];exact λe=>h.ne e.symm)),(pJ (by rw[List.map_replicate];exact hs) (by simp) hb (by unfold maxLen;omega)).kept hg (.inr (by simp[Value.ownBlock];exact λe=>eF e.symm)),h.bpB⟩
 simp[World.setCell,Array.getElem?_modify,h2]
end
theorem yi(n m:Nat):lL n (List.replicate m (-1)):=λk=>by
 rw[List.getD_eq_getElem?_getD,List.getElem?_replicate]
 split<;>(simp;try omega)
theorem zr(g:Nat->Nat->Bool)(m:Nat):lg g m (List.replicate m (-1)):=λk hk h=>by
 rw[List.getD_eq_getElem?_getD,List.getElem?_replicate,if_pos hk] at h
 simp at h
theorem zm{n r:Nat}{of of':List Int}(h:lL n of)(hr:r<n)(hc:∀ q,cn q of'=cn q of+if q=r then 1 else 0):lL n of':=by
 intro k
 rcases Int.lt_or_le (of'.getD k (-1)) 0 with h0|h0
 ·omega
 obtain⟨q,hq⟩:∃ q:Nat,of'.getD k (-1)=(q:Int):=⟨(of'.getD k (-1)).toNat,by omega⟩
 have hk:k<of'.length:=by
  by_cases hk:k<of'.length
  ·exact hk
  rw[List.getD_eq_getElem?_getD,List.getElem?_eq_none (by omega)] at hq
  simp at hq
  try omega
 have h1:0<cn q of':=rZ.2 ⟨k,hk,hq⟩
 rw[hc q] at h1
 by_cases e:q=r
 ·omega
 rw[if_neg e] at h1
 obtain⟨j,_,hj⟩:=rZ.1 h1
 have:=h j
 omega
theorem Bo(g:Nat->Nat->Bool)(m r:Nat)(rs:List Nat)(of:List Int)(n:Nat)(u:qp)(hu:ea g m (m+1) r of (List.replicate m false)=u):gp g m (r :: rs) of n=if u.2.2=true then gp g m rs u.1 (n+1) else gp g m rs of n:=by
 rw[gp,hu]
theorem vI{w:World}{b:Nat}(x:Int)(hb:b=w.heap.size):ag ak 1 (w.alloc (.cells #[.int .i64 x] 3)) (some ⟨b,0,none⟩) 1 [x]:=by
 subst hb
 refine⟨rfl,?_⟩
 have:=Sl.new w #[.int .i64 x] 3 1 1 rfl
 simpa[ak] using this
theorem yc(x:Int)(m:Nat):eA x m m=(List.replicate m x).map (Value.int .i64):=by simp[eA]
theorem qb{W w1:World}{a b c:Value}{t:TypeId}{o:Obj}(hb:Below ((W.alloc (.cells #[a,b,c] t)).alloc o).heap.size ((W.alloc (.cells #[a,b,c] t)).alloc o).drew w1) :
 w1.cell? ⟨W.heap.size,0,none⟩=some a/\w1.cell? ⟨W.heap.size,1,none⟩=some b/\w1.cell? ⟨W.heap.size,2,none⟩=some c/\w1.heap[W.heap.size]?=some (.cells #[a,b,c] t (0,0))/\Below W.heap.size W w1:=by
 have h0:((W.alloc (.cells #[a,b,c] t)).alloc o).heap[W.heap.size]?=some (.cells #[a,b,c] t (0,0)):=
  ((ab (W.alloc (.cells #[a,b,c] t)) o).block _ (by simp)).trans (heap_alloc_new W _)
 have h1:w1.heap[W.heap.size]?=some (.cells #[a,b,c] t (0,0)):=(hb.block _ (by simp;omega)).trans h0
 obtain⟨q0,q1,q2,_⟩:=rY h1
 refine⟨q0,q1,q2,h1,?_⟩
 have h2:Below W.heap.size W ((W.alloc (.cells #[a,b,c] t)).alloc o).drew:=((ab W _).trans ((ab (W.alloc (.cells #[a,b,c] t)) o).mono (by simp))).drew
 exact h2.trans (hb.mono (by simp;omega))
theorem zK{W:World}{b:Nat}{t:TypeId}{u0 u1 u2:Value}(h:W.heap[b]?=some (.cells #[u0,u1,u2] t (0,0))) :
 W.cell? ⟨b,0,none⟩=some u0/\W.cell? ⟨b,1,none⟩=some u1/\W.cell? ⟨b,2,none⟩=some u2/\(∀ j,W.frozen? ⟨b,j,none⟩=false):=rY h
theorem il(n m n':Nat)(F:FuncId)(caps:Array Value)(g:Nat->Nat->Bool)(es:Enters Tryz.prog F)(W:World)(cV:kb W W.heap.size F caps n m g)(b7:1<=m)(hm:m<=1000)(hn:n<=1000)
 (A:Option Addr) (c L:Nat) (rows:List Nat) (hL:L<=1000) (c6:∀ r∈rows,r<n) (hA:ag ak 1 W A L (rows.map λ(r:Nat)=>(r:Int))) :
 Calls Tryz.prog 51 #[.agg #[.int .i64 (n':Int),.int .i64 (m:Int),.func (.func F) #[] caps],.slice A L c] W λe W'=>∃ bp,e=.returned (.tuple #[.pointer (some ⟨bp,0,none⟩),.int .i64 (cE g m rows:Int)])/\Below W.heap.size W W':=by
 refine ae ?_
 intro R hR
 have d7:=zh c6
 have cd:=zh (show L=rows.length by rw[hA.1,List.length_map])
 have d6:=zh cV
 clear c6 cV
 go_enter Tryz.func51,Tryz.ntmps51
 go_wp2_with fail
 obtain⟨q0,q1,q2,q3⟩:=zK (heap_alloc_new W (.cells #[.int .i64 (n':Int),.int .i64 (m:Int),.func (.func F) #[] caps] 148))
 have en:Below W.heap.size W (W.alloc (.cells #[.int .i64 (n':Int),.int .i64 (m:Int),.func (.func F) #[] caps] 148)):=ab W _
 have e1:=heap_alloc_new W (.cells #[.int .i64 (n':Int),.int .i64 (m:Int),.func (.func F) #[] caps] 148)
 go_region_held3 (λw'=>w'.cell? ⟨W.heap.size,0,none⟩=some (.int .i64 (n':Int))/\w'.cell? ⟨W.heap.size,1,none⟩=some (.int .i64 (m:Int))/\w'.cell? ⟨W.heap.size,2,none⟩=some (.func (.func F) #[] caps))
  (first|go_keep|exact⟨(qb ad).1,(qb ad).2.1,(qb ad).2.2.1⟩)
  (first|(go_at_call 140;refine (ti _ _ _ m b7 hm _ (by exact vI _ (World.size_alloc _ _).symm)).mono ?_;rintro e w1 ⟨g0,rfl,cS,bj,ad⟩))
 obtain⟨q0,q1,q2,bu,a0⟩:=qb ad
 have dd:W.heap.size<w1.heap.size:=(Array.getElem?_eq_some_iff.1 bu).1
 have bm:W.heap.size<g0:=by have:=cS;simp at this;omega
 have hP:Ps (w1.alloc (.cells #[.int .i64 (n':Int),.int .i64 (m:Int),.func (.func F) #[] caps,.slice (some ⟨g0,0,none⟩) m m,.slice none 0 0] 228)) W.heap.size w1.heap.size n' m (.func (.func F) #[] caps) g0 m (List.replicate m (-1)):=
  ⟨⟨_,heap_alloc_new w1 _⟩,(pJ (by rw[← yc];exact bj) (by simp) (by omega) (by unfold maxLen;omega)).kept (World.grownBy_alloc w1 _ none) (.inr (by simp[Value.ownBlock])),by omega⟩
 have ds:=((ab w1 (.cells #[.int .i64 (n':Int),.int .i64 (m:Int),.func (.func F) #[] caps,.slice (some ⟨g0,0,none⟩) m m,.slice none 0 0] 228)).block _ dd).trans bu
 have bg:=a0.trans ((ab w1 (.cells #[.int .i64 (n':Int),.int .i64 (m:Int),.func (.func F) #[] caps,.slice (some ⟨g0,0,none⟩) m m,.slice none 0 0] 228)).mono (Nat.le_of_lt dd))
 clear ad cS bj en e1
 obtain⟨bp,bS⟩:∃ bp,w1.heap.size=bp:=⟨_,rfl⟩
 rw[bS] at hP
 have ej:W.heap.size<bp:=by omega
 have dz:=zh bS
 have eg:=zh ds
 have HP:=zh hP
 have dx:=zh bg
 have HA:=zh hA
 have eB:m<=9223372036854775807:=by omega
 clear bS ds hP bg q0 q1 q2 q3 bu a0 hA
 go_wp2_with fail
 rw[dz.out]
 go_loopg [7,10,22] L (λgk s7 s10 s22 wr=>∃ (k n0:Nat) (of:List Int),k+gk=L/\n0<=k/\s7=.int .i64 ((n0:Nat):Int)/\s22=.int .i64 ((k:Nat):Int)/\wr.heap[W.heap.size]?=some (.cells #[.int .i64 (n':Int),.int .i64 (m:Int),.func (.func F) #[] caps] 148 (0,0))/\
  Ps wr W.heap.size bp n' m (.func (.func F) #[] caps) g0 m of/\Below W.heap.size W wr/\Hid (lg g m of/\lL n of/\cE g m rows=(gp g m (rows.drop k) of n0).2))
 case atStart=>exact⟨0,0,_,by omega,Nat.le_refl _,rfl,rfl,eg.out,HP.out,dx.out,zh ⟨zr g m,yi n m,rfl⟩⟩
 obtain⟨k,n0,of,e6,e8,rfl,rfl,hx,hP,hb,Hv⟩:=hrel
 obtain⟨wi,rfl⟩:∃ wi:World,wi=wr:=⟨_,rfl⟩
 by_cases bc:k<L
 ·obtain⟨b,o,x,rfl,cL,bv,cO⟩:=(HA.out.below hb).at1 bc
  have bt:k<rows.length:=by rw[← cd.out];exact bc
  obtain⟨r,hr⟩:∃ r,rows[k]=r:=⟨_,rfl⟩
  obtain rfl:x=(r:Int):=by
   rw[List.getElem?_map,List.getElem?_eq_getElem bt] at bv
   simp at bv
   rw[← bv,hr]
  have c4:r<n:=d7.out r (by rw[← hr];exact List.getElem_mem bt)
  have d2:=zh (show rows.drop k=r :: rows.drop (k+1) by rw[List.drop_eq_getElem_cons bt,hr])
  obtain⟨q0,q1,q2,q3⟩:=zK hx
  have i1:(k:Int)<(L:Int):=by omega
  have i2:(0:Int)<=(m:Int):=by omega
  have Hx:=zh hx
  have HP:=zh hP
  have Hb:=zh hb
  have b9:=hb.size
  have e4:W.heap.size<wi.heap.size:=(Array.getElem?_eq_some_iff.1 hx).1
  have c3:=hP.lt
  have cT:g0<wi.heap.size:=(mB hP.row).2.1
  have e2:=zh c3
  have d4:=zh cT
  clear hx hP hb hr bt bv c3 cT
  go_wp2_with (at_make;refine lD rfl (.tmp 28) (.tmp 28) _ rfl 4 Tryz.underlying224 nO rfl (by omega) m m rfl rfl rfl (by omega) ?_;intro w2 dk a9;have bf:=HP.out.grown a9;have cp:=bf.fs dk b9 hm (by have:=d4.out;omega);have e5:=bf.free;obtain⟨sv,fc⟩:=bf.cell;have cA:=Hb.out.grown a9 b9 (λk hk=>by cases hk);have cC:=cA.setCell (p:=⟨bp,4,none⟩) bf.bpB (.slice (some ⟨wi.heap.size,0,none⟩) m m);have dt:=zh cp;have bk:=zh cC;have cl:=zh ((Below.heap_setCell w2 ⟨bp,4,none⟩ (.slice (some ⟨wi.heap.size,0,none⟩) m m) W.heap.size (Nat.ne_of_lt ej)).trans ((a9.block _ (Array.getElem?_eq_some_iff.1 Hx.out).1 (by simp)).trans Hx.out));clear dk a9 bf cp cA cC)
  obtain⟨u,hu⟩:∃ u,ea g m (m+1) r of (List.replicate m false)=u:=⟨_,rfl⟩
  have c2:of.length=m:=HP.out.len
  have b8:=pu g m of c2 Hv.out.1 (m+1) r (List.replicate m false) (by simp) (by rw[me];omega)
  have b5:=Bo g m r (rows.drop (k+1)) of n0 u hu
  rw[hu] at b8
  rw[← d2.out] at b5
  have HU:=zh hu
  have cc:=zh b8
  have ca:=zh b5
  clear hu b8 b5 c2
  refine (ER W W.heap.size bp n m n' F caps g g0 m wi.heap.size m es d6.out hm hn (Nat.le_of_lt bm) b9 m r of (List.replicate m false) _ (by rw[me];omega) c4 dt.out bk.out bk.out.size Hv.out.1 Hv.out.2.1).mono ?_
  rw[HU.out]
  rintro e w4 ⟨rfl,cq,bE⟩
  have cI:=Kx.low bk.out bE (by rintro j (rfl|rfl)<;>omega) bk.out.size
  have dq:=(bE.block _ (Array.getElem?_eq_some_iff.1 cl.out).1 (by omega)).trans cl.out
  have bI:=cq.ps
  clear cq bE
  cases aa:u.2.2 with
  |true =>
   obtain⟨c8,c9,_⟩:=cc.out.yes aa
   have c5:=zm Hv.out.2.1 c4 c9
   have hk:=ca.out
   rw[if_pos aa] at hk
   have bw:=zh (show lg g m u.1/\lL n u.1/\cE g m rows=(gp g m (rows.drop (k+1)) u.1 (n0+1)).2 from ⟨c8,c5,by rw[Hv.out.2.2,hk]⟩)
   clear c8 c9 c5 hk aa
   go_wp2_with fail
   go_roundg (gk-1)
   case measure=>omega
   case rel=>exact⟨k+1,n0+1,u.1,by omega,by omega,by go_num,by go_num,dq,bI,cI,bw⟩
  |false =>
   have h1:=(cc.out.no aa).1
   rw[h1] at bI
   have hk:=ca.out
   rw[if_neg (by rw[aa];simp)] at hk
   have bw:=zh (show lg g m of/\lL n of/\cE g m rows=(gp g m (rows.drop (k+1)) of n0).2 from ⟨Hv.out.1,Hv.out.2.1,by rw[Hv.out.2.2,hk]⟩)
   clear h1 hk aa
   go_wp2_with fail
   go_roundg (gk-1)
   case measure=>omega
   case rel=>exact⟨k+1,n0,of,by omega,by omega,rfl,by go_num,dq,bI,cI,bw⟩
 obtain rfl:L=k:=by omega
 have hk:=Hv.out.2.2
 rw[List.drop_of_length_le (by rw[← cd.out];exact Nat.le_refl _)] at hk
 have d3:=zh (hR.out (.returned (.tuple #[.pointer (some ⟨bp,0,none⟩),.int .i64 (n0:Int)])) wi ⟨bp,by rw[hk];rfl,hb⟩)
 clear hx hP hb hk
 go_wp2
 exact d3.out
end
section
open Go.RowKit
def mt(c:Int):Bool:=decide (-1<=c)&&decide (c<=1000000000)
def kX(n m:Nat)(r:List Int):Bool:=decide (r.length=m)&&decide (n<=r.length)&&decide (r.length<=64)&&r.all mt
def wid(T:List (List Int)):Nat:=(T.headD []).length
def iL(T:List (List Int)):Bool:=decide (1<=T.length)&&decide (T.length<=64)&&T.all (kX T.length (wid T))
structure fP(T:List (List Int))(m:Nat):Prop where
 n1:1<=T.length
 nm:T.length<=m
 m64:m<=64
 rect:∀ x∈T,x.length=m
 cell:∀ x∈T,∀ c∈x,-1<=c/\c<=1000000000
theorem uK{c:Int}:mt c=true ↔ -1<=c/\c<=1000000000:=by simp[mt]
theorem yh{n m:Nat}{r:List Int}:kX n m r=true ↔ r.length=m/\n<=r.length/\r.length<=64/\∀ c∈r,-1<=c/\c<=1000000000:=by
 simp[kX,uK,and_assoc]
theorem oM{T:List (List Int)}:iL T=true ↔ fP T (wid T):=by
 constructor
 ·intro h
  simp only[iL,Bool.and_eq_true,decide_eq_true_eq,List.all_eq_true] at h
  obtain⟨⟨h1,h2⟩,h3⟩:=h
  have h4:=λx hx=>yh.1 (h3 x hx)
  obtain⟨a,r,rfl⟩:∃ a r,T=a :: r:=by
   cases T with
   |nil=>simp at h1
   |cons a r=>exact⟨a,r,rfl⟩
  have h5:=h4 a (by simp)
  exact⟨h1,by rw[← h5.1];exact h5.2.1,by rw[← h5.1];exact h5.2.2.1,λx hx=>(h4 x hx).1,λx hx=>(h4 x hx).2.2.2⟩
 intro h
 simp only[iL,Bool.and_eq_true,decide_eq_true_eq,List.all_eq_true]
 exact⟨⟨h.n1,Nat.le_trans h.nm h.m64⟩,λx hx=>yh.2 ⟨h.rect x hx,by rw[h.rect x hx];exact h.nm,by rw[h.rect x hx];exact h.m64,h.cell x hx⟩⟩
theorem fP.wid{T:List (List Int)}{m:Nat}(h:fP T m):wid T=m:=by
 cases T with
 |nil=>have:=h.n1;simp at this
 |cons a r=>exact h.rect a (by simp)
theorem fP.ct_mem{T:List (List Int)}{m:Nat}(h:fP T m){i j:Nat}(hi:i<T.length)(hj:j<m):∃ r∈T,r.length=m/\ct T i j∈r:=by
 refine⟨T[i],List.getElem_mem hi,h.rect _ (List.getElem_mem hi),?_⟩
 have hl:j<(T[i]).length:=by rw[h.rect _ (List.getElem_mem hi)];exact hj
 have e:ct T i j=(T[i])[j]:=by
  unfold ct
  rw[aw _ _ _ hi,aw _ _ _ hl]
 rw[e]
 exact List.getElem_mem hl
theorem fP.costOk{T:List (List Int)}{m:Nat}(h:fP T m):wC T m:=λi j hi hj=>by
 obtain⟨r,hr,_,hc⟩:=h.ct_mem hi hj
 exact h.cell r hr _ hc
theorem jw{T:List (List Int)}{i:Nat}{r:List Int}(hr:T[i]?=some r)(h:kX T.length (wid T) r=false):iL T=false:=by
 unfold iL
 have:T.all (kX T.length (wid T))=false:=by
  rw[List.all_eq_false]
  exact⟨r,List.mem_of_getElem? hr,by rw[h];simp⟩
 rw[this];simp
theorem qL{n m:Nat}{r:List Int}{j:Nat}{c:Int}(hc:r[j]?=some c)(h:mt c=false):kX n m r=false:=by
 unfold kX
 have:r.all mt=false:=by
  rw[List.all_eq_false]
  exact⟨c,List.mem_of_getElem? hc,by rw[h];simp⟩
 rw[this];simp
theorem qQ{α:Type}{P:α->Bool}{l:List α}{k:Nat}{x:α}(h:(l.take k).all P=true)(hx:l[k]?=some x)(hp:P x=true):(l.take (k+1)).all P=true:=by
 obtain⟨hk,rfl⟩:=List.getElem?_eq_some_iff.1 hx
 rw[List.take_succ_eq_append_getElem hk,List.all_append,h]
 simp[hp]
theorem EW{T:List (List Int)}{r:List Int}(h:T[0]?=some r):r.length=wid T:=by
 cases T with
 |nil=>simp at h
 |cons a t=>simp at h;subst h;rfl
theorem d8.head{w:World}{A:Option Addr}{n:Nat}{T:List (List Int)}(h:d8 w A n T)(h0:0<n):∃ b o A0 c0,A=some ⟨b,o,none⟩/\w.cell? ⟨b,o,none⟩=some (.slice A0 (wid T) c0):=by
 obtain⟨b,o,r,Ai,ci,hA,_,hr,hc,_⟩:=h.at_ h0
 exact⟨b,o,Ai,ci,hA,by rw[← EW hr];simpa using hc⟩
theorem lq(A:Option Addr)(n c:Nat)(T:List (List Int))(w:World)(hT:d8 w A n T)(hn:n<=9223372036854775807)(am:∀ r∈T,r.length<=9223372036854775807) :
 Calls Tryz.prog 46 #[.slice A n c] w λe w'=>e=.returned (.int .i64 (if iL T=true then 0 else 1))/\w=w':=by
 refine ae ?_
 intro R hR
 have ei:=zh (show iL T=true->R (.returned (.int .i64 0)) w from λh=>hR.out _ _ ⟨by rw[if_pos h],rfl⟩)
 have aF:=zh (show iL T=false->R (.returned (.int .i64 1)) w from λh=>hR.out _ _ ⟨by rw[if_neg (by rw[h];simp)],rfl⟩)
 have HT:=zh hT
 have bD:=zh am
 have Hl:=zh hT.1
 clear hR hT am
 by_cases h1:n<1
 ·have Hf:=zh (aF.out (by unfold iL;rw[decide_eq_false (by rw[← Hl.out];omega)];rfl))
  go_enter Tryz.func46,Tryz.ntmps46
  go_wp2
  exact Hf.out
 by_cases h2:64<n
 ·have Hf:=zh (aF.out (by unfold iL;rw[decide_eq_false (p:=T.length<=64) (by rw[← Hl.out];omega)];simp))
  go_enter Tryz.func46,Tryz.ntmps46
  go_wp2
  exact Hf.out
 obtain⟨b,o,A0,c0,rfl,bq⟩:=HT.out.head (by omega)
 obtain⟨m,hm⟩:∃ m,wid T=m:=⟨_,rfl⟩
 rw[hm] at bq
 have Hm:=zh hm
 have d5:=zh bq
 clear hm bq
 have i5:(n:Int)<=64:=by omega
 have i6:(1:Int)<=(n:Int):=by omega
 go_enter Tryz.func46,Tryz.ntmps46
 go_wp2_with fail
 go_loop [17] (λs17=>∃ k:Nat,k<=n/\s17=.int .i64 ((k:Nat):Int)/\Hid ((T.take k).all (kX n m)=true)) (λs17=>n-(intOf s17).toNat)
 case atStart=>exact⟨0,by omega,rfl,zh (by simp)⟩
 obtain⟨k,hk,rfl,Ha⟩:=hrel
 by_cases bc:k<n
 ·obtain⟨b',o',r,Ai,ci,e,cL,hr,cO,am⟩:=HT.out.at_ bc
  simp only[Option.some.injEq,Addr.mk.injEq,and_true] at e
  obtain⟨rfl,rfl⟩:=e
  obtain⟨l,hl⟩:∃ l,r.length=l:=⟨_,rfl⟩
  rw[hl] at cO am
  have i1:(k:Int)<(n:Int):=by omega
  have e7:l<=9223372036854775807:=by rw[← hl];exact bD.out r (List.mem_of_getElem? hr)
  have Hr:=zh hr
  have HL:=zh hl
  have ec:=zh am
  have bq:=d5.out
  clear hr hl am
  by_cases h3:l=m
  ·by_cases h4:n<=l
   ·by_cases h5:l<=64
    ·have g3:((l:Int) != m)=false:=by simp[h3]
     have g4:decide ((l:Int)<(n:Int))=false:=by simp;omega
     have g5:decide ((64:Int)<(l:Int))=false:=by simp;omega
     have H3:=zh h3
     have H4:=zh h4
     have H5:=zh h5
     clear h3
     go_wp2_with fail
     go_loop [42] (λs42=>∃ j:Nat,j<=l/\s42=.int .i64 ((j:Nat):Int)/\Hid ((r.take j).all mt=true)) (λs42=>l-(intOf s42).toNat)
     case atStart=>exact⟨0,by omega,rfl,zh (by simp)⟩
     obtain⟨j,hj,rfl,Hj⟩:=hrel
     by_cases ev:j<l
     ·obtain⟨b2,o2,x,rfl,_,hx,q0⟩:=ec.out.at1 ev
      have i2:(j:Int)<(l:Int):=by omega
      have Hx:=zh hx
      clear hx
      by_cases bu:x < -1
      ·have Hf:=zh (aF.out (jw Hr.out (qL Hx.out (by unfold mt;rw[decide_eq_false (by omega)];rfl))))
       go_wp2
       exact Hf.out
      by_cases fo:1000000000<x
      ·have Hf:=zh (aF.out (jw Hr.out (qL Hx.out (by unfold mt;rw[decide_eq_false (p:=x<=1000000000) (by omega)];simp))))
       go_wp2
       exact Hf.out
      have HJ:=zh (qQ Hj.out Hx.out (uK.2 (by omega)))
      go_wp2
      exact⟨⟨j+1,by omega,by go_num,HJ⟩,by simp[intOf];omega⟩
     obtain rfl:l=j:=by omega
     have hc:=Hj.out
     rw[List.take_of_length_le (by rw[HL.out];exact Nat.le_refl _)] at hc
     have HA:=zh (qQ Ha.out Hr.out (by unfold kX;rw[HL.out,decide_eq_true H3.out,decide_eq_true H4.out,decide_eq_true H5.out,hc];rfl))
     clear hc
     go_wp2
     exact⟨⟨k+1,by omega,by go_num,HA⟩,by simp[intOf];omega⟩
    have g3:((l:Int) != m)=false:=by simp[h3]
    have Hf:=zh (aF.out (jw Hr.out (by unfold kX;rw[HL.out,decide_eq_false h5];simp)))
    clear h3
    go_wp2
    exact Hf.out
   have g3:((l:Int) != m)=false:=by simp[h3]
   have Hf:=zh (aF.out (jw Hr.out (by unfold kX;rw[HL.out,← Hl.out,decide_eq_false h4];simp)))
   clear h3
   go_wp2
   exact Hf.out
  have g3:((l:Int) != m)=true:=by simp;omega
  have Hf:=zh (aF.out (jw Hr.out (by unfold kX;rw[HL.out,Hm.out,decide_eq_false h3];rfl)))
  clear h3
  go_wp2
  exact Hf.out
 obtain rfl:n=k:=by omega
 have h:=Ha.out
 rw[List.take_of_length_le (by rw[Hl.out];exact Nat.le_refl _)] at h
 have Hf:=zh (ei.out (by unfold iL;rw[← Hl.out,Hm.out,h,decide_eq_true (by omega),decide_eq_true (by omega)];rfl))
 clear h
 go_wp2
 exact Hf.out
end
section
open Go.RowKit
end
section
open Go.RowKit
theorem qO:Enters Tryz.prog 139:=enters_of Tryz.func139 (by kernel_rfl) rfl
theorem mH(W:World)(g n c m:Nat)(A:Option Addr)(T:List (List Int))(hT:d8 W A n T)(aa:fP T m)(hg:W.heap[g]?=some (.cells #[.slice A n c] 72 (0,0))) :
 kb W W.heap.size 139 #[.pointer (some ⟨g,0,none⟩)] n m (gT T):=by
 intro W1 r k hb hr hk
 refine ae ?_
 intro R hR
 have bm:=(hb.block g (Array.getElem?_eq_some_iff.1 hg).1).trans hg
 have q0:W1.cell? ⟨g,0,none⟩=some (.slice A n c):=by rw[cell_of_row _ _ 0 _ _ (0,0) bm];rfl
 obtain⟨b,o,Ai,ci,bi,oi,rfl,_,_,q1,rfl,q2⟩:=iM hT aa.rect hb hr hk
 have hc:=aa.costOk r k (by rw[← hT.1];exact hr) hk
 have i1:(r:Int)<(n:Int):=by omega
 have i2:(k:Int)<(m:Int):=by omega
 obtain⟨y,hy⟩:∃ y,ct T r k=y:=⟨_,rfl⟩
 rw[hy] at q2 hc
 have Hf:=zh (hR.out (.returned (.bool (y != -1))) W1 ⟨rv (by rw[show gT T r k=decide (0<=y) by unfold gT;rw[hy],Bool.eq_iff_iff];simp;omega),Qt.refl _⟩)
 clear hR hy hg bm hT aa hb
 show Calls Tryz.prog 139 #[.int .i64 (r:Int),.int .i64 (k:Int),.pointer (some ⟨g,0,none⟩)] W1 R
 go_enter Tryz.func139,Tryz.ntmps139
 go_wp2
 exact Hf.out
theorem mG(A:Option Addr)(n c m:Nat)(T:List (List Int))(w:World)(hT:d8 w A n T)(aa:fP T m) :
 Calls Tryz.prog 50 #[.slice A n c] w λe w'=>∃ g,e=.returned (.agg #[.int .i64 (n:Int),.int .i64 (m:Int),.func (.func 139) #[] #[.pointer (some ⟨g,0,none⟩)]])/\
  w'.heap[g]?=some (.cells #[.slice A n c] 72 (0,0))/\w.heap.size<=g/\Below w.heap.size w w':=by
 refine ae ?_
 intro R hR
 have e9:1<=n:=by rw[hT.1];exact aa.n1
 obtain⟨b,o,A0,c0,rfl,hh⟩:=hT.head (by omega)
 rw[aa.wid] at hh
 have cL:b<w.heap.size:=by
  obtain⟨b',o',hA,bc,_⟩:=hT.2 (by omega)
  injection hA with hA
  injection hA with hA
  subst hA
  exact bc
 have hn:=hT.1
 have e3:=aa.m64
 have fb:n<=m:=by rw[hT.1];exact aa.nm
 clear hT aa hn
 have n1:b≠w.heap.size:=by omega
 have n2:b≠w.heap.size+1:=by omega
 have i5:(n:Int)<=64:=by omega
 have i6:(1:Int)<=(n:Int):=by omega
 have i7:0<n:=by omega
 go_enter Tryz.func50,Tryz.ntmps50
 go_wp2_with fail
 have ad:Below w.heap.size w (w.alloc (.cells #[.slice (some ⟨b,o,none⟩) n c] 72)):=ab w _
 go_region_held3 (λw'=>w'.cell? ⟨w.heap.size,0,none⟩=some (.slice (some ⟨b,o,none⟩) n c)/\w'.cell? ⟨b,o,none⟩=some (.slice A0 m c0)) (go_keep) (fail)
 go_wp2
 refine bodyPost_ret (v:=.agg #[.int .i64 (n:Int),.int .i64 (m:Int),.func (.func 139) #[] #[.pointer (some ⟨w.heap.size,0,none⟩)]]) ?_ rfl (hR.out _ _ ⟨w.heap.size,rfl,?_,Nat.le_refl _,?_⟩)
 ·simp[results,Tryz.results50,go_sem]
 ·exact ((ab (w.alloc (.cells #[.slice (some ⟨b,o,none⟩) n c] 72)) _).block _ (by simp)).trans (heap_alloc_new w _)
 exact ((ab w _).trans ((ab (w.alloc (.cells #[.slice (some ⟨b,o,none⟩) n c] 72)) _).mono (by simp))).drew
end
section
open Go.RowKit
def Gz(n:Nat):List Int:=(List.range n).map λ(i:Nat)=>(i:Int)
theorem fB{W:World}{g n:Nat}{e:TypeId}{l:List Int}(h:W.heap[g]?=some (.cells (l.map (Value.int .i64)).toArray e (0,0)))(hn:n=l.length):ag ak 1 W (some ⟨g,0,none⟩) n l:=by
 refine⟨hn,by rw[bU jM];omega,λ_=>⟨g,0,rfl,(Array.getElem?_eq_some_iff.1 h).1,λj u hu=>?_⟩⟩
 rw[Nat.zero_add,cell_of_row _ _ _ _ _ (0,0) h]
 rw[lM] at hu
 simpa using hu
theorem ru(n:Nat):∀ r∈List.range n,r<n:=λ_r hr=>List.mem_range.1 hr
theorem xM(A:Option Addr)(n c m:Nat)(T:List (List Int))(w:World)(hT:d8 w A n T)(aa:fP T m) :
 Calls Tryz.prog 21 #[.slice A n c] w λe w'=>e=.returned (.tuple #[.int .i64 (cE (gT T) m (List.range n):Int),.int .i64 0])/\Below w.heap.size w w':=by
 refine ae ?_
 intro R hR
 have fa:n<=64:=by rw[hT.1];exact Nat.le_trans aa.nm aa.m64
 have am:∀ r∈T,r.length<=9223372036854775807:=λr hr=>by rw[aa.rect r hr];have:=aa.m64;omega
 have ht:iL T=true:=oM.2 (by rw[aa.wid];exact aa)
 have b7:1<=m:=Nat.le_trans aa.n1 aa.nm
 have eB:=aa.m64
 obtain⟨K,hK⟩:∃ K,cE (gT T) m (List.range n)=K:=⟨_,rfl⟩
 have HK:=zh hK
 have HT:=zh hT
 have cj:=zh aa
 have bD:=zh am
 have Ht:=zh ht
 clear hK hT aa am ht
 go_enter Tryz.func21,Tryz.ntmps21
 go_wp2_with fail
 refine (lq _ _ _ T _ HT.out (by omega) bD.out).mono ?_
 rw[if_pos Ht.out]
 rintro e w0 ⟨rfl,rfl⟩
 go_wp2_with fail
 refine (mG _ _ _ m T _ HT.out cj.out).mono ?_
 rintro e w1 ⟨g,rfl,hbx,hg,ad⟩
 go_wp2_with fail
 refine (io n (by omega) _).mono ?_
 rintro e w2 ⟨g2,rfl,a9,bj,a0⟩
 have cN:=(a0.block g (Array.getElem?_eq_some_iff.1 hbx).1).trans hbx
 have cx:=(HT.out.below ad).below a0
 have b6:=ad.trans (a0.mono ad.size)
 clear ad a0 hbx hg a9
 go_wp2_with fail
 refine (il n m n _ _ (gT T) qO w2 (mH w2 g n c m _ T cx cj.out cN) b7 (by omega) (by omega) _ _ n (List.range n) (by omega) (ru n) (fB bj (by simp))).mono ?_
 rw[HK.out]
 rintro e w3 ⟨bp,rfl,bg⟩
 have Hf:=zh (hR.out (.returned (.tuple #[.int .i64 (K:Int),.int .i64 0])) w3 ⟨by rw[HK.out],b6.trans (bg.mono b6.size)⟩)
 clear bg b6 bj cN cx
 go_wp2
 exact Hf.out
end
section
open Go.RowKit
end
section
open Go.RowKit Go.Shelf Go.Lib Go.Sort
end
section
open Go.RowKit
def aX(S:List Nat):List Int:=S.map λ(i:Nat)=>(i:Int)
theorem km(S:List Nat):(aX S).length=S.length:=by simp[aX]
end
end Go.Proofs.YtgbnicokglpdbaaGreatDoor
