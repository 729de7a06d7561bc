/-
Contracts of the document's Near and Most and of the solver's words and near; conditions: those of each theorem.
-/
import Derived.Test.YtgbnicokglpdbaaGreatDoorCc
namespace Go.Proofs.YtgbnicokglpdbaaGreatDoor
set_option maxHeartbeats 16000000
set_option maxRecDepth 100000
section
section
open Go.RowKit
end
section
open Go.RowKit
theorem CR(w:World)(o o':Obj):((w.alloc o).alloc o').heap[w.heap.size]?=some o:=((ab (w.alloc o) o').block _ (by simp)).trans (heap_alloc_new w o)
theorem CS(w:World)(o o':Obj):((w.alloc o).alloc o').heap[w.heap.size+1]?=some o':=by
 have:=heap_alloc_new (w.alloc o) o'
 rwa [World.size_alloc] at this
end
section
open Go.RowKit
def dm(W:World)(b:Nat)(l:List Int):Prop:=W.heap[b]?=some (.cells (l.map (Value.int .i64)).toArray 3 (0,0))
def em(W:World)(b:Nat)(l:List Bool):Prop:=W.heap[b]?=some (.cells (l.map Value.bool).toArray 4 (0,0))
section
variable{W W':World}{b b' k:Nat}{l:List Int}{lb:List Bool}
theorem dm.at_(h:dm W b l)(hk:k<l.length):W.cell? ⟨b,k,none⟩=some (.int .i64 (l.getD k 0))/\W.frozen? ⟨b,k,none⟩=false:=by
 refine⟨?_,by simp[World.frozen?,show W.heap[b]?=_ from h]⟩
 rw[cell_of_row _ _ _ _ _ (0,0) h,aw _ _ _ hk]
 simp[hk]
theorem em.at_(h:em W b lb)(hk:k<lb.length):W.cell? ⟨b,k,none⟩=some (.bool (lb.getD k false))/\W.frozen? ⟨b,k,none⟩=false:=by
 refine⟨?_,by simp[World.frozen?,show W.heap[b]?=_ from h]⟩
 rw[cell_of_row _ _ _ _ _ (0,0) h,aw _ _ _ hk]
 simp[hk]
theorem dm.lt(h:dm W b l):b<W.heap.size:=(Array.getElem?_eq_some_iff.1 h).1
theorem em.lt(h:em W b lb):b<W.heap.size:=(Array.getElem?_eq_some_iff.1 h).1
theorem dm.set(h:dm W b l)(k:Nat)(x:Int):dm (W.setCell ⟨b,k,none⟩ (.int .i64 x)) b (l.set k x):=by
 unfold dm at *
 simp[World.setCell,Array.getElem?_modify,h,List.map_set]
theorem em.set(h:em W b lb)(k:Nat)(x:Bool):em (W.setCell ⟨b,k,none⟩ (.bool x)) b (lb.set k x):=by
 unfold em at *
 simp[World.setCell,Array.getElem?_modify,h,List.map_set]
theorem dm.other(h:dm W b l)(bj:b≠b')(k:Nat)(v:Value):dm (W.setCell ⟨b',k,none⟩ v) b l:=(Below.heap_setCell W ⟨b',k,none⟩ v b bj).trans h
theorem em.other(h:em W b lb)(bj:b≠b')(k:Nat)(v:Value):em (W.setCell ⟨b',k,none⟩ v) b lb:=(Below.heap_setCell W ⟨b',k,none⟩ v b bj).trans h
theorem dm.kx{S:Nat->Prop}(h:dm W b l)(hk:Kx S W W')(hs:¬ S b):dm W' b l:=(hk.block b h.lt hs).trans h
theorem dm.below(h:dm W b l)(hb:Below W.heap.size W W'):dm W' b l:=(hb.block b h.lt).trans h
theorem em.below(h:em W b lb)(hb:Below W.heap.size W W'):em W' b lb:=(hb.block b h.lt).trans h
theorem dm.grown{r:Option Nat}(h:dm W b l)(hg:W.grownBy W' r)(hr:r≠some b):dm W' b l:=(hg.block b h.lt (λe=>hr e.symm)).trans h
theorem dm.ne(h:dm W b l)(h':em W b' lb):b≠b':=λe=>by
 subst e
 unfold dm at h;unfold em at h'
 rw[h] at h'
 simp at h'
theorem dm.sl(h:dm W b l){n:Nat}(hn:n=l.length):ag ak 1 W (some ⟨b,0,none⟩) n l:=fB h hn
end
theorem nD(l:List Nat)(k:Nat):(aX l).getD k 0=((l.getD k 0:Nat):Int):=by
 unfold aX
 rw[List.getD_eq_getElem?_getD,List.getElem?_map,List.getD_eq_getElem?_getD]
 cases l[k]?<;>rfl
theorem uI(l:List Nat)(k x:Nat):aX (l.set k x)=(aX l).set k (x:Int):=by simp[aX,List.map_set]
structure Sv(W:World)(sp:Nat)(A:Option Addr)(n c m bu bv bp bw:Nat)(u v:List Int)(p way:List Nat):Prop where
 box:W.heap[sp]?=some (.cells #[.slice A n c,.slice (some ⟨bu,0,none⟩) (n+1) (n+1),.slice (some ⟨bv,0,none⟩) (m+1) (m+1),.slice (some ⟨bp,0,none⟩) (m+1) (m+1),.slice (some ⟨bw,0,none⟩) (m+1) (m+1)] 143 (0,0))
 hu:dm W bu u
 hv:dm W bv v
 hp:dm W bp (aX p)
 hw:dm W bw (aX way)
 lu:u.length=n+1
 lv:v.length=m+1
 lp:p.length=m+1
 lw:way.length=m+1
structure oX(lo sp bu bv bp bw:Nat):Prop where
 a1:bu≠bv
 a2:bu≠bp
 a3:bu≠bw
 a4:bv≠bp
 a5:bv≠bw
 a6:bp≠bw
 l0:lo<=sp
 l1:lo<=bu
 l2:lo<=bv
 l3:lo<=bp
 l4:lo<=bw
section
variable{W W':World}{sp n c m bu bv bp bw:Nat}{A:Option Addr}{u v:List Int}{p way:List Nat}
theorem Sv.cells(h:Sv W sp A n c m bu bv bp bw u v p way):W.cell? ⟨sp,0,none⟩=some (.slice A n c)/\W.cell? ⟨sp,1,none⟩=some (.slice (some ⟨bu,0,none⟩) (n+1) (n+1))/\W.cell? ⟨sp,2,none⟩=some (.slice (some ⟨bv,0,none⟩) (m+1) (m+1))/\
 W.cell? ⟨sp,3,none⟩=some (.slice (some ⟨bp,0,none⟩) (m+1) (m+1))/\W.cell? ⟨sp,4,none⟩=some (.slice (some ⟨bw,0,none⟩) (m+1) (m+1)):=
 ⟨by rw[cell_of_row _ _ 0 _ _ (0,0) h.box];rfl,by rw[cell_of_row _ _ 1 _ _ (0,0) h.box];rfl,by rw[cell_of_row _ _ 2 _ _ (0,0) h.box];rfl,by rw[cell_of_row _ _ 3 _ _ (0,0) h.box];rfl,by rw[cell_of_row _ _ 4 _ _ (0,0) h.box];rfl⟩
theorem Sv.ne(h:Sv W sp A n c m bu bv bp bw u v p way){b:Nat}{l:List Int}(hb:dm W b l):sp≠b:=λe=>by
 subst e
 unfold dm at hb
 rw[h.box] at hb
 simp at hb
theorem Sv.neB(h:Sv W sp A n c m bu bv bp bw u v p way){b:Nat}{l:List Bool}(hb:em W b l):sp≠b:=λe=>by
 subst e
 unfold em at hb
 rw[h.box] at hb
 simp at hb
theorem Sv.lt(h:Sv W sp A n c m bu bv bp bw u v p way):sp<W.heap.size:=(Array.getElem?_eq_some_iff.1 h.box).1
theorem Sv.drewN(h:Sv W sp A n c m bu bv bp bw u v p way)(q:Nat):Sv (W.drewN q) sp A n c m bu bv bp bw u v p way:=⟨h.box,h.hu,h.hv,h.hp,h.hw,h.lu,h.lv,h.lp,h.lw⟩
theorem Sv.other(h:Sv W sp A n c m bu bv bp bw u v p way){b:Nat}(h0:sp≠b)(h1:bu≠b)(h2:bv≠b)(h3:bp≠b)(h4:bw≠b)(k:Nat)(x:Value):Sv (W.setCell ⟨b,k,none⟩ x) sp A n c m bu bv bp bw u v p way:=
 ⟨(Below.heap_setCell W ⟨b,k,none⟩ x sp h0).trans h.box,h.hu.other h1 k x,h.hv.other h2 k x,h.hp.other h3 k x,h.hw.other h4 k x,h.lu,h.lv,h.lp,h.lw⟩
theorem Sv.below(h:Sv W sp A n c m bu bv bp bw u v p way)(hb:Below W.heap.size W W'):Sv W' sp A n c m bu bv bp bw u v p way:=
 ⟨(hb.block sp h.lt).trans h.box,h.hu.below hb,h.hv.below hb,h.hp.below hb,h.hw.below hb,h.lu,h.lv,h.lp,h.lw⟩
variable{lo:Nat}
theorem Sv.setW(h:Sv W sp A n c m bu bv bp bw u v p way)(hn:oX lo sp bu bv bp bw)(k x:Nat):Sv (W.setCell ⟨bw,k,none⟩ (.int .i64 (x:Int))) sp A n c m bu bv bp bw u v p (way.set k x):=
 ⟨(Below.heap_setCell W ⟨bw,k,none⟩ _ sp (h.ne h.hw)).trans h.box,h.hu.other hn.a3 k _,h.hv.other hn.a5 k _,h.hp.other hn.a6 k _,by rw[uI];exact h.hw.set k _,h.lu,h.lv,h.lp,by simpa using h.lw⟩
theorem Sv.setP(h:Sv W sp A n c m bu bv bp bw u v p way)(hn:oX lo sp bu bv bp bw)(k x:Nat):Sv (W.setCell ⟨bp,k,none⟩ (.int .i64 (x:Int))) sp A n c m bu bv bp bw u v (p.set k x) way:=
 ⟨(Below.heap_setCell W ⟨bp,k,none⟩ _ sp (h.ne h.hp)).trans h.box,h.hu.other hn.a2 k _,h.hv.other hn.a4 k _,by rw[uI];exact h.hp.set k _,h.hw.other (λe=>hn.a6 e.symm) k _,h.lu,h.lv,by simpa using h.lp,h.lw⟩
theorem Sv.setU(h:Sv W sp A n c m bu bv bp bw u v p way)(hn:oX lo sp bu bv bp bw)(k:Nat)(x:Int):Sv (W.setCell ⟨bu,k,none⟩ (.int .i64 x)) sp A n c m bu bv bp bw (u.set k x) v p way:=
 ⟨(Below.heap_setCell W ⟨bu,k,none⟩ _ sp (h.ne h.hu)).trans h.box,h.hu.set k _,h.hv.other (λe=>hn.a1 e.symm) k _,h.hp.other (λe=>hn.a2 e.symm) k _,h.hw.other (λe=>hn.a3 e.symm) k _,by simpa using h.lu,h.lv,h.lp,h.lw⟩
theorem Sv.setV(h:Sv W sp A n c m bu bv bp bw u v p way)(hn:oX lo sp bu bv bp bw)(k:Nat)(x:Int):Sv (W.setCell ⟨bv,k,none⟩ (.int .i64 x)) sp A n c m bu bv bp bw u (v.set k x) p way:=
 ⟨(Below.heap_setCell W ⟨bv,k,none⟩ _ sp (h.ne h.hv)).trans h.box,h.hu.other hn.a1 k _,h.hv.set k _,h.hp.other (λe=>hn.a4 e.symm) k _,h.hw.other (λe=>hn.a5 e.symm) k _,h.lu,by simpa using h.lv,h.lp,h.lw⟩
theorem Sv.at_(h:Sv W sp A n c m bu bv bp bw u v p way){k:Nat}(hk:k<=m):W.cell? ⟨bv,k,none⟩=some (.int .i64 (v.getD k 0))/\W.cell? ⟨bp,k,none⟩=some (.int .i64 ((p.getD k 0:Nat):Int))/\W.cell? ⟨bw,k,none⟩=some (.int .i64 ((way.getD k 0:Nat):Int))/\
 W.frozen? ⟨bv,k,none⟩=false/\W.frozen? ⟨bp,k,none⟩=false/\W.frozen? ⟨bw,k,none⟩=false:=by
 obtain⟨a1,a2⟩:=h.hv.at_ (k:=k) (by rw[h.lv];omega)
 obtain⟨b1,b2⟩:=h.hp.at_ (k:=k) (by rw[km,h.lp];omega)
 obtain⟨c1,c2⟩:=h.hw.at_ (k:=k) (by rw[km,h.lw];omega)
 rw[nD] at b1 c1
 exact⟨a1,b1,c1,a2,b2,c2⟩
theorem Sv.atU(h:Sv W sp A n c m bu bv bp bw u v p way){k:Nat}(hk:k<=n):W.cell? ⟨bu,k,none⟩=some (.int .i64 (u.getD k 0))/\W.frozen? ⟨bu,k,none⟩=false:=h.hu.at_ (by rw[h.lu];omega)
end
theorem I7(w0:World)(sp n c m:Nat)(A:Option Addr)(T:List (List Int))(hT:d8 w0 A n T)(cr:∀ x∈T,x.length=m)(W:World)(hb:Below w0.heap.size w0 W)(cS:W.cell? ⟨sp,0,none⟩=some (.slice A n c))(x y:Int)(i j:Nat)(hx:x=(i:Int))(hy:y=(j:Int))(h1:1<=i)(h2:i<=n)(h3:1<=j)(h4:j<=m)(hn:n<=1000)(hm:m<=1000) :
 Calls Tryz.prog 332 #[.pointer (some ⟨sp,0,none⟩),.int .i64 x,.int .i64 y] W λe W'=>e=.returned (.int .i64 (aF T i j))/\W=W':=by
 refine ae ?_
 intro R hR
 obtain⟨i0,rfl⟩:∃ i0,i=i0+1:=⟨i-1,by omega⟩
 obtain⟨j0,rfl⟩:∃ j0,j=j0+1:=⟨j-1,by omega⟩
 obtain rfl:x=(i0:Int)+1:=by omega
 obtain rfl:y=(j0:Int)+1:=by omega
 obtain⟨b,o,Ai,ci,bi,oi,rfl,_,_,q1,rfl,q2⟩:=iM hT cr hb (r:=i0) (k:=j0) (by omega) (by omega)
 obtain⟨z,hz⟩:∃ z,ct T i0 j0=z:=⟨_,rfl⟩
 rw[hz] at q2
 have i1:(i0:Int)<(n:Int):=by omega
 have i2:(j0:Int)<(m:Int):=by omega
 have bS:aF T (i0+1) (j0+1)=if z = -1 then 1000000000000 else z:=by unfold aF;simp only[Nat.add_sub_cancel];rw[hz]
 by_cases dd:z = -1
 ·subst dd
  rw[if_pos rfl] at bS
  have Hf:=zh (hR.out (.returned (.int .i64 1000000000000)) W ⟨by rw[bS],rfl⟩)
  clear hx hy hR bS hz hT cr hb
  go_enter Tryz.func332,Tryz.ntmps332
  go_wp2
  exact Hf.out
 rw[if_neg dd] at bS
 have m2:(z != -1)=true:=by simpa using dd
 have Hf:=zh (hR.out (.returned (.int .i64 z)) W ⟨by rw[bS],rfl⟩)
 clear hx hy hR bS hz hT cr hb dd
 go_enter Tryz.func332,Tryz.ntmps332
 go_wp2
 exact Hf.out
end
section
open Go.RowKit
theorem vY{d:Nat->Int}{used:List Bool}{fr j:Nat}{s:List Int×List Nat×Nat}(h:used.getD j false=true):gD d used fr j s=s:=by rw[gD,if_pos h]
theorem vW{d:Nat->Int}{used:List Bool}{fr j:Nat}{s:List Int×List Nat×Nat}(h:used.getD j false=false)(hd:d j<s.1.getD j 0) :
 gD d used fr j s=(s.1.set j (d j),s.2.1.set j fr,if s.2.2=0\/d j<(s.1.set j (d j)).getD s.2.2 0 then j else s.2.2):=by rw[gD,if_neg (by rw[h];simp),if_pos hd]
theorem vX{d:Nat->Int}{used:List Bool}{fr j:Nat}{s:List Int×List Nat×Nat}(h:used.getD j false=false)(hd:¬ d j<s.1.getD j 0) :
 gD d used fr j s=(s.1,s.2.1,if s.2.2=0\/s.1.getD j 0<s.1.getD s.2.2 0 then j else s.2.2):=by rw[gD,if_neg (by rw[h];simp),if_neg hd]
structure Nr(W:World)(sp:Nat)(A:Option Addr)(n c m bu bv bp bw bl bs:Nat)(u v:List Int)(p way:List Nat)(least:List Int)(used:List Bool):Prop where
 sv:Sv W sp A n c m bu bv bp bw u v p way
 bl:dm W bl least
 bs:em W bs used
 ll:least.length=m+1
 ls:used.length=m+1
structure zw(lo sp bu bv bp bw bl bs:Nat):Prop where
 n5:oX lo sp bu bv bp bw
 b1:bu≠bl
 b2:bv≠bl
 b3:bp≠bl
 b4:bw≠bl
 l5:lo<=bl
 l6:lo<=bs
section
variable{W W':World}{lo sp n c m bu bv bp bw bl bs:Nat}{A:Option Addr}{u v:List Int}{p way:List Nat}{least:List Int}{used:List Bool}
theorem Nr.drewN(h:Nr W sp A n c m bu bv bp bw bl bs u v p way least used)(q:Nat):Nr (W.drewN q) sp A n c m bu bv bp bw bl bs u v p way least used:=⟨h.sv.drewN q,h.bl,h.bs,h.ll,h.ls⟩
theorem Nr.setL(h:Nr W sp A n c m bu bv bp bw bl bs u v p way least used)(hn:zw lo sp bu bv bp bw bl bs)(k:Nat)(x:Int):Nr (W.setCell ⟨bl,k,none⟩ (.int .i64 x)) sp A n c m bu bv bp bw bl bs u v p way (least.set k x) used:=
 ⟨h.sv.other (h.sv.ne h.bl) hn.b1 hn.b2 hn.b3 hn.b4 k _,h.bl.set k x,h.bs.other (λe=>h.bl.ne h.bs e.symm) k _,by simpa using h.ll,h.ls⟩
theorem Nr.setS(h:Nr W sp A n c m bu bv bp bw bl bs u v p way least used)(k:Nat)(x:Bool):Nr (W.setCell ⟨bs,k,none⟩ (.bool x)) sp A n c m bu bv bp bw bl bs u v p way least (used.set k x):=
 ⟨h.sv.other (h.sv.neB h.bs) (h.sv.hu.ne h.bs) (h.sv.hv.ne h.bs) (h.sv.hp.ne h.bs) (h.sv.hw.ne h.bs) k _,h.bl.other (h.bl.ne h.bs) k _,h.bs.set k x,h.ll,by simpa using h.ls⟩
theorem Nr.setW(h:Nr W sp A n c m bu bv bp bw bl bs u v p way least used)(hn:zw lo sp bu bv bp bw bl bs)(k x:Nat):Nr (W.setCell ⟨bw,k,none⟩ (.int .i64 (x:Int))) sp A n c m bu bv bp bw bl bs u v p (way.set k x) least used:=
 ⟨h.sv.setW hn.n5 k x,h.bl.other (λe=>hn.b4 e.symm) k _,h.bs.other (λe=>h.sv.hw.ne h.bs e.symm) k _,h.ll,h.ls⟩
theorem Nr.setU(h:Nr W sp A n c m bu bv bp bw bl bs u v p way least used)(hn:zw lo sp bu bv bp bw bl bs)(k:Nat)(x:Int):Nr (W.setCell ⟨bu,k,none⟩ (.int .i64 x)) sp A n c m bu bv bp bw bl bs (u.set k x) v p way least used:=
 ⟨h.sv.setU hn.n5 k x,h.bl.other (λe=>hn.b1 e.symm) k _,h.bs.other (λe=>h.sv.hu.ne h.bs e.symm) k _,h.ll,h.ls⟩
theorem Nr.setV(h:Nr W sp A n c m bu bv bp bw bl bs u v p way least used)(hn:zw lo sp bu bv bp bw bl bs)(k:Nat)(x:Int):Nr (W.setCell ⟨bv,k,none⟩ (.int .i64 x)) sp A n c m bu bv bp bw bl bs u (v.set k x) p way least used:=
 ⟨h.sv.setV hn.n5 k x,h.bl.other (λe=>hn.b2 e.symm) k _,h.bs.other (λe=>h.sv.hv.ne h.bs e.symm) k _,h.ll,h.ls⟩
theorem Nr.atL(h:Nr W sp A n c m bu bv bp bw bl bs u v p way least used){k:Nat}(hk:k<=m):W.cell? ⟨bl,k,none⟩=some (.int .i64 (least.getD k 0))/\W.cell? ⟨bs,k,none⟩=some (.bool (used.getD k false))/\W.frozen? ⟨bl,k,none⟩=false/\W.frozen? ⟨bs,k,none⟩=false:=by
 obtain⟨a1,a2⟩:=h.bl.at_ (k:=k) (by rw[h.ll];omega)
 obtain⟨b1,b2⟩:=h.bs.at_ (k:=k) (by rw[h.ls];omega)
 exact⟨a1,b1,a2,b2⟩
end
theorem Ep(w0:World)(sp n c m:Nat)(A:Option Addr)(T:List (List Int))(hT:d8 w0 A n T)(cr:∀ x∈T,x.length=m)(W:World)(hb:Below w0.heap.size w0 W)(cS:W.cell? ⟨sp,0,none⟩=some (.slice A n c))(x y:Int)(i j:Nat)(hx:x=(i:Int))(hy:y=(j:Int))(h1:1<=i)(h2:i<=n)(h3:1<=j)(h4:j<=m)(hn:n<=1000)(hm:m<=1000)(a:Int)(ha:aF T i j=a)(q:Nat) :
 Calls Tryz.prog 332 #[.pointer (some ⟨sp,0,none⟩),.int .i64 x,.int .i64 y] (W.drewN q) λe W'=>e=.returned (.int .i64 a)/\∃ k,W'=W.drewN k:=
 (I7 w0 sp n c m A T hT cr (W.drewN q) (dT hb q) cS x y i j hx hy h1 h2 h3 h4 hn hm).mono λ_ _ ⟨h,h'⟩=>⟨by rw[h,ha],q,h'.symm⟩
theorem Fl(w0:World)(sp n c m bu bv bp bw bl bs:Nat)(A:Option Addr)(T:List (List Int))(hT:d8 w0 A n T)(ad:fP T m)(bt:zw w0.heap.size sp bu bv bp bw bl bs)
 (u v:List Int) (p way:List Nat) (least:List Int) (used:List Bool) (W:World) (hb:Below w0.heap.size w0 W) (hN:Nr W sp A n c m bu bv bp bw bl bs u v p way least used)
 (row fr:Nat) (h1:1<=row) (h2:row<=n) (hu:∀ i,-3000000000000000<=u.getD i 0/\u.getD i 0<=3000000000000000) (hv:∀ i,-3000000000000000<=v.getD i 0/\v.getD i 0<=3000000000000000) :
 Calls Tryz.prog 277 #[.pointer (some ⟨sp,0,none⟩),.int .i64 (row:Int),.int .i64 (fr:Int),.slice (some ⟨bl,0,none⟩) (m+1) (m+1),.slice (some ⟨bs,0,none⟩) (m+1) (m+1)] W λe W' =>
  e=.returned (.tuple #[.int .i64 ((aZ (aM (aF T) u v row) used fr least way m).2.2:Int),.int .i64 ((aZ (aM (aF T) u v row) used fr least way m).1.getD (aZ (aM (aF T) u v row) used fr least way m).2.2 0)])/\
  Nr W' sp A n c m bu bv bp bw bl bs u v p (aZ (aM (aF T) u v row) used fr least way m).2.1 (aZ (aM (aF T) u v row) used fr least way m).1 used/\Kx (λj=>j=bl\/j=bw) W W':=by
 refine ae ?_
 intro R hR
 have hP:=ad.m64
 have bE:n<=m:=by rw[hT.1];exact ad.nm
 have hC:=λj (h3:1<=j) (h4:j<=m)=>rM ad.costOk row j h1 (by rw[← hT.1];exact h2) h3 h4
 have e7:=λk (hk:k<=m)=>tT (aM (aF T) u v row) used fr least way k (by rw[hN.ll];omega) (by rw[hN.sv.lw];omega)
 obtain⟨d,hd⟩:∃ d,aM (aF T) u v row=d:=⟨_,rfl⟩
 rw[hd] at hR e7
 have Hd:=zh hd
 have k7:=zh e7
 have j2:=zh hC
 have Hu:=zh hu
 have Hv:=zh hv
 have HN:=zh hN
 have HT:=zh hT
 have kd:=zh ad.rect
 have aa:=zh bt
 have Hb:=zh hb
 have i3:(row:Int)<(n:Int)+1:=by omega
 clear hd e7 hC hu hv hN hT ad bt hb
 go_enter Tryz.func277,Tryz.ntmps277
 go_wp2_with fail
 go_loopg [12,13] m (λgk s12 s13 wr=>∃ (k nx:Nat) (l1:List Int) (w1:List Nat),k+gk=m/\s13=.int .i64 (((k:Nat):Int)+1)/\s12=.int .i64 ((nx:Nat):Int)/\nx<=k/\Nr wr sp A n c m bu bv bp bw bl bs u v p w1 l1 used/\Kx (λj=>j=bl\/j=bw) W wr/\Hid (aZ d used fr least way k=(l1,w1,nx)))
 case atStart=>exact⟨0,0,least,way,by omega,rfl,rfl,Nat.le_refl _,HN.out,Kx.refl _ _,zh rfl⟩
 obtain⟨k,nx,l1,w1,hH,rfl,rfl,mc,hN,hK,He⟩:=hrel
 obtain⟨wi,rfl⟩:∃ wi:World,wi=wr:=⟨_,rfl⟩
 obtain⟨q0,q1,q2,q3,q4⟩:=hN.sv.cells
 by_cases e6:k<m
 ·obtain⟨c1,c2,c3,c4⟩:=hN.atL (k:=k+1) (by omega)
  have i1:(k:Int)+1<(m:Int)+1:=by omega
  have i2:(k:Int)+1<=9223372036854775807:=by omega
  have t1:((k:Int)+1).toNat=k+1:=by omega
  have fz:=zh hN
  cases hs:used.getD (k+1) false with
  |true =>
   rw[hs] at c2
   have HE:=zh (show aZ d used fr least way (k+1)=(l1,w1,nx) by rw[aZ,He.out,vY hs])
   clear hs hN
   go_wp2_with fail
   go_roundg (gk-1)
   case measure=>omega
   case rel=>exact⟨k+1,nx,l1,w1,by omega,by go_num,rfl,by omega,fz.out,hK,HE⟩
  |false =>
   rw[hs] at c2
   obtain⟨a,ha⟩:∃ a,aF T row (k+1)=a:=⟨_,rfl⟩
   obtain⟨x,hx⟩:∃ x,u.getD row 0=x:=⟨_,rfl⟩
   obtain⟨y,hy⟩:∃ y,v.getD (k+1) 0=y:=⟨_,rfl⟩
   obtain⟨e1,e2⟩:=hN.sv.atU (k:=row) h2
   obtain⟨f1,f2,f3,f4,f5,f6⟩:=hN.sv.at_ (k:=k+1) (by omega)
   rw[hx] at e1
   rw[hy] at f1
   have he:=j2.out (k+1) (by omega) (by omega)
   have fo:=Hu.out row
   have fu:=Hv.out (k+1)
   rw[ha] at he
   rw[hx] at fo
   rw[hy] at fu
   unfold bO at he
   have hE:d (k+1)=a-x-y:=by rw[← Hd.out];unfold aM;rw[ha,hx,hy]
   have z1:IntKind.i64.wrap (a-x)=a-x:=IntWalk.i64_in _ (by omega)
   have z2:IntKind.i64.wrap (a-x-y)=a-x-y:=IntWalk.i64_in _ (by omega)
   have Ha:=zh ha
   have d6:=zh hE
   have Hs:=zh hs
   have jT:=zh (Kx.low Hb.out hK (GB aa.out.l5 aa.out.n5.l4) Hb.out.size)
   clear ha hE hs hx hy f2 f3 f4 f5 f6 c1 c3 c4 hN
   go_wp2_with fail
   go_quiet ((go_at_call 332;exact Ep w0 sp n c m A T HT.out kd.out _ jT.out q0 _ _ row (k+1) rfl (by omega) h1 h2 (by omega) (by omega) (by omega) (by omega) a Ha.out _))
   rename_i nq
   have bf:=fz.out.drewN nq
   have gO:=hK.drewN nq
   clear q0 q1 q2 q3 q4 e1 e2 f1 c2 hK
   generalize wi.drewN nq=wd at *
   obtain⟨q0,q1,q2,q3,q4⟩:=bf.sv.cells
   obtain⟨c1,c2,c3,c4⟩:=bf.atL (k:=k+1) (by omega)
   obtain⟨f1,f2,f3,f4,f5,f6⟩:=bf.sv.at_ (k:=k+1) (by omega)
   obtain⟨l,hl⟩:∃ l,l1.getD (k+1) 0=l:=⟨_,rfl⟩
   rw[hl] at c1
   have hM:l1.length=m+1:=bf.ll
   have n1:bl≠bw:=λe=>aa.out.b4 e.symm
   have n2:sp≠bl:=bf.sv.ne bf.bl
   have n3:sp≠bw:=bf.sv.ne bf.sv.hw
   have b6:=zh bf
   have cC:=zh gO
   have Hl:=zh hl
   have j5:=zh hM
   clear bf gO hl f1 f2 f4 f5 c2 c4 hM
   by_cases hG:a-x-y<l
   ·have cO:=(b6.out.setL aa.out (k+1) (a-x-y)).setW aa.out (k+1) fr
    have gT:=bz (bz cC.out (b:=bl) (.inl rfl) (k+1) (.int .i64 (a-x-y))) (b:=bw) (.inr rfl) (k+1) (.int .i64 (fr:Int))
    have a9:=λr hr=>(show aZ d used fr least way (k+1)=(l1.set (k+1) (a-x-y),w1.set (k+1) fr,r) by rw[aZ,He.out,vW Hs.out (by rw[d6.out];simp only;rw[Hl.out];exact hG),d6.out];exact hr)
    have b7:=zh cO
    have dk:=zh gT
    have bc:=zh a9
    obtain⟨g1,g2,g3,g4⟩:=cO.atL (k:=k+1) (by omega)
    obtain⟨o1,o2,o3,o4⟩:=cO.atL (k:=nx) (by omega)
    rw[bV _ _ _ _ (by rw[j5.out];omega)] at g1
    clear cO gT a9 g2 g3 g4 o2 o3 o4
    obtain⟨y2,bI⟩:∃ y2,(l1.set (k+1) (a-x-y)).getD nx 0=y2:=⟨_,rfl⟩
    rw[bI] at o1
    have ca:=zh bI
    clear bI
    by_cases am:nx=0
    ·have g0:((nx:Int)==0)=true:=by simp[am]
     have HE:=zh (bc.out (k+1) (by rw[if_pos (.inl am)]))
     clear am
     go_wp2_with fail
     go_quiet (fail)
     go_wp2_with fail
     go_roundg (gk-1)
     case measure=>omega
     case rel=>exact⟨k+1,k+1,l1.set (k+1) (a-x-y),w1.set (k+1) fr,by omega,by go_num,by go_num,Nat.le_refl _,b7.out.drewN _,dk.out.drewN _,HE⟩
    have g0:((nx:Int)==0)=false:=by simp;omega
    have i4:(nx:Int)<(m:Int)+1:=by omega
    by_cases cn:a-x-y<y2
    ·have HE:=zh (bc.out (k+1) (by rw[if_pos (.inr (by simp only;rw[ca.out];exact cn))]))
     clear am
     go_wp2_with fail
     go_quiet (fail)
     go_wp2_with fail
     go_roundg (gk-1)
     case measure=>omega
     case rel=>exact⟨k+1,k+1,l1.set (k+1) (a-x-y),w1.set (k+1) fr,by omega,by go_num,by go_num,Nat.le_refl _,b7.out.drewN _,dk.out.drewN _,HE⟩
    have HE:=zh (bc.out nx (by rw[if_neg (by simp only;rw[ca.out];omega)]))
    have g5:decide (a-x-y<y2)=false:=by simpa using cn
    clear am
    go_wp2_with fail
    go_quiet (fail)
    go_wp2_with fail
    go_roundg (gk-1)
    case measure=>omega
    case rel=>exact⟨k+1,nx,l1.set (k+1) (a-x-y),w1.set (k+1) fr,by omega,by go_num,rfl,by omega,b7.out.drewN _,dk.out.drewN _,HE⟩
   have a9:=λr hr=>(show aZ d used fr least way (k+1)=(l1,w1,r) by rw[aZ,He.out,vX Hs.out (by rw[d6.out];simp only;rw[Hl.out];exact hG)];exact hr)
   have bc:=zh a9
   obtain⟨o1,o2,o3,o4⟩:=b6.out.atL (k:=nx) (by omega)
   clear a9 o2 o3 o4
   obtain⟨y2,bI⟩:∃ y2,(l1).getD nx 0=y2:=⟨_,rfl⟩
   rw[bI] at o1
   have ca:=zh bI
   clear bI
   by_cases am:nx=0
   ·have g0:((nx:Int)==0)=true:=by simp[am]
    have HE:=zh (bc.out (k+1) (by rw[if_pos (.inl am)]))
    clear am
    go_wp2_with fail
    go_quiet (fail)
    go_wp2_with fail
    go_roundg (gk-1)
    case measure=>omega
    case rel=>exact⟨k+1,k+1,l1,w1,by omega,by go_num,by go_num,Nat.le_refl _,b6.out.drewN _,cC.out.drewN _,HE⟩
   have g0:((nx:Int)==0)=false:=by simp;omega
   have i4:(nx:Int)<(m:Int)+1:=by omega
   by_cases cn:l<y2
   ·have HE:=zh (bc.out (k+1) (by rw[if_pos (.inr (by simp only;rw[Hl.out,ca.out];exact cn))]))
    clear am
    go_wp2_with fail
    go_quiet (fail)
    go_wp2_with fail
    go_roundg (gk-1)
    case measure=>omega
    case rel=>exact⟨k+1,k+1,l1,w1,by omega,by go_num,by go_num,Nat.le_refl _,b6.out.drewN _,cC.out.drewN _,HE⟩
   have HE:=zh (bc.out nx (by rw[if_neg (by simp only;rw[Hl.out,ca.out];omega)]))
   have g5:decide (l<y2)=false:=by simpa using cn
   clear am
   go_wp2_with fail
   go_quiet (fail)
   go_wp2_with fail
   go_roundg (gk-1)
   case measure=>omega
   case rel=>exact⟨k+1,nx,l1,w1,by omega,by go_num,rfl,by omega,b6.out.drewN _,cC.out.drewN _,HE⟩
 obtain rfl:m=k:=by omega
 obtain⟨c1,c2,c3,c4⟩:=hN.atL (k:=nx) (by omega)
 have i4:(nx:Int)<(m:Int)+1:=by omega
 have b9:=zh (show ∀ q,R (.returned (.tuple #[.int .i64 (nx:Int),.int .i64 (l1.getD nx 0)])) (wi.drewN q) from λq=>hR.out _ _ ⟨by rw[He.out],by rw[He.out];exact hN.drewN q,hK.drewN q⟩)
 clear hN hK c2 c3 c4
 go_wp2_with fail
 go_quiet (fail)
 go_wp2
 exact b9.out _
end
section
theorem Gf{a:Nat->Nat->Int}{n m k:Nat}{u v:List Int}{p way:List Nat}(_ha:∀ i j,1<=i->i<=n->1<=j->j<=m->0<=a i j/\a i j<=bO)(bE:n<=m)(hk:k<n)(h:MI a n m k u v p way) :
 SI a n m (k+1) u v (p.set 0 (k+1)) [] 0 u v (List.replicate (m+1) lK) way (List.replicate (m+1) false) 0:=by
 have hD:bO=1000000000000:=rfl
 have hp:=h.pc hk bE
 have hl:=h.lp
 have e1:∀ j,1<=j->(p.set 0 (k+1)).getD j 0=p.getD j 0:=λj hj=>ay _ _ _ _ _ (by omega)
 have gb:∀ j,1<=j->j<=m->(List.replicate (m+1) lK).getD j 0=lK:=λj _ hj=>by rw[List.getD_eq_getElem?_getD,List.getElem?_replicate,if_pos (by omega)];rfl
 refine⟨h.lu,h.lv,by simp,h.lw,by simp,by omega,by simp,λj=>⟨λh=>absurd h kc,λh=>by simp at h⟩,by simp,by simp,trivial,.inl ⟨rfl,rfl⟩,by simp,h.feas,λj h1 h2 h3=>?_,h.vneg,λj h1 h2 h3=>?_,λh=>absurd rfl h,λ_=>gb,Int.le_refl _,by omega,h.u0 _ (by omega),λi=>by omega,λj=>by omega,λ_ _=>rfl⟩
 ·rw[e1 j h1] at h3 ⊢;exact h.tm j h1 h2 h3
 rw[e1 j h1] at h3;exact h.vfree j h1 h2 h3
structure GE(m:Nat)(u v:List Int)(p:List Nat)(s:List Int×List Nat×Nat)(used:List Bool)(b:Int)(k:Nat)(t:oS):Prop where
 l1:t.1.length=u.length
 l2:t.2.1.length=v.length
 l3:t.2.2.length=s.1.length
 up:used.getD k false=true->t.1.getD (p.getD k 0) 0=u.getD (p.getD k 0) 0/\t.2.1.getD k 0=v.getD k 0
 no:used.getD k false=false->t.2.2.getD k 0=s.1.getD k 0/\-20000000000000000<=s.1.getD k 0/\s.1.getD k 0<=20000000000000000
theorem FY{a:Nat->Nat->Int}{n m r:Nat}{u0 v0:List Int}{p:List Nat}(hp:PC n m r p)(ha:∀ i j,1<=i->i<=n->1<=j->j<=m->0<=a i j/\a i j<=bO)
 (cx:∀ i,-1000000000000000<=u0.getD i 0/\u0.getD i 0<=1000000000000000) (cA:∀ j,-1000000000000000<=v0.getD j 0/\v0.getD j 0<=1000000000000000) {ord:List Nat} {col:Nat} {u v least:List Int} {way:List Nat} {used:List Bool} {dl:Int}
 (h:SI a n m r u0 v0 p ord col u v least way used dl) (kS:p.getD col 0≠0) {s:List Int×List Nat×Nat} {b:Int} (hs:aZ (aM a u v (p.getD col 0)) (used.set col true) col least way m=s) (hb:s.1.getD s.2.2 0=b) :
 -2000000000000<=b/\b<=2000000000000/\∀ k,k<=m->GE m u v p s (used.set col true) b k (de b (used.set col true) p (u,v,s.1) k):=by
 have hD:bO=1000000000000:=rfl
 obtain⟨t,ht⟩:∃ t,de (s.1.getD s.2.2 0) (used.set col true) p (u,v,s.1) (m+1)=t:=⟨_,rfl⟩
 obtain⟨bj,dl',h'⟩:=mS hp ha (λi=>by have:=(cx i).1;omega) (λi=>by have:=(cA i).1;omega) h kS hs ht
 rw[hb] at ht
 have cm:=h.cm
 have us':∀ j,(used.set col true).getD j false=true ↔ j∈col :: ord:=h'.us
 have op':∀ j∈col :: ord,p.getD j 0≠0:=h'.op
 have om':∀ j∈col :: ord,j<=m:=h'.om
 have hN:=tT (aM a u v (p.getD col 0)) (used.set col true) col least way m (by rw[h.ll];omega) (by rw[h.lw];omega)
 rw[hs] at hN
 have inj:∀ i j,(used.set col true).getD i false=true->(used.set col true).getD j false=true->p.getD i 0=p.getD j 0->i=j:=λi j hi hj e =>
  hp.inj i j (om' i ((us' i).1 hi)) (om' j ((us' j).1 hj)) e (op' i ((us' i).1 hi))
 have hY:∀ k,k<=m+1->Ce b (used.set col true) p (u,v,s.1) k (de b (used.set col true) p (u,v,s.1) k):=λk hk =>
  yo b (used.set col true) p (u,v,s.1) k (by simp only;rw[h.lv];exact hk) (by simp only;rw[hN.l1,h.ll];exact hk) (λj hj=>by simp only;rw[h.lu];have:=hp.le (j:=j) (by omega);have:=hp.rn;omega) (λi j _ _ hi hj e=>inj i j hi hj e)
 have hT:=hY (m+1) (Nat.le_refl _)
 rw[ht] at hT
 have z':0∈col :: ord:=by
  rcases h.hd with⟨_,e⟩|⟨e,_⟩
  ·simp[e]
  exact List.mem_cons_of_mem _ (h.path.zero e)
 have hq : -2000000000000<=b/\b<=2000000000000:=by
  have h1:=hT.up 0 (by omega) ((us' 0).2 z')
  rw[hp.p0] at h1
  have h2:=h'.dr
  have h3:=h.dr
  have h4:=h'.d0
  have h5:=h'.d1
  have h6:=h.d0
  have h7:=h.d1
  simp only at h1
  omega
 refine⟨hq.1,hq.2,λk hk=>?_⟩
 have hK:=hY k (by omega)
 refine⟨hK.l1,hK.l2,hK.l3,λhu=>⟨?_,hK.keep k (.inl (Nat.le_refl _))⟩,λhu=>⟨hK.hold k (.inl (Nat.le_refl _)),?_⟩⟩
 ·exact hK.flat _ (λj hj ku e=>by have:=inj j k ku hu e;omega)
 have hJ:k ∉ col :: ord:=λhx=>by rw[(us' k).2 hx] at hu;cases hu
 have hI:1<=k:=by
  rcases Nat.eq_zero_or_pos k with e|e
  ·subst e;exact absurd z' hJ
  exact e
 have h1:=hT.less k (by omega) hu
 simp only at h1
 obtain⟨h2,h3,_⟩:=h'.le (by simp) k hI hk hJ
 have h4:=op' _ h2
 have h5:=hp.le (om' _ h2)
 have h6:=hp.rn
 have h7:=ha (p.getD (s.2.1.getD k 0) 0) k (by omega) (by omega) hI hk
 unfold aM at h3
 have h8:=h'.du (p.getD (s.2.1.getD k 0) 0)
 have h9:=h'.dv k
 have gC:=cx (p.getD (s.2.1.getD k 0) 0)
 have gI:=cA k
 have lc:=h'.d0
 have lf:=h'.d1
 omega
end
end
section
open Go.RowKit
theorem um{b:Int}{used:List Bool}{p:List Nat}{j:Nat}{s:oS}(h:used.getD j false=true):iW b used p j s=(s.1.set (p.getD j 0) (s.1.getD (p.getD j 0) 0+b),s.2.1.set j (s.2.1.getD j 0-b),s.2.2):=by rw[iW,if_pos h]
theorem ul{b:Int}{used:List Bool}{p:List Nat}{j:Nat}{s:oS}(h:used.getD j false=false):iW b used p j s=(s.1,s.2.1,s.2.2.set j (s.2.2.getD j 0-b)):=by rw[iW,if_neg (by rw[h];simp)]
theorem Nr.drew{W:World}{sp n c m bu bv bp bw bl bs:Nat}{A:Option Addr}{u v:List Int}{p way:List Nat}{least:List Int}{used:List Bool}(h:Nr W sp A n c m bu bv bp bw bl bs u v p way least used):Nr W.drew sp A n c m bu bv bp bw bl bs u v p way least used:=h.drewN 1
theorem Nr.atU{W:World}{sp n c m bu bv bp bw bl bs:Nat}{A:Option Addr}{u v:List Int}{p way:List Nat}{least:List Int}{used:List Bool}(h:Nr W sp A n c m bu bv bp bw bl bs u v p way least used){k:Nat}(hk:k<=n):W.cell? ⟨bu,k,none⟩=some (.int .i64 (u.getD k 0))/\W.frozen? ⟨bu,k,none⟩=false:=h.sv.atU hk
theorem Dt(w0:World)(sp n c m bu bv bp bw:Nat)(A:Option Addr)(T:List (List Int))(hT:d8 w0 A n T)(ad:fP T m)(bt:oX w0.heap.size sp bu bv bp bw)(k:Nat)(hk:k<n)
 (u v:List Int) (p way:List Nat) (cc:MI (aF T) n m k u v p way) (W:World) (hb:Below w0.heap.size w0 W) (hS:Sv W sp A n c m bu bv bp bw u v p way) :
 Calls Tryz.prog 219 #[.pointer (some ⟨sp,0,none⟩),.int .i64 ((k:Int)+1)] W λe W'=>e=.returned (.tuple #[])/\
  Sv W' sp A n c m bu bv bp bw (fT (aF T) n m (k+1) u v p way).1 (fT (aF T) n m (k+1) u v p way).2.1 (fT (aF T) n m (k+1) u v p way).2.2.1 (fT (aF T) n m (k+1) u v p way).2.2.2/\Below w0.heap.size w0 W':=by
 refine ae ?_
 intro R hR
 have hP:=ad.m64
 have bD:=hT.1
 have bE:n<=m:=by rw[bD];exact ad.nm
 have ha:∀ i j,1<=i->i<=n->1<=j->j<=m->0<=aF T i j/\aF T i j<=bO:=by rw[bD];exact rM ad.costOk
 have hp:=cc.pc hk bE
 have hX:=Gf ha bE hk cc
 have e5:bO*k<=bO*64:=Int.mul_le_mul_of_nonneg_left (by omega) (by unfold bO;omega)
 have cx:∀ i,-1000000000000000<=u.getD i 0/\u.getD i 0<=1000000000000000:=λi=>by have:=cc.ub i;unfold bO at this e5;omega
 have cA:∀ j,-1000000000000000<=v.getD j 0/\v.getD j 0<=1000000000000000:=λj=>by have:=cc.vb j;unfold bO at this e5;omega
 have Hp:=zh hp
 have gg:=zh hX
 have Ha:=zh ha
 have eg:=zh cx
 have ei:=zh cA
 have HT:=zh hT
 have d7:=zh ad
 have aa:=zh bt
 have Hb:=zh hb
 have HS:=zh hS
 obtain⟨q0,q1,q2,q3,q4⟩:=hS.cells
 obtain⟨f1,f2,f3,f4,f5,f6⟩:=hS.at_ (k:=0) (by omega)
 have es:=hS.setP bt 0 (k+1)
 have eu:=hb.setCell (p:=⟨bp,0,none⟩) bt.l3 (.int .i64 ((k+1:Nat):Int))
 have n1:sp≠bp:=hS.ne hS.hp
 have n2:sp<W.heap.size:=hS.lt
 obtain⟨p1,e8⟩:∃ p1,p.set 0 (k+1)=p1:=⟨_,rfl⟩
 rw[e8] at es
 have f9:=zh e8
 have b8:=zh es
 have cI:=zh eu
 have i1:(0:Int)<(m:Int)+1:=by omega
 have i2:0<m+1:=by omega
 clear hT ad hp hX e5 cx cA ha bt hb hS es eu cc f1 f3 f4 f6 e8 bD
 go_enter Tryz.func219,Tryz.ntmps219
 go_wp2_with fail
 refine (ti 4000000000000000000 _ _ (m+1) (by omega) (by omega) _ (by exact vI _ (by simp))).mono ?_
 rintro e w1 ⟨bl,rfl,eF,hA,eI⟩
 have et:=(b8.out.below (ab _ (.cells #[.int .i64 4000000000000000000] 3))).below eI
 have ev:Below w0.heap.size w0 w1:=(cI.out.alloc cI.out.size _).trans (eI.mono (Nat.le_trans cI.out.size (by simp)))
 have hL:dm w1 bl (List.replicate (m+1) 4000000000000000000):=by unfold dm;rw[hA,yc]
 have hO:w0.heap.size<=bl:=Nat.le_trans cI.out.size (Nat.le_trans (by simp) eF)
 have bj:bu≠bl/\bv≠bl/\bp≠bl/\bw≠bl:=by
  have h1:=b8.out.hu.lt
  have h2:=b8.out.hv.lt
  have h3:=b8.out.hp.lt
  have h4:=b8.out.hw.lt
  simp at eF h1 h2 h3 h4
  omega
 obtain⟨q0,q1,q2,q3,q4⟩:=et.cells
 have jf:=zh et
 have d2:=zh ev
 have j4:=zh hL
 have ka:=zh hO
 have cL:=zh bj
 clear et ev hL hO bj hA eI eF f2 f5 n2
 go_wp2_with (at_make;refine lD rfl (.tmp 27) (.tmp 27) _ rfl 4 Tryz.underlying224 nO rfl (by omega) _ (m+1) rfl rfl rfl (by omega) ?_;intro w2 ij cV)
 have ej:Nr w2 sp A n c m bu bv bp bw bl w1.heap.size u v p1 way (List.replicate (m+1) lK) (List.replicate (m+1) false):=
  ⟨jf.out.below ((Below.refl _ _).grown cV (Nat.le_refl _) (λk hk=>by cases hk)),j4.out.grown cV (by simp),by unfold em;rw[ij];simp,by simp,by simp⟩
 have cl:Below w0.heap.size w0 w2:=d2.out.grown cV d2.out.size (λk hk=>by cases hk)
 have eo:zw w0.heap.size sp bu bv bp bw bl w1.heap.size:=⟨aa.out,cL.out.1,cL.out.2.1,cL.out.2.2.1,cL.out.2.2.2,ka.out,d2.out.size⟩
 obtain⟨bs,e3⟩:∃ bs,w1.heap.size=bs:=⟨_,rfl⟩
 rw[e3] at ej eo
 have f8:=zh e3
 have bg:=zh ej
 have bq:=zh eo
 have js:=zh cl
 clear ej eo cl e3 ij cV q0 q1 q2 q3 q4
 have a0:∃ F,eL (aF T) m p1 (m+1) 0 u v (List.replicate (m+1) lK) way (List.replicate (m+1) false)=F:=⟨_,rfl⟩
 obtain⟨F,hF⟩:=a0
 have b9:=zh (show ∀ W',Sv W' sp A n c m bu bv bp bw F.1 F.2.1 (iA F.2.2.1 (m+2) F.2.2.2 p1) F.2.2.1->Below w0.heap.size w0 W'->R (.returned (.tuple #[])) W' from λW' h1 h2=>hR.out _ _ ⟨rfl,by unfold fT;rw[f9.out,hF];exact h1,h2⟩)
 have HF:=zh hF
 rw[f9.out] at Hp gg
 have mj:=(bg.out.sv.neB bg.out.bs)
 have mf:=(bg.out.sv.hp.ne bg.out.bs)
 have mq:bp≠bw:=aa.out.a6
 have mn:bp≠bu:=λe=>aa.out.a2 e.symm
 have mo:bp≠bv:=λe=>aa.out.a4 e.symm
 have m0:bu≠bv:=aa.out.a1
 have mr:sp≠bu:=bg.out.sv.ne bg.out.sv.hu
 have ms:sp≠bv:=bg.out.sv.ne bg.out.sv.hv
 clear hF hR
 go_wp2_with (rw[f8.out])
 go_loopg [4,7,8,9,52] (m+1) (λgk s4 s7 s8 s9 s52 wr=>∃ (ord:List Nat) (col:Nat) (u1 v1 least:List Int) (way1:List Nat) (used:List Bool) (dl:Int),gk+ord.length=m+1/\s4=.int .i64 ((col:Nat):Int)/\Nr wr sp A n c m bu bv bp bw bl bs u1 v1 p1 way1 least used/\Below w0.heap.size w0 wr/\
  Hid (SI (aF T) n m (k+1) u v p1 ord col u1 v1 least way1 used dl/\p1.getD col 0≠0/\eL (aF T) m p1 gk col u1 v1 least way1 used=F))
 case atStart=>exact⟨[],0,u,v,_,way,_,0,rfl,rfl,bg.out,js.out,zh ⟨gg.out,by rw[Hp.out.p0];omega,HF.out⟩⟩
 obtain⟨ord,col,u1,v1,least,way1,used,dl,hH,rfl,hN,hb,HI⟩:=hrel
 obtain⟨wi,rfl⟩:∃ wi:World,wi=wr:=⟨_,rfl⟩
 have e4:col<=m:=HI.out.1.cm
 obtain⟨row,b5⟩:∃ row,p1.getD col 0=row:=⟨_,rfl⟩
 have cq:1<=row:=by have:=HI.out.2.1;rw[b5] at this;omega
 have c9:row<=n:=by rw[← b5];exact Nat.le_trans (Hp.out.le e4) Hp.out.rn
 have ml:ord.length<=m:=by
  have h1:=bX (col :: ord) (List.range (m+1)) (List.nodup_cons.2 ⟨HI.out.1.nc,HI.out.1.path.nodup⟩) (λx hx=>List.mem_range.2 (by
   rcases List.mem_cons.1 hx with rfl|hx
   ·omega
   have:=HI.out.1.om x hx;omega))
  simp at h1
  omega
 obtain⟨g1,rfl⟩:∃ g1,gk=g1+1:=⟨gk-1,by omega⟩
 obtain⟨s,hs⟩:∃ s,aZ (aM (aF T) u1 v1 row) (used.set col true) col least way1 m=s:=⟨_,rfl⟩
 obtain⟨b,eB⟩:∃ b,s.1.getD s.2.2 0=b:=⟨_,rfl⟩
 have hZ:∀ i,-3000000000000000<=u1.getD i 0/\u1.getD i 0<=3000000000000000:=λi=>by
  have h1:=HI.out.1.du i;have h2:=eg.out i;have h3:=HI.out.1.d0;have h4:=HI.out.1.d1;unfold bO at h4;omega
 have ih:∀ i,-3000000000000000<=v1.getD i 0/\v1.getD i 0<=3000000000000000:=λi=>by
  have h1:=HI.out.1.dv i;have h2:=ei.out i;have h3:=HI.out.1.d0;have h4:=HI.out.1.d1;unfold bO at h4;omega
 obtain⟨eu,ev,hW⟩:=FY Hp.out Ha.out eg.out ei.out HI.out.1 HI.out.2.1 (by rw[b5];exact hs) eB
 obtain⟨q0,q1,q2,q3,q4⟩:=hN.sv.cells
 obtain⟨f1,f2,f3,f4,f5,f6⟩:=hN.sv.at_ (k:=col) e4
 obtain⟨c1,c2,c3,c4⟩:=hN.atL (k:=col) e4
 rw[b5] at f2
 have i3:(col:Int)<(m:Int)+1:=by omega
 have b7:=zh (hN.setS col true)
 have d5:=zh (hb.setCell (p:=⟨bs,col,none⟩) bq.out.l6 (.bool true))
 have kk:=zh b5
 have Hs:=zh hs
 have d3:=zh eB
 have gs:=zh hZ
 have gw:=zh ih
 have ga:=zh hW
 clear hN hb b5 hs eB hZ ih hW f1 f3 f4 f5 f6 c1 c3
 go_wp2_with (rw[f8.out])
 refine (Fl w0 sp n c m bu bv bp bw bl bs A T HT.out d7.out bq.out u1 v1 p1 way1 least (used.set col true) _ d5.out b7.out row col cq c9 gs.out gw.out).mono ?_
 rw[Hs.out,d3.out]
 rintro e w3 ⟨rfl,en,gN⟩
 have cl:=Kx.low d5.out gN (GB bq.out.l5 aa.out.l4) d5.out.size
 obtain⟨q0,q1,q2,q3,q4⟩:=en.sv.cells
 have ds:=zh en
 have jF:=zh cl
 clear en gN cl f2 c2 c4
 clear q0 q1 q2 q3 q4
 obtain⟨nx,am⟩:∃ nx,s.2.2=nx:=⟨_,rfl⟩
 have k8:=zh am
 rw[am] at d3 ⊢
 obtain⟨us,fc⟩:∃ us,used.set col true=us:=⟨_,rfl⟩
 rw[fc] at ds ga Hs
 have cN:=zh fc
 obtain⟨t,ht⟩:∃ t,de b us p1 (u1,v1,s.1) (m+1)=t:=⟨_,rfl⟩
 have e9:aZ (aM (aF T) u1 v1 (p1.getD col 0)) (used.set col true) col least way1 m=s:=by rw[kk.out,cN.out];exact Hs.out
 have fb:de (s.1.getD s.2.2 0) (used.set col true) p1 (u1,v1,s.1) (m+1)=t:=by rw[am,d3.out,cN.out];exact ht
 have a9:=mS Hp.out Ha.out (λi=>by have:=(eg.out i).1;unfold bO;omega) (λi=>by have:=(ei.out i).1;unfold bO;omega) HI.out.1 HI.out.2.1 e9 fb
 rw[am,cN.out] at a9
 have a0:=pS (aF T) m p1 g1 col u1 v1 least way1 used e9 fb
 rw[HI.out.2.2,am,cN.out] at a0
 have Ht:=zh ht
 have bc:=zh a9
 have kl:=zh a0
 clear am fc ht a9 a0 e9 fb
 obtain⟨q0,q1,q2,q3,q4⟩:=ds.out.sv.cells
 go_wp2_with fail
 clear q0 q1 q2 q3 q4
 go_loopg [9,52] (m+1) (λg2 s9 s52 wr=>∃ (j:Nat) (t1 t2 t3:List Int),j+g2=m+1/\s52=.int .i64 ((j:Nat):Int)/\Nr wr sp A n c m bu bv bp bw bl bs t1 t2 p1 s.2.1 t3 us/\Below w0.heap.size w0 wr/\Hid (de b us p1 (u1,v1,s.1) j=(t1,t2,t3)))
 case atStart=>exact⟨0,u1,v1,s.1,by omega,rfl,ds.out,jF.out,zh rfl⟩
 obtain⟨j,t1,t2,t3,l9,rfl,hN,hb,Hj⟩:=hrel
 obtain⟨wj,rfl⟩:∃ wj:World,wj=wr:=⟨_,rfl⟩
 obtain⟨q0,q1,q2,q3,q4⟩:=hN.sv.cells
 by_cases e6:j<m+1
 ·have c6:j<=m:=by omega
  have cd:=ga.out j c6
  rw[Hj.out] at cd
  have i4:(j:Int)<(m:Int)+1:=by omega
  obtain⟨f1,f2,f3,f4,f5,f6⟩:=hN.sv.at_ (k:=j) c6
  obtain⟨c1,c2,c3,c4⟩:=hN.atL (k:=j) c6
  have k4:=zh hN
  have k6:=zh hb
  cases bk:us.getD j false with
  |true =>
   rw[bk] at c2
   obtain⟨h1,h2⟩:=cd.up bk
   obtain⟨pj,c8⟩:∃ pj,p1.getD j 0=pj:=⟨_,rfl⟩
   have k0:pj<=n:=by rw[← c8];exact Nat.le_trans (Hp.out.le c6) Hp.out.rn
   obtain⟨e1,e2⟩:=hN.atU k0
   have bm:de b us p1 (u1,v1,s.1) (j+1)=(t1.set pj (t1.getD pj 0+b),t2.set j (t2.getD j 0-b),t3):=by rw[de,Hj.out,um bk,c8]
   simp only at h1 h2
   rw[c8] at h1 f2
   obtain⟨x,hx⟩:∃ x,t1.getD pj 0=x:=⟨_,rfl⟩
   obtain⟨y,hy⟩:∃ y,t2.getD j 0=y:=⟨_,rfl⟩
   rw[hx] at h1 e1 bm
   rw[hy] at h2 f1 bm
   have fo:=gs.out pj
   have fu:=gw.out j
   rw[← h1] at fo
   rw[← h2] at fu
   have z1:IntKind.i64.wrap (x+b)=x+b:=IntWalk.i64_in _ (by omega)
   have z2:IntKind.i64.wrap (y-b)=y-b:=IntWalk.i64_in _ (by omega)
   have i5:(pj:Int)<(n:Int)+1:=by omega
   have dq:=zh ((hN.setU bq.out pj (x+b)).setV bq.out j (y-b))
   have dz:=zh ((hb.setCell (p:=⟨bu,pj,none⟩) aa.out.l1 (.int .i64 (x+b))).setCell (p:=⟨bv,j,none⟩) aa.out.l2 (.int .i64 (y-b)))
   have ec:=zh bm
   clear hN hb bm bk c8 h1 h2 hx hy cd f3 f5 f6 c1 c3 c4
   go_wp2_with fail
   go_still_tail 16,(by kernel_rfl)
   go_wp2_with fail
   go_roundg (gk-1)
   case measure=>omega
   case rel=>exact⟨j+1,_,_,_,by omega,by go_num,dq.out.drew,dz.out.drew,ec⟩
  |false =>
   rw[bk] at c2
   obtain⟨h1,h2,h3⟩:=cd.no bk
   have bm:de b us p1 (u1,v1,s.1) (j+1)=(t1,t2,t3.set j (t3.getD j 0-b)):=by rw[de,Hj.out,ul bk]
   simp only at h1
   obtain⟨x,hx⟩:∃ x,t3.getD j 0=x:=⟨_,rfl⟩
   rw[hx] at h1 c1 bm
   rw[← h1] at h2 h3
   have z1:IntKind.i64.wrap (x-b)=x-b:=IntWalk.i64_in _ (by omega)
   have dq:=zh (hN.setL bq.out j (x-b))
   have dz:=zh (hb.setCell (p:=⟨bl,j,none⟩) bq.out.l5 (.int .i64 (x-b)))
   have ec:=zh bm
   clear hN hb bm bk h1 hx cd f1 f2 f3 f4 f5 f6 c4
   go_wp2_with fail
   go_roundg (gk-1)
   case measure=>omega
   case rel=>exact⟨j+1,_,_,_,by omega,by go_num,dq.out,dz.out,ec⟩
 obtain rfl:j=m+1:=by omega
 have k2:t=(t1,t2,t3):=by rw[← Ht.out,Hj.out]
 subst k2
 obtain⟨m1,dl',cj⟩:=bc.out
 have hU:nx<=m:=cj.cm
 have a0:=kl.out
 obtain⟨f1,f2,f3,f4,f5,f6⟩:=hN.sv.at_ (k:=nx) hU
 obtain⟨r',cp⟩:∃ r',p1.getD nx 0=r':=⟨_,rfl⟩
 rw[cp] at f2 a0
 have i5:(nx:Int)<(m:Int)+1:=by omega
 by_cases hz:r'=0
 ·rw[if_pos hz] at a0
  have g0:((r':Int)==0)=true:=by simp[hz]
  have la:=zh cp
  have dx:=zh cj
  have iF:=zh a0
  have dt:=zh hN
  have d4:=zh hb
  have hV:(col :: ord).length<m+2:=by simp;omega
  obtain⟨PF,g7⟩:∃ PF,iA s.2.1 (m+2) nx p1=PF:=⟨_,rfl⟩
  have f0:=zh g7
  clear a0 cp cj hN hb f1 f3 f4 f5 f6 hz g7
  go_wp2_with fail
  clear q0 q1 q2 q3 q4 f2
  go_loopg [4] ((col :: ord).length) (λg3 s4 wr=>∃ (ord3:List Nat) (c3 f:Nat) (p3:List Nat),ord3.length=g3/\s4=.int .i64 ((c3:Nat):Int)/\c3<=m/\Sv wr sp A n c m bu bv bp bw t1 t2 p3 s.2.1/\Below w0.heap.size w0 wr/\
   Hid (gd s.2.1 ord3/\(∀ j∈ord3,j<=m)/\((c3=0/\ord3=[])\/(c3≠0/\s.2.1.getD c3 0∈ord3))/\ord3.length<f/\iA s.2.1 f c3 p3=PF))
  case atStart =>
   refine⟨col :: ord,nx,m+2,p1,rfl,rfl,hU,dt.out.sv,d4.out,zh ⟨dx.out.path,dx.out.om,?_,hV,f0.out⟩⟩
   rcases dx.out.hd with⟨h,_⟩|⟨_,h1,h2,_⟩
   ·simp at h
   exact .inr ⟨h1,h2⟩
  clear hV
  obtain⟨ord3,c3,f,p3,ma,rfl,ks,hS,hb,HQ⟩:=hrel
  obtain⟨wk,rfl⟩:∃ wk:World,wk=wr:=⟨_,rfl⟩
  by_cases cT:c3=0
  ·subst cT
   have kP:p3=PF:=by
    obtain⟨f',rfl⟩:∃ f',f=f'+1:=⟨f-1,by have:=HQ.out.2.2.2.1;omega⟩
    rw[← HQ.out.2.2.2.2,iA,if_pos rfl]
   subst kP
   have j3:=zh (b9.out wk (by rw[iF.out];simp only;rw[f0.out];exact hS) hb)
   clear hS hb
   go_wp2
   go_end0
   exact j3.out
  have c5:s.2.1.getD c3 0∈ord3:=by
   rcases HQ.out.2.2.1 with⟨h,_⟩|⟨_,h⟩
   ·exact absurd h cT
   exact h
  obtain⟨w,hw⟩:∃ w,s.2.1.getD c3 0=w:=⟨_,rfl⟩
  rw[hw] at c5
  have im:w<=m:=HQ.out.2.1 w c5
  obtain⟨r,cq,c9,k1⟩:=od HQ.out.1 c5
  simp only[List.length_cons] at k1
  obtain⟨f',rfl⟩:∃ f',f=f'+1:=⟨f-1,by have:=HQ.out.2.2.2.1;omega⟩
  have hf:iA s.2.1 f' w (p3.set c3 (p3.getD w 0))=PF:=by
   have:=HQ.out.2.2.2.2
   rw[iA,if_neg cT,hw] at this
   exact this
  have hQ:(w=0/\r=[])\/(w≠0/\s.2.1.getD w 0∈r):=cq.1
  have i9:=zh (show gd s.2.1 r/\(∀ j∈r,j<=m)/\((w=0/\r=[])\/(w≠0/\s.2.1.getD w 0∈r))/\r.length<f'/\iA s.2.1 f' w (p3.set c3 (p3.getD w 0))=PF from
   ⟨cq.2.2,λj hj=>HQ.out.2.1 j (c9 j hj),hQ,by have:=HQ.out.2.2.2.1;omega,hf⟩)
  obtain⟨q0,q1,q2,q3,q4⟩:=hS.cells
  obtain⟨f1,f2,f3,f4,f5,f6⟩:=hS.at_ (k:=c3) ks
  obtain⟨o1,o2,o3,o4,o5,o6⟩:=hS.at_ (k:=w) im
  rw[hw] at f3
  have g0:((c3:Int) != 0)=true:=by simp;omega
  have i6:(c3:Int)<(m:Int)+1:=by omega
  have i7:(w:Int)<(m:Int)+1:=by omega
  obtain⟨x,hx⟩:∃ x,p3.getD w 0=x:=⟨_,rfl⟩
  rw[hx] at o2
  have jj:=zh (hS.setP aa.out c3 x)
  have iq:=zh (hb.setCell (p:=⟨bp,c3,none⟩) aa.out.l3 (.int .i64 ((x:Nat):Int)))
  have Hx:=zh hx
  clear hS hb cT hw hx hf hQ c5 cq c9 f1 f4 f6 o1 o3 o4 o5 o6
  go_wp2_with fail
  go_still_tail 19,(by kernel_rfl)
  go_wp2_with fail
  go_roundg r.length
  case measure=>omega
  case rel=>exact⟨r,w,f',_,rfl,rfl,im,jj.out.drewN 1,iq.out.drew,zh (by have:=i9.out;rw[Hx.out] at this;exact this)⟩
 rw[if_neg hz] at a0
 have g0:((r':Int)==0)=false:=by simp;omega
 have iT:=zh (show SI (aF T) n m (k+1) u v p1 (col :: ord) nx t1 t2 t3 s.2.1 us dl'/\p1.getD nx 0≠0/\eL (aF T) m p1 g1 nx t1 t2 t3 s.2.1 us=F from ⟨cj,by rw[cp];exact hz,a0.symm⟩)
 have dt:=zh hN
 have d4:=zh hb
 clear a0 cp cj hN hb f1 f3 f4 f5 f6 hz
 go_wp2_with fail
 go_roundg g1
 case measure=>omega
 case rel=>exact⟨col :: ord,nx,t1,t2,t3,s.2.1,us,dl',by simp;omega,rfl,dt.out,d4.out,iT⟩
end
section
open Go.RowKit
theorem dO(w:World)(o0 o1 o2 o3 o4:Obj):(((((w.alloc o0).alloc o1).alloc o2).alloc o3).alloc o4).heap[w.heap.size]?=some o0/\(((((w.alloc o0).alloc o1).alloc o2).alloc o3).alloc o4).heap[w.heap.size+1]?=some o1/\
 (((((w.alloc o0).alloc o1).alloc o2).alloc o3).alloc o4).heap[w.heap.size+1+1]?=some o2/\(((((w.alloc o0).alloc o1).alloc o2).alloc o3).alloc o4).heap[w.heap.size+1+1+1]?=some o3/\
 (((((w.alloc o0).alloc o1).alloc o2).alloc o3).alloc o4).heap[w.heap.size+1+1+1+1]?=some o4/\Below w.heap.size w ((((w.alloc o0).alloc o1).alloc o2).alloc o3 |>.alloc o4):=by
 have b4:=ab ((((w.alloc o0).alloc o1).alloc o2).alloc o3) o4
 have b3:=ab (((w.alloc o0).alloc o1).alloc o2) o3
 have b2:=ab ((w.alloc o0).alloc o1) o2
 have b1:=ab (w.alloc o0) o1
 have b0:=ab w o0
 have h0:=heap_alloc_new w o0
 have h1:=heap_alloc_new (w.alloc o0) o1
 have h2:=heap_alloc_new ((w.alloc o0).alloc o1) o2
 have h3:=heap_alloc_new (((w.alloc o0).alloc o1).alloc o2) o3
 have h4:=heap_alloc_new ((((w.alloc o0).alloc o1).alloc o2).alloc o3) o4
 simp only[World.size_alloc] at h1 h2 h3 h4 b1 b2 b3 b4
 refine⟨?_,?_,?_,?_,h4,?_⟩
 ·exact (b4.block _ (by omega)).trans ((b3.block _ (by omega)).trans ((b2.block _ (by omega)).trans ((b1.block _ (by omega)).trans h0)))
 ·exact (b4.block _ (by omega)).trans ((b3.block _ (by omega)).trans ((b2.block _ (by omega)).trans h1))
 ·exact (b4.block _ (by omega)).trans ((b3.block _ (by omega)).trans h2)
 ·exact (b4.block _ (by omega)).trans h3
 exact b0.trans ((b1.mono (by omega)).trans ((b2.mono (by omega)).trans ((b3.mono (by omega)).trans (b4.mono (by omega)))))
theorem nC{W:World}{b k:Nat}(h:W.heap[b]?=some (.cells (madeCells #[Value.int .i64 0] k) 3 (0,0))):dm W b (List.replicate k 0):=by
 unfold dm
 rw[h]
 congr 2
 apply Array.toList_inj.1
 rw[toList_madeCells_one]
 simp
theorem uH(k x:Nat):aX (List.replicate k x)=List.replicate k (x:Int):=by simp[aX]
theorem vG(k:Nat)(hm:k<=1000)(w:World):(Instr.makeSlice 27 (.int .i64 ((k:Int)+1)) (.int .i64 ((k:Int)+1))).run Tryz.prog w=.ok (.slice (some ⟨w.heap.size,0,none⟩) (k+1) (k+1)) (w.alloc (.cells (madeCells #[Value.int .i64 0] (k+1)) 3)):=
 run_make_row' 27 3 (.int .i64 0) 8 Tryz.underlying27 kC rfl .i64 .i64 (k+1) (by omega) (by omega) w
theorem Sv.drew{W:World}{sp n c m bu bv bp bw:Nat}{A:Option Addr}{u v:List Int}{p way:List Nat}(h:Sv W sp A n c m bu bv bp bw u v p way):Sv W.drew sp A n c m bu bv bp bw u v p way:=h.drewN 1
theorem DS{W wd:World}{A:Option Addr}{n c m sp bu bv bp bw:Nat}
 (cS:W.heap[sp]?=some (.cells #[.slice A n c,.slice (some ⟨bu,0,none⟩) (n+1) (n+1),.slice (some ⟨bv,0,none⟩) (m+1) (m+1),.slice (some ⟨bp,0,none⟩) (m+1) (m+1),.slice (some ⟨bw,0,none⟩) (m+1) (m+1)] 143 (0,0)))
 (hu:W.heap[bu]?=some (.cells (madeCells #[Value.int .i64 0] (n+1)) 3 (0,0))) (hv:W.heap[bv]?=some (.cells (madeCells #[Value.int .i64 0] (m+1)) 3 (0,0))) (hp:W.heap[bp]?=some (.cells (madeCells #[Value.int .i64 0] (m+1)) 3 (0,0)))
 (hw:W.heap[bw]?=some (.cells (madeCells #[Value.int .i64 0] (m+1)) 3 (0,0))) (bj:bu≠bv/\bu≠bp/\bu≠bw/\bv≠bp/\bv≠bw/\bp≠bw/\wd.heap.size<=sp/\wd.heap.size<=bu/\wd.heap.size<=bv/\wd.heap.size<=bp/\wd.heap.size<=bw) (hb:Below wd.heap.size wd W) :
 ∃ sp' bu bv bp bw,(Value.pointer (some ⟨sp,0,none⟩))=.pointer (some ⟨sp',0,none⟩)/\Sv W.drew sp' A n c m bu bv bp bw (List.replicate (n+1) 0) (List.replicate (m+1) 0) (List.replicate (m+1) 0) (List.replicate (m+1) 0)/\oX wd.heap.size sp' bu bv bp bw/\Below wd.heap.size wd W.drew:=by
 obtain⟨h1,h2,h3,h4,h5,h6,h7,h8,h9,gC,gI⟩:=bj
 refine⟨sp,bu,bv,bp,bw,rfl,Sv.drew ⟨cS,nC hu,nC hv,?_,?_,by simp,by simp,by simp,by simp⟩,⟨h1,h2,h3,h4,h5,h6,h7,h8,h9,gC,gI⟩,hb.drew⟩
 ·rw[uH];exact nC hp
 rw[uH];exact nC hw
theorem DL(n c m:Nat)(A:Option Addr)(T:List (List Int))(w:World)(hT:d8 w A n T)(ad:fP T m) :
 Calls Tryz.prog 136 #[.slice A n c] w λe w'=>∃ sp bu bv bp bw,e=.returned (.pointer (some ⟨sp,0,none⟩))/\
  Sv w' sp A n c m bu bv bp bw (df (aF T) n m n).1 (df (aF T) n m n).2.1 (df (aF T) n m n).2.2.1 (df (aF T) n m n).2.2.2/\oX w.heap.size sp bu bv bp bw/\Below w.heap.size w w':=by
 refine ae ?_
 intro R hR
 have mb:1<=n:=by rw[hT.1];exact ad.n1
 obtain⟨b,o,A0,c0,rfl,hh⟩:=hT.head (by omega)
 rw[ad.wid] at hh
 have hP:=ad.m64
 have bD:=hT.1
 have bE:n<=m:=by rw[bD];exact ad.nm
 have HT:=zh hT
 have d7:=zh ad
 have Ha:=zh (show ∀ i j,1<=i->i<=n->1<=j->j<=m->0<=aF T i j/\aF T i j<=bO by rw[bD];exact rM ad.costOk)
 have i0:0<n:=by omega
 clear hT ad bD
 go_enter Tryz.func136,Tryz.ntmps136
 go_wp2_with fail
 go_quiet (fail)
 rename_i nq
 have k5:=zh (show d8 (w.drewN nq) (some ⟨b,o,none⟩) n T from HT.out)
 have f7:=zh (show Below w.heap.size w (w.drewN nq) from dT (Below.refl _ _) nq)
 have fa:(w.drewN nq).heap.size=w.heap.size:=rfl
 rw[← fa] at f7
 have go:=zh fa
 clear hh fa
 generalize w.drewN nq=wd at *
 have kN:=vG n (by omega)
 have kw:=vG m (by omega)
 have z1:IntKind.i64.wrap ((n:Int)+1)=(n:Int)+1:=IntWalk.i64_in _ (by omega)
 have z2:IntKind.i64.wrap ((m:Int)+1)=(m:Int)+1:=IntWalk.i64_in _ (by omega)
 go_wp2_with fail
 go_upto_region 2 with fail
 go_cut [5] (λs5 wx=>∃ sp bu bv bp bw,s5=.pointer (some ⟨sp,0,none⟩)/\Sv wx sp (some ⟨b,o,none⟩) n c m bu bv bp bw (List.replicate (n+1) 0) (List.replicate (m+1) 0) (List.replicate (m+1) 0) (List.replicate (m+1) 0)/\oX wd.heap.size sp bu bv bp bw/\Below wd.heap.size wd wx)
 case first =>
  go_region_held3 (λ_=>True) (trivial) (fail)
  all_goals
   go_wp2_with fail
   go_meet
   refine DS (dO wd _ _ _ _ _).2.2.2.2.1 ?_ ?_ ?_ ?_ ?_ (dO wd _ _ _ _ _).2.2.2.2.2
   ·first|exact (dO wd _ _ _ _ _).1|exact (dO wd _ _ _ _ _).2.1|exact (dO wd _ _ _ _ _).2.2.1|exact (dO wd _ _ _ _ _).2.2.2.1
   ·first|exact (dO wd _ _ _ _ _).1|exact (dO wd _ _ _ _ _).2.1|exact (dO wd _ _ _ _ _).2.2.1|exact (dO wd _ _ _ _ _).2.2.2.1
   ·first|exact (dO wd _ _ _ _ _).1|exact (dO wd _ _ _ _ _).2.1|exact (dO wd _ _ _ _ _).2.2.1|exact (dO wd _ _ _ _ _).2.2.2.1
   ·first|exact (dO wd _ _ _ _ _).1|exact (dO wd _ _ _ _ _).2.1|exact (dO wd _ _ _ _ _).2.2.1|exact (dO wd _ _ _ _ _).2.2.2.1
   omega
 clear kN kw z1 z2
 obtain⟨sp,bu,bv,bp,bw,k3,hS,hN,hb⟩:=hcut
 subst k3
 have HN:=zh hN
 have g6:oX w.heap.size sp bu bv bp bw:=by rw[← go.out];exact hN
 have hB:Below w.heap.size w wc:=by rw[← go.out];exact f7.out.trans hb
 have aa:=zh g6
 have HS:=zh hS
 have j1:=zh hB
 clear hN g6 hS hB hb
 go_wp2_with fail
 go_loopg [6] n (λgk s6 wr=>∃ k:Nat,k+gk=n/\s6=.int .i64 ((k:Int)+1)/\Sv wr sp (some ⟨b,o,none⟩) n c m bu bv bp bw (df (aF T) n m k).1 (df (aF T) n m k).2.1 (df (aF T) n m k).2.2.1 (df (aF T) n m k).2.2.2/\Below w.heap.size w wr)
 case atStart=>exact⟨0,by omega,rfl,HS.out,j1.out⟩
 obtain⟨k,hH,rfl,hS,hb⟩:=hrel
 obtain⟨wi,rfl⟩:∃ wi:World,wi=wr:=⟨_,rfl⟩
 by_cases e6:k<n
 ·have i1:(k:Int)+1<=(n:Int):=by omega
  have i8:=zh (rA (n:=n) (m:=m) Ha.out (by omega) bE k (by omega))
  have HS:=zh hS
  have Hb:=zh hb
  have a9:df (aF T) n m (k+1)=fT (aF T) n m (k+1) (df (aF T) n m k).1 (df (aF T) n m k).2.1 (df (aF T) n m k).2.2.1 (df (aF T) n m k).2.2.2:=rfl
  have bc:=zh a9
  clear hS hb a9
  go_wp2_with fail
  refine (Dt w sp n c m bu bv bp bw (some ⟨b,o,none⟩) T HT.out d7.out aa.out k e6 _ _ _ _ i8.out wi Hb.out HS.out).mono ?_
  rw[← bc.out]
  rintro e w4 ⟨rfl,hc,ho⟩
  have jk:=zh hc
  have iv:=zh ho
  clear hc ho
  go_wp2_with fail
  go_roundg (gk-1)
  case measure=>omega
  case rel=>exact⟨k+1,by omega,by go_num,jk.out,iv.out⟩
 obtain rfl:n=k:=by omega
 have b9:=zh (hR.out (.returned (.pointer (some ⟨sp,0,none⟩))) wi ⟨sp,bu,bv,bp,bw,rfl,hS,aa.out,hb⟩)
 clear hS hb
 go_wp2
 exact b9.out
end
end Go.Proofs.YtgbnicokglpdbaaGreatDoor
