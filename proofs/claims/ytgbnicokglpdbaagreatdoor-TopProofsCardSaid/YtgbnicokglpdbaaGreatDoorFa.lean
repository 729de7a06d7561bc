/-
The argument of TopProofs opened; conditions: those of each theorem.
-/
import Derived.Test.YtgbnicokglpdbaaGreatDoorEb
import Derived.Test.YtgbnicokglpdbaaGreatDoorCf
import Derived.Test.YtgbnicokglpdbaaGreatDoorRows
import Derived.Deep.DeepWitnessRowRef
import Derived.Lib.LaidIn
import Derived.Lib.SmallJoins
namespace Go.Proofs.YtgbnicokglpdbaaGreatDoor
set_option maxRecDepth 100000
section
section
open Go.RowKit Go.Joins Go.ChangeShapes Go.WideShapes Go.Deep
variable{H:Type}{enc:TypeId×Value->H}{W:World}
instance:Inhabited aj:=⟨⟨0,0,0,false⟩⟩
theorem BZ{α:Type}{en:α->List Value}{sz:Nat}(am:∀ x,(en x).length=sz)(h0:0<sz){W:World}{a:Addr}{len:Nat}(f:Nat->α)
 (h:∀ i,i<len->∀ j u,(en (f i))[j]?=some u->W.cell? (a.add (i*sz+j))=some u):ag en sz W (some a) len ((List.range len).map f):=by
 refine⟨by simp,by rw[bU am];simp,λhn=>?_⟩
 obtain⟨b,o,sp⟩:=a
 have aF:W.cell? ⟨b,o,sp⟩=some ((en (f 0))[0]'(by rw[am];exact h0)):=by
  have:=h 0 hn 0 _ (List.getElem?_eq_getElem (by rw[am];exact h0))
  simpa[Addr.add] using this
 have bi:sp=none:=by
  cases sp with
  |none=>rfl
  |some s =>
   simp only[World.cell?] at aF
   split at aF<;>simp at aF
 subst bi
 refine⟨b,o,rfl,?_,λq u hu=>?_⟩
 ·by_cases hb:b<W.heap.size
  ·exact hb
  simp[World.cell?,Array.getElem?_eq_none (Nat.le_of_not_lt hb)] at aF
 have hq:q<len*sz:=by
  have:=(List.getElem?_eq_some_iff.1 hu).1
  rw[bU am] at this
  simpa using this
 have hi:q/sz<len:=Nat.div_lt_of_lt_mul (by rw[Nat.mul_comm];exact hq)
 have hr:q%sz<sz:=Nat.mod_lt _ h0
 have he:q/sz*sz+q%sz=q:=by rw[Nat.mul_comm];exact Nat.div_add_mod q sz
 have hx:((List.range len).map f)[q/sz]?=some (f (q/sz)):=by simp[hi]
 have hg:=q8 am _ _ (q%sz) _ hx hr
 rw[he,hu] at hg
 have:=h _ hi _ _ hg.symm
 rw[he] at this
 rw[← this]
 by_cases hz:q=0
 ·subst hz;simp[Addr.add]
 simp[Addr.add,hz]
theorem qg{α:Type}[Inhabited α]{en:α->List Value}{sz:Nat}{t e:TypeId}(am:∀ x,(en x).length=sz)(h0:0<sz)(hu:Tryz.prog.underlying t=some (.slice e))(hc:Tryz.prog.cellsOf e=sz)
 (bg:∀ (fuel:Nat) (cs:List Value) (x:DataW H×List MemPlace),DataW.trod enc Tryz.prog W 0 (λ_=>true) true fuel e cs=some x->cs.length=sz->∃ s:α,cs=en s)
 {fuel:Nat} {cs:List Value} {x:DataW H×List MemPlace} (h:DataW.trod enc Tryz.prog W 0 (λ_=>true) true fuel t cs=some x) :
 ∃ A n c ss,cs=[.slice A n c]/\n<=c/\c<=9223372036854775807/\ag en sz W A n ss:=by
 rcases Go.Deep.open_slice hu h with⟨rfl,_⟩|⟨a,len,cap,m,fu,D,Pl,rfl,_,hl,hm,a0,_,hi⟩
 ·exact⟨none,0,0,[],rfl,Nat.le_refl _,by decide,ag.nil _ _⟩
 simp only[if_true] at a0
 rw[a0,hc] at hi
 obtain⟨f,hf⟩:=choose_lt (α:=α) (n:=len) (p:=λi s=>∀ j u,(en s)[j]?=some u->W.cell? (a.add (i*sz+j))=some u) (λi bj=>by
  obtain⟨cs',bc,ht⟩:=hi i (by omega)
  obtain⟨_,bf,a9⟩:=World.cells?_some bc
  obtain⟨s,rfl⟩:=bg _ _ _ ht bf
  refine⟨s,λj u hu=>?_⟩
  have hj:j<sz:=by
   have:=(List.getElem?_eq_some_iff.1 hu).1
   rw[am] at this
   exact this
  rw[← Go.Deep.add_add,a9 j hj]
  exact hu)
 exact⟨some a,len,cap,(List.range len).map f,rfl,hl,by unfold maxLen at hm;omega,BZ am h0 f hf⟩
theorem rJ:Tryz.prog.cellsOf 3=1:=by kernel_rfl
theorem Kg:Tryz.prog.cellsOf 4=1:=by kernel_rfl
theorem Kr:Tryz.prog.cellsOf 27=1:=by kernel_rfl
theorem Kh:Tryz.prog.cellsOf 37=2:=by kernel_rfl
theorem J2:Tryz.prog.cellsOf 41=2:=by kernel_rfl
theorem Kj:Tryz.prog.cellsOf 43=4:=by kernel_rfl
theorem J3:Tryz.prog.cellsOf 94=4:=by kernel_rfl
theorem J1:Tryz.prog.cellsOf 31=17:=by kernel_rfl
theorem Ki:Tryz.prog.cellsOf 29=9:=by kernel_rfl
theorem Kf:Tryz.prog.cellsOf 26=3:=by kernel_rfl
theorem K8:Tryz.prog.cellsOf 22=1:=by kernel_rfl
theorem K9:Tryz.prog.cellsOf 23=1:=by kernel_rfl
theorem Lb:Tryz.prog.cellsOf 24=1:=by kernel_rfl
theorem La:Tryz.prog.cellsOf 25=1:=by kernel_rfl
theorem Gx{l:List Value}(h:l.length=2):∃ a b,l=[a,b]:=by
 match l,h with
 |[a,b],_=>exact⟨a,b,rfl⟩
theorem Gy{l:List Value}(h:l.length=4):∃ a b c d,l=[a,b,c,d]:=by
 match l,h with
 |[a,b,c,d],_=>exact⟨a,b,c,d,rfl⟩
theorem GT(fuel:Nat)(cs:List Value)(x:DataW H×List MemPlace)(h:DataW.trod enc Tryz.prog W 0 (λ_=>true) true fuel 37 cs=some x)(hl:cs.length=2):∃ s:Int×Int,cs=iV s:=by
 obtain⟨c0,c1,rfl⟩:=Gx hl
 obtain⟨xs,k,_,-,-,ad,aa⟩:=DataW.trod_struct Tryz.underlying37 h
 match xs,ad with
 |[y0,y1],_ =>
  have t0:=aa 0 _ rfl
  have t1:=aa 1 _ rfl
  simp[rJ] at t0 t1
  obtain⟨x0,e0,_,_⟩:=DataW.trod_int Tryz.underlying3 t0
  obtain⟨x1,e1,_,_⟩:=DataW.trod_int Tryz.underlying3 t1
  simp only[List.cons.injEq,and_true] at e0 e1
  subst e0;subst e1
  exact⟨(x0,x1),rfl⟩
theorem EF(fuel:Nat)(cs:List Value)(x:DataW H×List MemPlace)(h:DataW.trod enc Tryz.prog W 0 (λ_=>true) true fuel 41 cs=some x)(hl:cs.length=2):∃ s:Int×Int,cs=iV s:=by
 obtain⟨c0,c1,rfl⟩:=Gx hl
 obtain⟨xs,k,_,-,-,ad,aa⟩:=DataW.trod_struct Tryz.underlying41 h
 match xs,ad with
 |[y0,y1],_ =>
  have t0:=aa 0 _ rfl
  have t1:=aa 1 _ rfl
  simp[rJ] at t0 t1
  obtain⟨x0,e0,_,_⟩:=DataW.trod_int Tryz.underlying3 t0
  obtain⟨x1,e1,_,_⟩:=DataW.trod_int Tryz.underlying3 t1
  simp only[List.cons.injEq,and_true] at e0 e1
  subst e0;subst e1
  exact⟨(x0,x1),rfl⟩
theorem qW{t e:TypeId}(hu:Tryz.prog.underlying t=some (.slice e)){fuel:Nat}{v:Value}{x:DataW H×List MemPlace}(h:DataW.trod enc Tryz.prog W 0 (λ_=>true) true fuel t [v]=some x):∃ a n c,v=.slice a n c:=by
 rcases Go.Deep.open_slice hu h with⟨h1,_⟩|⟨a,len,cap,_,_,_,_,h1,_⟩
 ·simp only[List.cons.injEq,and_true] at h1;exact⟨_,_,_,h1⟩
 simp only[List.cons.injEq,and_true] at h1;exact⟨_,_,_,h1⟩
theorem GV(fuel:Nat)(cs:List Value)(x:DataW H×List MemPlace)(h:DataW.trod enc Tryz.prog W 0 (λ_=>true) true fuel 43 cs=some x)(hl:cs.length=4):∃ s:Int×Int×Int×Option Addr×Nat×Nat,cs=AE s:=by
 obtain⟨c0,c1,c2,c3,rfl⟩:=Gy hl
 obtain⟨xs,k,_,-,-,ad,aa⟩:=DataW.trod_struct Tryz.underlying43 h
 match xs,ad with
 |[y0,y1,y2,y3],_ =>
  have t0:=aa 0 _ rfl
  have t1:=aa 1 _ rfl
  have t2:=aa 2 _ rfl
  have t3:=aa 3 _ rfl
  simp[rJ,Kr] at t0 t1 t2 t3
  obtain⟨x0,e0,_,_⟩:=DataW.trod_int Tryz.underlying3 t0
  obtain⟨x1,e1,_,_⟩:=DataW.trod_int Tryz.underlying3 t1
  obtain⟨x2,e2,_,_⟩:=DataW.trod_int Tryz.underlying3 t2
  obtain⟨a,n,c,rfl⟩:=qW Tryz.underlying27 t3
  simp only[List.cons.injEq,and_true] at e0 e1 e2
  subst e0;subst e1;subst e2
  exact⟨(x0,x1,x2,a,n,c),rfl⟩
theorem EG(fuel:Nat)(cs:List Value)(x:DataW H×List MemPlace)(h:DataW.trod enc Tryz.prog W 0 (λ_=>true) true fuel 94 cs=some x)(hl:cs.length=4):∃ s:aj,cs=s.enc:=by
 obtain⟨c0,c1,c2,c3,rfl⟩:=Gy hl
 obtain⟨xs,k,_,-,-,ad,aa⟩:=DataW.trod_struct Tryz.underlying94 h
 match xs,ad with
 |[y0,y1,y2,y3],_ =>
  have t0:=aa 0 _ rfl
  have t1:=aa 1 _ rfl
  have t2:=aa 2 _ rfl
  have t3:=aa 3 _ rfl
  simp[rJ,Kg] at t0 t1 t2 t3
  obtain⟨x0,e0,_,_⟩:=DataW.trod_int Tryz.underlying3 t0
  obtain⟨x1,e1,_,_⟩:=DataW.trod_int Tryz.underlying3 t1
  obtain⟨x2,e2,_,_⟩:=DataW.trod_int Tryz.underlying3 t2
  obtain⟨x3,e3,_⟩:=DataW.trod_bool Tryz.underlying4 t3
  simp only[List.cons.injEq,and_true] at e0 e1 e2 e3
  subst e0;subst e1;subst e2;subst e3
  exact⟨⟨x0,x1,x2,x3⟩,rfl⟩
theorem Js{cs:Array Value}(h:cs.size=17):∃ c0 c1 c2 c3 c4 c5 c6 c7 c8 c9 c10 c11 c12 c13 c14 c15 c16,cs=#[c0,c1,c2,c3,c4,c5,c6,c7,c8,c9,c10,c11,c12,c13,c14,c15,c16]:=by
 obtain⟨l⟩:=cs
 match l,h with
 |[c0,c1,c2,c3,c4,c5,c6,c7,c8,c9,c10,c11,c12,c13,c14,c15,c16],_=>exact⟨c0,c1,c2,c3,c4,c5,c6,c7,c8,c9,c10,c11,c12,c13,c14,c15,c16,rfl⟩
theorem GS{fuel:Nat}{c0 c1 c2:Value}{x:DataW H×List MemPlace}(h:DataW.trod enc Tryz.prog W 0 (λ_=>true) true fuel 26 [c0,c1,c2]=some x):∃ a b c:Int,c0=.int .i64 a/\c1=.int .i64 b/\c2=.int .i64 c:=by
 obtain⟨xs,k,_,-,-,ad,aa⟩:=DataW.trod_array Tryz.underlying26 h
 match xs,ad with
 |[y0,y1,y2],_ =>
  have t0:=aa 0 (by decide)
  have t1:=aa 1 (by decide)
  have t2:=aa 2 (by decide)
  simp[rJ] at t0 t1 t2
  obtain⟨x0,e0,_,_⟩:=DataW.trod_int Tryz.underlying3 t0
  obtain⟨x1,e1,_,_⟩:=DataW.trod_int Tryz.underlying3 t1
  obtain⟨x2,e2,_,_⟩:=DataW.trod_int Tryz.underlying3 t2
  simp only[List.cons.injEq,and_true] at e0 e1 e2
  exact⟨x0,x1,x2,e0,e1,e2⟩
theorem GU{fuel:Nat}{c0 c1 c2 c3 c4 c5 c6 c7 c8:Value}{x:DataW H×List MemPlace}(h:DataW.trod enc Tryz.prog W 0 (λ_=>true) true fuel 29 [c0,c1,c2,c3,c4,c5,c6,c7,c8]=some x):∃ (z0 z1 z2 z3 z4 z5 z6:Int) (fa ta:Option Addr) (fn fc tn tc:Nat),c0=.int .i64 z0/\c1=.int .i64 z1/\c2=.int .i64 z2/\c3=.int .i64 z3/\c4=.int .i64 z4/\c5=.int .i64 z5/\c6=.int .i64 z6/\c7=.slice fa fn fc/\c8=.slice ta tn tc:=by
 obtain⟨xs,k,_,-,-,ad,aa⟩:=DataW.trod_struct Tryz.underlying29 h
 match xs,ad with
 |[y0,y1,y2,y3,y4,y5,y6,y7,y8],_ =>
  have t0:=aa 0 _ rfl
  have t1:=aa 1 _ rfl
  have t2:=aa 2 _ rfl
  have t3:=aa 3 _ rfl
  have t4:=aa 4 _ rfl
  have t5:=aa 5 _ rfl
  have t6:=aa 6 _ rfl
  have t7:=aa 7 _ rfl
  have t8:=aa 8 _ rfl
  simp[rJ,Kr] at t0 t1 t2 t3 t4 t5 t6 t7 t8
  obtain⟨x0,e0,_,_⟩:=DataW.trod_int Tryz.underlying3 t0
  obtain⟨x1,e1,_,_⟩:=DataW.trod_int Tryz.underlying3 t1
  obtain⟨x2,e2,_,_⟩:=DataW.trod_int Tryz.underlying3 t2
  obtain⟨x3,e3,_,_⟩:=DataW.trod_int Tryz.underlying3 t3
  obtain⟨x4,e4,_,_⟩:=DataW.trod_int Tryz.underlying3 t4
  obtain⟨x5,e5,_,_⟩:=DataW.trod_int Tryz.underlying3 t5
  obtain⟨x6,e6,_,_⟩:=DataW.trod_int Tryz.underlying3 t6
  obtain⟨a,n,c,e7⟩:=qW Tryz.underlying27 t7
  obtain⟨a',n',c',e8⟩:=qW Tryz.underlying27 t8
  simp only[List.cons.injEq,and_true] at e0 e1 e2 e3 e4 e5 e6
  exact⟨x0,x1,x2,x3,x4,x5,x6,a,a',n,c,n',c',e0,e1,e2,e3,e4,e5,e6,e7,e8⟩
theorem BG{r:Reach}{b0:Nat}{v:Value}{dd:DataW H}{p:List MemPlace}(hv:Value.okWide Tryz.prog W r b0 31 v)
 (h:DataW.Trod enc Tryz.prog W 0 (λ_=>true) true 31 v dd p) :
 ∃ (Aj Aq At As:Option Addr) (nj cj nq cq nt ct ns cs:Nat) (dl p0 p1 p2:Int) (z0 z1 z2 z3 z4 z5 z6:Int) (fa ta:Option Addr) (fn fc tn tc:Nat) (J Q:List (Int×Int)) (T:List (Int×Int×Int×Option Addr×Nat×Nat)) (X:List aj),
  v=.agg (jU (.slice Aj nj cj) (.slice Aq nq cq) (.slice At nt ct) dl (.slice As ns cs) p0 p1 p2 z0 z1 z2 z3 z4 z5 z6 fa ta fn fc tn tc)/\ag iV 2 W Aj nj J/\ag iV 2 W Aq nq Q/\ag AE 4 W At nt T/\ag aj.enc 4 W As ns X/\(nj<=cj/\cj<=9223372036854775807)/\(nq<=cq/\cq<=9223372036854775807)/\(ns<=cs/\cs<=9223372036854775807)/\nt<=9223372036854775807:=by
 obtain⟨cs,rfl,am⟩:=okWide_struct Tryz.underlying31 hv
 obtain⟨c0,c1,c2,c3,c4,c5,c6,c7,c8,c9,c10,c11,c12,c13,c14,c15,c16,rfl⟩:=Js (am.trans J1)
 obtain⟨fuel,hf⟩:=h
 obtain⟨xs,k,_,-,hl,ad,aa⟩:=DataW.trod_struct Tryz.underlying31 hf
 match xs,ad with
 |[y0,y1,y2,y3,y4,y5,y6],_ =>
  have t0:=aa 0 _ rfl
  have t1:=aa 1 _ rfl
  have t2:=aa 2 _ rfl
  have t3:=aa 3 _ rfl
  have t4:=aa 4 _ rfl
  have t5:=aa 5 _ rfl
  have t6:=aa 6 _ rfl
  simp[Value.cells,rJ,K8,K9,Lb,La,Kf,Ki] at t0 t1 t2 t3 t4 t5 t6
  obtain⟨Aj,nj,cj,J,e0,g0,g0',s0⟩:=qg (sz:=2) ue (by decide) Tryz.underlying22 Kh GT t0
  obtain⟨Aq,nq,cq,Q,e1,g1,g1',s1⟩:=qg (sz:=2) ue (by decide) Tryz.underlying23 J2 EF t1
  obtain⟨At,nt,ct,T,e2,g2,g2',s2⟩:=qg (sz:=4) AF (by decide) Tryz.underlying24 Kj GV t2
  obtain⟨x3,e3,_,_⟩:=DataW.trod_int Tryz.underlying3 t3
  obtain⟨As,ns,cs,X,e4,g4,g4',s4⟩:=qg (sz:=4) aj.enc_len (by decide) Tryz.underlying25 J3 EG t4
  obtain⟨a,b,c,e5,e6,e7⟩:=GS t5
  obtain⟨z0,z1,z2,z3,z4,z5,z6,fa,ta,fn,fc,tn,tc,r0,r1,r2,r3,r4,r5,r6,r7,r8⟩:=GU t6
  simp only[List.cons.injEq,and_true] at e0 e1 e2 e3 e4
  subst e0;subst e1;subst e2;subst e3;subst e4;subst e5;subst e6;subst e7;subst r0;subst r1;subst r2;subst r3;subst r4;subst r5;subst r6;subst r7;subst r8
  exact⟨Aj,Aq,At,As,nj,cj,nq,cq,nt,ct,ns,cs,x3,a,b,c,z0,z1,z2,z3,z4,z5,z6,fa,ta,fn,fc,tn,tc,J,Q,T,X,rfl,s0,s1,s2,s4,⟨g0,g0'⟩,⟨g1,g1'⟩,⟨g4,g4'⟩,by omega⟩
end
end
section
open Go Go.RowKit
def ko:List (DataW Unit)->List Value
 |[]=>[]
 | .lit (.int k z) :: r=>.int k z :: ko r
 | .agg l :: r=>(l.map λd=>match d with
  | .lit (.int k z)=>Value.int k z
  |_=>Value.int .i64 0)++ko r
 |_ :: r=>.int .i64 0 :: ko r
def jJ:DataW Unit->Array Value
 | .agg l=>(ko l).toArray
 |_=>#[]
def fO(h:Array Obj)(g:Nat)(cs:Array Value):Array Obj:=h.modify g fun
 | .cells _ t frozen=>.cells cs t frozen
 |o=>o
def xq:DataW Unit->List UInt8
 | .iface _ (.ptr (.agg [.lit (.string b)]))=>b
 |_=>[]
def BT:DataW Unit->List Value
 | .ptr (.agg [.slice l _,_,_])=>ko l
 |_=>[]
noncomputable def dW(os:Os):World:=
 let N:=(World.settled Tryz.prog os).heap.size
 let w0:=World.holding Tryz.prog os ⟨#[
  .cells #[.string ⟨(xq Rows.laid_strconv_ErrSyntax).toArray⟩] 581,
  .cells #[.string ⟨(xq Rows.laid_strconv_ErrRange).toArray⟩] 581,
  .cells (BT Rows.laid_unicode_White_Space).toArray 493,
  .cells #[.slice (some ⟨N+2,0,none⟩) 7 7,.slice none 0 0,.int .i64 2] 490],#[],[]⟩
 let h0:=fO w0.heap 3 (jJ Rows.laid_internal_strconv_uint64pow10)
 let h1:=fO h0 8 (jJ Rows.laid_math_bits_deBruijn32tab)
 let h2:=fO h1 9 (jJ Rows.laid_math_bits_deBruijn64tab)
 let h3:=fO h2 4 (jJ Rows.laid_unicode_utf8_first)
 let h4:=fO h3 5 (jJ Rows.laid_unicode_utf8_acceptRanges)
 let h5:=fO h4 1 (jJ Rows.laid_strings_asciiSpace)
 let h6:=fO h5 6 #[.iface 579 (.pointer (some ⟨N,0,none⟩))]
 let h7:=fO h6 7 #[.iface 579 (.pointer (some ⟨N+1,0,none⟩))]
 let h8:=fO h7 2 #[.pointer (some ⟨N+3,0,none⟩)]
 { w0 with heap:=h8 }
noncomputable abbrev N0:Nat:=(World.settled Tryz.prog default).heap.size
theorem JB (os : Os) (args : Array Value) : LaidIn Tryz.prog ((dW os).forCall (fun _ _ => 0) ⟨#[], args, []⟩).memory [("internal/strconv.uint64pow10", Rows.laid_internal_strconv_uint64pow10)] [3] :=
 LaidIn.of_run [3] 8 (by kernel_rfl) (by kernel_rfl) (by kernel_rfl) (by kernel_rfl)
theorem JC (os : Os) (args : Array Value) : LaidIn Tryz.prog ((dW os).forCall (fun _ _ => 0) ⟨#[], args, []⟩).memory [("math/bits.deBruijn32tab", Rows.laid_math_bits_deBruijn32tab)] [8] :=
 LaidIn.of_run [8] 8 (by kernel_rfl) (by kernel_rfl) (by kernel_rfl) (by kernel_rfl)
theorem JD (os : Os) (args : Array Value) : LaidIn Tryz.prog ((dW os).forCall (fun _ _ => 0) ⟨#[], args, []⟩).memory [("math/bits.deBruijn64tab", Rows.laid_math_bits_deBruijn64tab)] [9] :=
 LaidIn.of_run [9] 8 (by kernel_rfl) (by kernel_rfl) (by kernel_rfl) (by kernel_rfl)
theorem JE (os : Os) (args : Array Value) : LaidIn Tryz.prog ((dW os).forCall (fun _ _ => 0) ⟨#[], args, []⟩).memory [("unicode/utf8.first", Rows.laid_unicode_utf8_first)] [4] :=
 LaidIn.of_run [4] 8 (by kernel_rfl) (by kernel_rfl) (by kernel_rfl) (by kernel_rfl)
theorem JF (os : Os) (args : Array Value) : LaidIn Tryz.prog ((dW os).forCall (fun _ _ => 0) ⟨#[], args, []⟩).memory [("unicode/utf8.acceptRanges", Rows.laid_unicode_utf8_acceptRanges)] [5] :=
 LaidIn.of_run [5] 8 (by kernel_rfl) (by kernel_rfl) (by kernel_rfl) (by kernel_rfl)
theorem JG (os : Os) (args : Array Value) : LaidIn Tryz.prog ((dW os).forCall (fun _ _ => 0) ⟨#[], args, []⟩).memory [("strconv.ErrSyntax", Rows.laid_strconv_ErrSyntax), ("strconv.ErrRange", Rows.laid_strconv_ErrRange)] [6, 7, N0, N0 + 1] :=
 LaidIn.of_run [6,7,N0,N0+1] 8 (by kernel_rfl) (by kernel_rfl) (by kernel_rfl) (by kernel_rfl)
theorem JH (os : Os) (args : Array Value) : LaidIn Tryz.prog ((dW os).forCall (fun _ _ => 0) ⟨#[], args, []⟩).memory [("strings.asciiSpace", Rows.laid_strings_asciiSpace)] [1] :=
 LaidIn.of_run [1] 8 (by kernel_rfl) (by kernel_rfl) (by kernel_rfl) (by kernel_rfl)
theorem JI (os : Os) (args : Array Value) : LaidIn Tryz.prog ((dW os).forCall (fun _ _ => 0) ⟨#[], args, []⟩).memory [("unicode.White_Space", Rows.laid_unicode_White_Space)] [2, N0 + 3, N0 + 2] :=
 LaidIn.of_run [2,N0+3,N0+2] 8 (by kernel_rfl) (by kernel_rfl) (by kernel_rfl) (by kernel_rfl)
theorem Fd(os:Os)(args:Array Value):laidMet Tryz.prog Rows.topProofsRow.laid ((dW os).forCall (λ_ _=>0) ⟨#[],args,[]⟩).memory:=
 ((((((((JB os args).append (JC os args) (by kernel_rfl)).append (JD os args) (by kernel_rfl)).append (JE os args) (by kernel_rfl)).append (JF os args) (by kernel_rfl)).append (JG os args) (by kernel_rfl)).append (JH os args) (by kernel_rfl)).append (JI os args) (by kernel_rfl)).met
end
end Go.Proofs.YtgbnicokglpdbaaGreatDoor
