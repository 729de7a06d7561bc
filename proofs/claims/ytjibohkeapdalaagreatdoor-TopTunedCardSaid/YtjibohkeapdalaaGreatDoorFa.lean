/-
  The arguments of TopTuned opened: a ring by value, an array of six numbers. A world for the witness of clavecintop.TopTuned's row: the settled one, the nine tables laid.
-/
import Derived.Test.YtjibohkeapdalaaGreatDoorEa
import Derived.Test.YtjibohkeapdalaaGreatDoorRows
import Derived.OpenShut
import Derived.WideShapes
import Derived.ChangeArms
import Derived.ProofKit
import Derived.RowKit
import Derived.LaidLaws
import Derived.WideWitness
import Derived.ChangeAt
import Derived.Lib.LaidIn
import Derived.Deep.DeepWitnessRowRef
namespace Go.Proofs.YtjibohkeapdalaaGreatDoor
set_option maxRecDepth 100000
section
section
open Go.RowKit Go.ChangeShapes Go.WideShapes
variable{H:Type}{enc:TypeId×Value->H}{W:World}
theorem zCellsRing:Tryz.prog.cellsOf 24=9:=by kernel_rfl
theorem zCellsArr:Tryz.prog.cellsOf 25=6:=by kernel_rfl
theorem zCellsInt:Tryz.prog.cellsOf 3=1:=by kernel_rfl
theorem zArr9{α:Type}{cs:Array α}(h:cs.size=9):∃ c0 c1 c2 c3 c4 c5 c6 c7 c8,cs=#[c0,c1,c2,c3,c4,c5,c6,c7,c8]:=by
 obtain⟨l⟩:=cs
 match l,h with
 |[c0,c1,c2,c3,c4,c5,c6,c7,c8],_=>exact⟨c0,c1,c2,c3,c4,c5,c6,c7,c8,rfl⟩
theorem zArr6{α:Type}{cs:Array α}(h:cs.size=6):∃ c0 c1 c2 c3 c4 c5,cs=#[c0,c1,c2,c3,c4,c5]:=by
 obtain⟨l⟩:=cs
 match l,h with
 |[c0,c1,c2,c3,c4,c5],_=>exact⟨c0,c1,c2,c3,c4,c5,rfl⟩
theorem open_ringZ{r:Reach}{b0:Nat}{v:Value}{dd:DataW H}{p:List MemPlace}(hv:Value.okWide Tryz.prog W r b0 24 v)
 (h:DataW.Trod enc Tryz.prog W 0 (λ_=>true) true 24 v dd p):∃ (a b c d e f g:Int) (x y:Value),v=.agg (ringA a b c d e f g x y):=by
 obtain⟨cs,rfl,hsz⟩:=okWide_struct Tryz.underlying24 hv
 obtain⟨c0,c1,c2,c3,c4,c5,c6,c7,c8,rfl⟩:=zArr9 (hsz.trans zCellsRing)
 obtain⟨fuel,hf⟩:=h
 obtain⟨xs,k,_,-,hl,hlen,hfd⟩:=DataW.trod_struct Tryz.underlying24 hf
 match xs,hlen with
 |[y0,y1,y2,y3,y4,y5,y6,y7,y8],_ =>
  have t0:=hfd 0 _ rfl
  have t1:=hfd 1 _ rfl
  have t2:=hfd 2 _ rfl
  have t3:=hfd 3 _ rfl
  have t4:=hfd 4 _ rfl
  have t5:=hfd 5 _ rfl
  have t6:=hfd 6 _ rfl
  simp[Value.cells,zCellsInt] at t0 t1 t2 t3 t4 t5 t6
  obtain⟨x0,e0,_,_⟩:=DataW.trod_int Tryz.underlying3 t0
  obtain⟨x1,e1,_,_⟩:=DataW.trod_int Tryz.underlying3 t1
  obtain⟨x2,e2,_,_⟩:=DataW.trod_int Tryz.underlying3 t2
  obtain⟨x3,e3,_,_⟩:=DataW.trod_int Tryz.underlying3 t3
  obtain⟨x4,e4,_,_⟩:=DataW.trod_int Tryz.underlying3 t4
  obtain⟨x5,e5,_,_⟩:=DataW.trod_int Tryz.underlying3 t5
  obtain⟨x6,e6,_,_⟩:=DataW.trod_int Tryz.underlying3 t6
  simp only[List.cons.injEq,and_true] at e0 e1 e2 e3 e4 e5 e6
  subst e0;subst e1;subst e2;subst e3;subst e4;subst e5;subst e6
  exact⟨x0,x1,x2,x3,x4,x5,x6,c7,c8,rfl⟩
theorem open_six{r:Reach}{b0:Nat}{v:Value}{dd:DataW H}{p:List MemPlace}(hv:Value.okWide Tryz.prog W r b0 25 v)
 (h:DataW.Trod enc Tryz.prog W 0 (λ_=>true) true 25 v dd p):∃ b0 b1 b2 b3 b4 b5:Int,v=.agg #[.int .i64 b0,.int .i64 b1,.int .i64 b2,.int .i64 b3,.int .i64 b4,.int .i64 b5]:=by
 obtain⟨cs,rfl,hsz⟩:∃ cs,v=.agg cs/\cs.size=Tryz.prog.cellsOf 25:=by
  simp only[Value.okWide,Tryz.underlying25] at hv
  obtain⟨cs,h1,h2,_⟩:=hv
  exact⟨cs,h1,h2⟩
 obtain⟨c0,c1,c2,c3,c4,c5,rfl⟩:=zArr6 (hsz.trans zCellsArr)
 obtain⟨fuel,hf⟩:=h
 obtain⟨xs,k,_,-,hl,hlen,hfd⟩:=DataW.trod_array Tryz.underlying25 hf
 match xs,hlen with
 |[y0,y1,y2,y3,y4,y5],_ =>
  have t0:=hfd 0 (by decide)
  have t1:=hfd 1 (by decide)
  have t2:=hfd 2 (by decide)
  have t3:=hfd 3 (by decide)
  have t4:=hfd 4 (by decide)
  have t5:=hfd 5 (by decide)
  simp[Value.cells,zCellsInt] at t0 t1 t2 t3 t4 t5
  obtain⟨x0,e0,_,_⟩:=DataW.trod_int Tryz.underlying3 t0
  obtain⟨x1,e1,_,_⟩:=DataW.trod_int Tryz.underlying3 t1
  obtain⟨x2,e2,_,_⟩:=DataW.trod_int Tryz.underlying3 t2
  obtain⟨x3,e3,_,_⟩:=DataW.trod_int Tryz.underlying3 t3
  obtain⟨x4,e4,_,_⟩:=DataW.trod_int Tryz.underlying3 t4
  obtain⟨x5,e5,_,_⟩:=DataW.trod_int Tryz.underlying3 t5
  simp only[List.cons.injEq,and_true] at e0 e1 e2 e3 e4 e5
  subst e0;subst e1;subst e2;subst e3;subst e4;subst e5
  exact⟨x0,x1,x2,x3,x4,x5,rfl⟩
end
end
section
open Go Go.RowKit
def datCellsL:List (DataW Unit)->List Value
 |[]=>[]
 | .lit (.int k z) :: r=>.int k z :: datCellsL r
 | .agg l :: r=>(l.map λd=>match d with
  | .lit (.int k z)=>Value.int k z
  |_=>Value.int .i64 0)++datCellsL r
 |_ :: r=>.int .i64 0 :: datCellsL r
def datCells:DataW Unit->Array Value
 | .agg l=>(datCellsL l).toArray
 |_=>#[]
def putCells(h:Array Obj)(g:Nat)(cs:Array Value):Array Obj:=h.modify g fun
 | .cells _ t frozen=>.cells cs t frozen
 |o=>o
def errBytes:DataW Unit->List UInt8
 | .iface _ (.ptr (.agg [.lit (.string b)]))=>b
 |_=>[]
def rangeCells:DataW Unit->List Value
 | .ptr (.agg [.slice l _,_,_])=>datCellsL l
 |_=>[]
noncomputable def laidWorld(os:Os):World:=
 let N:=(World.settled Tryz.prog os).heap.size
 let w0:=World.holding Tryz.prog os ⟨#[
  .cells #[.string ⟨(errBytes Rows.laid_strconv_ErrSyntax).toArray⟩] 587,
  .cells #[.string ⟨(errBytes Rows.laid_strconv_ErrRange).toArray⟩] 587,
  .cells (rangeCells Rows.laid_unicode_White_Space).toArray 540,
  .cells #[.slice (some ⟨N+2,0,none⟩) 7 7,.slice none 0 0,.int .i64 2] 537],#[],[]⟩
 let h0:=putCells w0.heap 3 (datCells Rows.laid_internal_strconv_uint64pow10)
 let h1:=putCells h0 8 (datCells Rows.laid_math_bits_deBruijn32tab)
 let h2:=putCells h1 9 (datCells Rows.laid_math_bits_deBruijn64tab)
 let h3:=putCells h2 4 (datCells Rows.laid_unicode_utf8_first)
 let h4:=putCells h3 5 (datCells Rows.laid_unicode_utf8_acceptRanges)
 let h5:=putCells h4 1 (datCells Rows.laid_strings_asciiSpace)
 let h6:=putCells h5 6 #[.iface 585 (.pointer (some ⟨N,0,none⟩))]
 let h7:=putCells h6 7 #[.iface 585 (.pointer (some ⟨N+1,0,none⟩))]
 let h8:=putCells h7 2 #[.pointer (some ⟨N+3,0,none⟩)]
 { w0 with heap:=h8 }
noncomputable abbrev N0:Nat:=(World.settled Tryz.prog default).heap.size
theorem piece1 (os : Os) (args : Array Value) : LaidIn Tryz.prog ((laidWorld os).forCall (fun _ _ => 0) ⟨#[], args, []⟩).memory [("internal/strconv.uint64pow10", Rows.laid_internal_strconv_uint64pow10)] [3] :=
 LaidIn.of_run [3] 8 (by kernel_rfl) (by kernel_rfl) (by kernel_rfl) (by kernel_rfl)
theorem piece2 (os : Os) (args : Array Value) : LaidIn Tryz.prog ((laidWorld os).forCall (fun _ _ => 0) ⟨#[], args, []⟩).memory [("math/bits.deBruijn32tab", Rows.laid_math_bits_deBruijn32tab)] [8] :=
 LaidIn.of_run [8] 8 (by kernel_rfl) (by kernel_rfl) (by kernel_rfl) (by kernel_rfl)
theorem piece3 (os : Os) (args : Array Value) : LaidIn Tryz.prog ((laidWorld os).forCall (fun _ _ => 0) ⟨#[], args, []⟩).memory [("math/bits.deBruijn64tab", Rows.laid_math_bits_deBruijn64tab)] [9] :=
 LaidIn.of_run [9] 8 (by kernel_rfl) (by kernel_rfl) (by kernel_rfl) (by kernel_rfl)
theorem piece4 (os : Os) (args : Array Value) : LaidIn Tryz.prog ((laidWorld os).forCall (fun _ _ => 0) ⟨#[], args, []⟩).memory [("unicode/utf8.first", Rows.laid_unicode_utf8_first)] [4] :=
 LaidIn.of_run [4] 8 (by kernel_rfl) (by kernel_rfl) (by kernel_rfl) (by kernel_rfl)
theorem piece5 (os : Os) (args : Array Value) : LaidIn Tryz.prog ((laidWorld os).forCall (fun _ _ => 0) ⟨#[], args, []⟩).memory [("unicode/utf8.acceptRanges", Rows.laid_unicode_utf8_acceptRanges)] [5] :=
 LaidIn.of_run [5] 8 (by kernel_rfl) (by kernel_rfl) (by kernel_rfl) (by kernel_rfl)
theorem piece6 (os : Os) (args : Array Value) : LaidIn Tryz.prog ((laidWorld os).forCall (fun _ _ => 0) ⟨#[], args, []⟩).memory [("strconv.ErrSyntax", Rows.laid_strconv_ErrSyntax), ("strconv.ErrRange", Rows.laid_strconv_ErrRange)] [6, 7, N0, N0 + 1] :=
 LaidIn.of_run [6,7,N0,N0+1] 8 (by kernel_rfl) (by kernel_rfl) (by kernel_rfl) (by kernel_rfl)
theorem piece7 (os : Os) (args : Array Value) : LaidIn Tryz.prog ((laidWorld os).forCall (fun _ _ => 0) ⟨#[], args, []⟩).memory [("strings.asciiSpace", Rows.laid_strings_asciiSpace)] [1] :=
 LaidIn.of_run [1] 8 (by kernel_rfl) (by kernel_rfl) (by kernel_rfl) (by kernel_rfl)
theorem piece8 (os : Os) (args : Array Value) : LaidIn Tryz.prog ((laidWorld os).forCall (fun _ _ => 0) ⟨#[], args, []⟩).memory [("unicode.White_Space", Rows.laid_unicode_White_Space)] [2, N0 + 3, N0 + 2] :=
 LaidIn.of_run [2,N0+3,N0+2] 8 (by kernel_rfl) (by kernel_rfl) (by kernel_rfl) (by kernel_rfl)
theorem laid_met(os:Os)(args:Array Value):laidMet Tryz.prog Rows.topTunedRow.laid ((laidWorld os).forCall (λ_ _=>0) ⟨#[],args,[]⟩).memory:=
 ((((((((piece1 os args).append (piece2 os args) (by kernel_rfl)).append (piece3 os args) (by kernel_rfl)).append (piece4 os args) (by kernel_rfl)).append (piece5 os args) (by kernel_rfl)).append (piece6 os args) (by kernel_rfl)).append (piece7 os args) (by kernel_rfl)).append (piece8 os args) (by kernel_rfl)).met
end
end Go.Proofs.YtjibohkeapdalaaGreatDoor
