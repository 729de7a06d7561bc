/-
  A world for the witness of clavecintop.TopWhole's row: the settled one, the nine tables laid.
-/
import Derived.Test.YtndcijkgaadpgaaGreatDoorRows
import Derived.RowKit
import Derived.LaidLaws
import Derived.WideWitness
import Derived.ChangeAt
import Derived.Lib.LaidIn
import Derived.Deep.DeepWitnessRowRef
namespace Go.Proofs.YtndcijkgaadpgaaGreatDoor
open Go Go.RowKit
/-- The cells of a table of numbers. -/
def datCellsL : List (DataW Unit) → List Value
  | [] => []
  | .lit (.int k z) :: r => .int k z :: datCellsL r
  | .agg l :: r => (l.map fun d => match d with
    | .lit (.int k z) => Value.int k z
    | _ => Value.int .i64 0) ++ datCellsL r
  | _ :: r => .int .i64 0 :: datCellsL r
def datCells : DataW Unit → Array Value
  | .agg l => (datCellsL l).toArray
  | _ => #[]
def putCells (h : Array Obj) (g : Nat) (cs : Array Value) : Array Obj := h.modify g fun
  | .cells _ t frozen => .cells cs t frozen
  | o => o
/-- The bytes of an error's text, the ranges of a table of letters. -/
def errBytes : DataW Unit → List UInt8
  | .iface _ (.ptr (.agg [.lit (.string b)])) => b
  | _ => []
def rangeCells : DataW Unit → List Value
  | .ptr (.agg [.slice l _, _, _]) => datCellsL l
  | _ => []
noncomputable def laidWorld (os : Os) : World :=
  let N := (World.settled Tryz.prog os).heap.size
  let w0 := World.holding Tryz.prog os ⟨#[
    .cells #[.string ⟨(errBytes Rows.laid_strconv_ErrSyntax).toArray⟩] 570,
    .cells #[.string ⟨(errBytes Rows.laid_strconv_ErrRange).toArray⟩] 570,
    .cells (rangeCells Rows.laid_unicode_White_Space).toArray 477,
    .cells #[.slice (some ⟨N + 2, 0, none⟩) 7 7, .slice none 0 0, .int .i64 2] 474], #[], []⟩
  let h0 := putCells w0.heap 3 (datCells Rows.laid_internal_strconv_uint64pow10)
  let h1 := putCells h0 8 (datCells Rows.laid_math_bits_deBruijn32tab)
  let h2 := putCells h1 9 (datCells Rows.laid_math_bits_deBruijn64tab)
  let h3 := putCells h2 4 (datCells Rows.laid_unicode_utf8_first)
  let h4 := putCells h3 5 (datCells Rows.laid_unicode_utf8_acceptRanges)
  let h5 := putCells h4 1 (datCells Rows.laid_strings_asciiSpace)
  let h6 := putCells h5 6 #[.iface 568 (.pointer (some ⟨N, 0, none⟩))]
  let h7 := putCells h6 7 #[.iface 568 (.pointer (some ⟨N + 1, 0, none⟩))]
  let h8 := putCells h7 2 #[.pointer (some ⟨N + 3, 0, none⟩)]
  { w0 with heap := h8 }
noncomputable abbrev N0 : Nat := (World.settled Tryz.prog default).heap.size
abbrev laidAll : List (String × DataW Unit) := [("internal/strconv.uint64pow10", Rows.laid_internal_strconv_uint64pow10), ("math/bits.deBruijn32tab", Rows.laid_math_bits_deBruijn32tab), ("math/bits.deBruijn64tab", Rows.laid_math_bits_deBruijn64tab), ("unicode/utf8.first", Rows.laid_unicode_utf8_first), ("unicode/utf8.acceptRanges", Rows.laid_unicode_utf8_acceptRanges), ("strconv.ErrSyntax", Rows.laid_strconv_ErrSyntax), ("strconv.ErrRange", Rows.laid_strconv_ErrRange), ("strings.asciiSpace", Rows.laid_strings_asciiSpace), ("unicode.White_Space", Rows.laid_unicode_White_Space)]
theorem piece1 (os : Os) (args : Array Value) : LaidIn Tryz.prog ((laidWorld os).forCall (fun _ _ => 0) ⟨#[], args, []⟩).memory [("internal/strconv.uint64pow10", Rows.laid_internal_strconv_uint64pow10)] [3] :=
  LaidIn.of_run [3] 8 (by kernel_rfl) (by kernel_rfl) (by kernel_rfl) (by kernel_rfl)
theorem piece2 (os : Os) (args : Array Value) : LaidIn Tryz.prog ((laidWorld os).forCall (fun _ _ => 0) ⟨#[], args, []⟩).memory [("math/bits.deBruijn32tab", Rows.laid_math_bits_deBruijn32tab)] [8] :=
  LaidIn.of_run [8] 8 (by kernel_rfl) (by kernel_rfl) (by kernel_rfl) (by kernel_rfl)
theorem piece3 (os : Os) (args : Array Value) : LaidIn Tryz.prog ((laidWorld os).forCall (fun _ _ => 0) ⟨#[], args, []⟩).memory [("math/bits.deBruijn64tab", Rows.laid_math_bits_deBruijn64tab)] [9] :=
  LaidIn.of_run [9] 8 (by kernel_rfl) (by kernel_rfl) (by kernel_rfl) (by kernel_rfl)
theorem piece4 (os : Os) (args : Array Value) : LaidIn Tryz.prog ((laidWorld os).forCall (fun _ _ => 0) ⟨#[], args, []⟩).memory [("unicode/utf8.first", Rows.laid_unicode_utf8_first)] [4] :=
  LaidIn.of_run [4] 8 (by kernel_rfl) (by kernel_rfl) (by kernel_rfl) (by kernel_rfl)
theorem piece5 (os : Os) (args : Array Value) : LaidIn Tryz.prog ((laidWorld os).forCall (fun _ _ => 0) ⟨#[], args, []⟩).memory [("unicode/utf8.acceptRanges", Rows.laid_unicode_utf8_acceptRanges)] [5] :=
  LaidIn.of_run [5] 8 (by kernel_rfl) (by kernel_rfl) (by kernel_rfl) (by kernel_rfl)
theorem piece6 (os : Os) (args : Array Value) : LaidIn Tryz.prog ((laidWorld os).forCall (fun _ _ => 0) ⟨#[], args, []⟩).memory [("strconv.ErrSyntax", Rows.laid_strconv_ErrSyntax), ("strconv.ErrRange", Rows.laid_strconv_ErrRange)] [6, 7, N0, N0 + 1] :=
  LaidIn.of_run [6, 7, N0, N0 + 1] 8 (by kernel_rfl) (by kernel_rfl) (by kernel_rfl) (by kernel_rfl)
theorem piece7 (os : Os) (args : Array Value) : LaidIn Tryz.prog ((laidWorld os).forCall (fun _ _ => 0) ⟨#[], args, []⟩).memory [("strings.asciiSpace", Rows.laid_strings_asciiSpace)] [1] :=
  LaidIn.of_run [1] 8 (by kernel_rfl) (by kernel_rfl) (by kernel_rfl) (by kernel_rfl)
theorem piece8 (os : Os) (args : Array Value) : LaidIn Tryz.prog ((laidWorld os).forCall (fun _ _ => 0) ⟨#[], args, []⟩).memory [("unicode.White_Space", Rows.laid_unicode_White_Space)] [2, N0 + 3, N0 + 2] :=
  LaidIn.of_run [2, N0 + 3, N0 + 2] 8 (by kernel_rfl) (by kernel_rfl) (by kernel_rfl) (by kernel_rfl)
theorem laid_met (os : Os) (args : Array Value) : laidMet Tryz.prog Rows.topWholeUptoRow.laid ((laidWorld os).forCall (fun _ _ => 0) ⟨#[], args, []⟩).memory :=
  ((((((((piece1 os args).append (piece2 os args) (by kernel_rfl)).append (piece3 os args) (by kernel_rfl)).append (piece4 os args) (by kernel_rfl)).append (piece5 os args) (by kernel_rfl)).append (piece6 os args) (by kernel_rfl)).append (piece7 os args) (by kernel_rfl)).append (piece8 os args) (by kernel_rfl)).met
end Go.Proofs.YtndcijkgaadpgaaGreatDoor
