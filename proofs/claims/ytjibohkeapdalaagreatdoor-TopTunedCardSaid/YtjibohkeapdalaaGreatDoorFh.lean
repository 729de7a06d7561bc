/-
  The row's tie, out of nine facts each proved in a text of its own (after the given Tie text).
-/
import Derived.Test.YtjibohkeapdalaaGreatDoorHb
import Derived.Test.YtjibohkeapdalaaGreatDoorHc
import Derived.Test.YtjibohkeapdalaaGreatDoorHf
namespace Go.Proofs.YtjibohkeapdalaaGreatDoor
open Go
theorem tie9_of{P:Program}{w:World}{o:Option (List (String×DataW Unit)×List MemPlace)}(h1:o.map (λx=>nodupB (x.2.map MemPlace.codeOf))=some true)(h2:o.map (λx=>laidRowsB P w x.2)=some true):o.map (λx=>decide x.2.Nodup&&laidRowsB P w x.2)=some true:=by
 cases o with
 |none=>cases h1
 |some x =>
  simp only[Option.map_some,Option.some.injEq] at h1 h2 ⊢
  rw[decide_eq_true (nodup_of_code h1),h2]
  rfl
theorem pin_first : Tryz.pinned.checked.prog.pinnedFits "unicode/utf8.first" = true := by kernel_rfl
theorem no_own_unsafe : Tryz.pinned.checked.prog.headLifts.contains "ownunsafe" = false := by kernel_rfl
theorem fits_all : Tryz.pinned.checked.prog.listedFits [("internal/strconv.uint64pow10", Rows.laid_internal_strconv_uint64pow10), ("math/bits.deBruijn32tab", Rows.laid_math_bits_deBruijn32tab), ("math/bits.deBruijn64tab", Rows.laid_math_bits_deBruijn64tab), ("unicode/utf8.first", Rows.laid_unicode_utf8_first), ("unicode/utf8.acceptRanges", Rows.laid_unicode_utf8_acceptRanges), ("strconv.ErrSyntax", Rows.laid_strconv_ErrSyntax), ("strconv.ErrRange", Rows.laid_strconv_ErrRange), ("strings.asciiSpace", Rows.laid_strings_asciiSpace), ("unicode.White_Space", Rows.laid_unicode_White_Space)] = true := by
 unfold Program.listedFits
 rw[no_own_unsafe]
 kernel_rfl
theorem tie_all:Tryz.prog.laidByTextLater tieL [.data,.data,.data,.data,.sentinel,.sentinel,.data,.listed] true:=
 Program.laidByTextLater_by_run 400 8 tie1 tie2 tie3 tie4 tie5 tie6 tie7 tie8 (λos tape=>tie9_of (tie9a os tape) (tie9b os tape))
theorem upto_row_tie:Rows.topTunedRow.laidByTextAt .later Tryz.pinned [.data,.data,.data,.pinned,.data,.sentinel,.sentinel,.data,.listed] true:=
 OpenClaim.laidByTextAt_pinned rfl rfl tie_all rfl rfl rfl rfl (λy hy e=>by
  simp only[Rows.topTunedRow,List.zip_cons_cons,List.zip_nil_right,List.mem_cons,List.mem_nil_iff,or_false] at hy
  rcases hy with rfl|rfl|rfl|rfl|rfl|rfl|rfl|rfl|rfl
  ·cases e
  ·cases e
  ·cases e
  ·exact⟨pin_first,by kernel_rfl⟩
  ·cases e
  ·cases e
  ·cases e
  ·cases e
  ·cases e) fits_all
end Go.Proofs.YtjibohkeapdalaaGreatDoor
