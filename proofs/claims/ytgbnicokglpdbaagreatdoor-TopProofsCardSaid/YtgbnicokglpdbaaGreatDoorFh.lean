/-
The row's tie, out of nine facts each proved in a text of its own (after the given Tie tex; conditions: those of each theorem.
-/
import Derived.Test.YtgbnicokglpdbaaGreatDoorHb
import Derived.Test.YtgbnicokglpdbaaGreatDoorHc
import Derived.Test.YtgbnicokglpdbaaGreatDoorHf
namespace Go.Proofs.YtgbnicokglpdbaaGreatDoor
open Go
theorem IW{P:Program}{w:World}{o:Option (List (String×DataW Unit)×List MemPlace)}(h1:o.map (λx=>nodupB (x.2.map MemPlace.codeOf))=some true)(h2:o.map (λx=>laidRowsB P w x.2)=some true):o.map (λx=>decide x.2.Nodup&&laidRowsB P w x.2)=some true:=by
 cases o with
 |none=>cases h1
 |some x =>
  simp only[Option.map_some,Option.some.injEq] at h1 h2 ⊢
  rw[decide_eq_true (nodup_of_code h1),h2]
  rfl
theorem Dp : Tryz.pinned.checked.prog.pinnedFits "unicode/utf8.first" = true := by kernel_rfl
theorem vZ : Tryz.pinned.checked.prog.headLifts.contains "ownunsafe" = false := by kernel_rfl
theorem ET : Tryz.pinned.checked.prog.listedFits [("internal/strconv.uint64pow10", Rows.laid_internal_strconv_uint64pow10), ("math/bits.deBruijn32tab", Rows.laid_math_bits_deBruijn32tab), ("math/bits.deBruijn64tab", Rows.laid_math_bits_deBruijn64tab), ("unicode/utf8.first", Rows.laid_unicode_utf8_first), ("unicode/utf8.acceptRanges", Rows.laid_unicode_utf8_acceptRanges), ("strconv.ErrSyntax", Rows.laid_strconv_ErrSyntax), ("strconv.ErrRange", Rows.laid_strconv_ErrRange), ("strings.asciiSpace", Rows.laid_strings_asciiSpace), ("unicode.White_Space", Rows.laid_unicode_White_Space)] = true := by
 unfold Program.listedFits
 rw[vZ]
 kernel_rfl
theorem IX:Tryz.prog.laidByTextLater rE [.data,.data,.data,.data,.sentinel,.sentinel,.data,.listed] true:=
 Program.laidByTextLater_by_run 400 8 Kz KA KB KD KE KF KG KH (λos tape=>IW (Kd os tape) (Ke os tape))
theorem yw:Rows.topProofsRow.laidByTextAt .later Tryz.pinned [.data,.data,.data,.pinned,.data,.sentinel,.sentinel,.data,.listed] true:=
 OpenClaim.laidByTextAt_pinned rfl rfl IX rfl rfl rfl rfl (λy hy e=>by
  simp only[Rows.topProofsRow,List.zip_cons_cons,List.zip_nil_right,List.mem_cons,List.mem_nil_iff,or_false] at hy
  rcases hy with rfl|rfl|rfl|rfl|rfl|rfl|rfl|rfl|rfl
  ·cases e
  ·cases e
  ·cases e
  ·exact⟨Dp,by kernel_rfl⟩
  ·cases e
  ·cases e
  ·cases e
  ·cases e
  cases e) ET
end Go.Proofs.YtgbnicokglpdbaaGreatDoor
