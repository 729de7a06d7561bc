/-
; conditions: those of each theorem.
-/
import Derived.Test.YtgbnicokglpdbaaGreatDoorRows
import Derived.SevenTiedAt
namespace Go.Proofs.YtgbnicokglpdbaaGreatDoor
open Go
abbrev rE : List (String × DataW Unit) := [("internal/strconv.uint64pow10", Rows.laid_internal_strconv_uint64pow10), ("math/bits.deBruijn32tab", Rows.laid_math_bits_deBruijn32tab), ("math/bits.deBruijn64tab", Rows.laid_math_bits_deBruijn64tab), ("unicode/utf8.acceptRanges", Rows.laid_unicode_utf8_acceptRanges), ("strconv.ErrSyntax", Rows.laid_strconv_ErrSyntax), ("strconv.ErrRange", Rows.laid_strconv_ErrRange), ("strings.asciiSpace", Rows.laid_strings_asciiSpace), ("unicode.White_Space", Rows.laid_unicode_White_Space)]
theorem Kz:Tryz.prog.worded (varsWordLater true)=true:=by kernel_rfl
theorem KA:Tryz.prog.worded (varsWordLater !true)=false:=by kernel_rfl
theorem KB:Tryz.prog.worded rootWordLater=true:=by kernel_rfl
theorem KD:rE.map (λx=>Tryz.prog.kindOfLater x.1)=([.data,.data,.data,.data,.sentinel,.sentinel,.data,.listed]:List LaidKind).map some:=by kernel_rfl
theorem KE : (Tryz.prog.funcNamed "gosem.cut.vars").isSome = true := by kernel_rfl
theorem KF:varsNamedLaterB Tryz.prog (varsId Tryz.prog) rE=true:=by kernel_rfl
theorem KG(os:Os)(tape:Tape):varsDone Tryz.prog 400 (varsId Tryz.prog) os tape=true:=by kernel_rfl
end Go.Proofs.YtgbnicokglpdbaaGreatDoor
