/-
  What the rows list, of the program's variables, as the given text of ties has it: the list, and closed facts on it.
-/
import Derived.Test.YtihplijjkcdcjaaGreatDoorRows
import Derived.LaidByTextLater
import Derived.SevenTiedAt
set_option linter.unusedVariables false
set_option linter.unusedSimpArgs false
namespace Go.Proofs.YtihplijjkcdcjaaGreatDoor
open Go
abbrev tieL : List (String × DataW Unit) := [("unicode/utf8.acceptRanges", Rows.laid_unicode_utf8_acceptRanges), ("internal/strconv.uint64pow10", Rows.laid_internal_strconv_uint64pow10), ("math/bits.deBruijn32tab", Rows.laid_math_bits_deBruijn32tab), ("math/bits.deBruijn64tab", Rows.laid_math_bits_deBruijn64tab), ("strconv.ErrSyntax", Rows.laid_strconv_ErrSyntax), ("strconv.ErrRange", Rows.laid_strconv_ErrRange)]
theorem tieF1 : Tryz.prog.worded (varsWordLater true) = true := by kernel_rfl
theorem tieF2 : Tryz.prog.worded (varsWordLater !true) = false := by kernel_rfl
theorem tieF3 : Tryz.prog.worded rootWordLater = true := by kernel_rfl
theorem tieF4 : tieL.map (fun x => Tryz.prog.kindOfLater x.1) = ([.data, .data, .data, .data, .sentinel, .sentinel] : List LaidKind).map some := by kernel_rfl
end Go.Proofs.YtihplijjkcdcjaaGreatDoor
