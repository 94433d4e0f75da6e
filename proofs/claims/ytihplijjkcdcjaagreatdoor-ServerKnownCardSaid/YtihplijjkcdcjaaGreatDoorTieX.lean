/-
  The program's ties, put together out of their parts, and each row's tie.
-/
import Derived.Test.YtihplijjkcdcjaaGreatDoorTieXA
import Derived.Test.YtihplijjkcdcjaaGreatDoorTieXB
import Derived.Test.YtihplijjkcdcjaaGreatDoorTieXC
import Derived.Test.YtihplijjkcdcjaaGreatDoorTieXD
import Derived.Test.YtihplijjkcdcjaaGreatDoorTieXE
import Derived.Test.YtihplijjkcdcjaaGreatDoorTieXF
set_option linter.unusedVariables false
set_option linter.unusedSimpArgs false
namespace Go.Proofs.YtihplijjkcdcjaaGreatDoor
open Go
theorem tie : Tryz.prog.laidByTextLater [("unicode/utf8.acceptRanges", Rows.laid_unicode_utf8_acceptRanges), ("internal/strconv.uint64pow10", Rows.laid_internal_strconv_uint64pow10), ("math/bits.deBruijn32tab", Rows.laid_math_bits_deBruijn32tab), ("math/bits.deBruijn64tab", Rows.laid_math_bits_deBruijn64tab), ("strconv.ErrSyntax", Rows.laid_strconv_ErrSyntax), ("strconv.ErrRange", Rows.laid_strconv_ErrRange)] [.data, .data, .data, .data, .sentinel, .sentinel] true :=
  Program.laidByTextLater_by_run 400 8 tieF1 tieF2 tieF3 tieF4 tieF5 tieF6 tieF7 tieF8 tieF9
theorem serverKnown_row_tie : Rows.serverKnownRow.laidByTextAt .later Tryz.pinned [.pinned, .data, .data, .data, .data, .sentinel, .sentinel] true :=
  OpenClaim.laidByTextAt_pinned rfl rfl tie rfl rfl rfl rfl (fun y hy _e => by
    simp only [Rows.serverKnownRow, List.zip_cons_cons, List.zip_nil_right, List.mem_cons, List.mem_nil_iff, or_false] at hy
    rcases hy with rfl | rfl | rfl | rfl | rfl | rfl | rfl
    · exact ⟨pin_laid_unicode_utf8_first, by kernel_rfl⟩
    · cases _e
    · cases _e
    · cases _e
    · cases _e
    · cases _e
    · cases _e) fits1
end Go.Proofs.YtihplijjkcdcjaaGreatDoor
