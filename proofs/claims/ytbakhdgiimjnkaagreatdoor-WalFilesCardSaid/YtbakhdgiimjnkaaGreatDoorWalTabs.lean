/-
  What the rows' lists of wal's laws say of three tables of Go's library, as the evaluator wants it.
-/
import Derived.Test.YtbakhdgiimjnkaaGreatDoorRows
import Derived.Test.YtbakhdgiimjnkaaGreatDoorTabs3
import Derived.Stop.LaidErr
set_option linter.unusedVariables false
set_option linter.unusedSimpArgs false
namespace Go.Proofs.YtbakhdgiimjnkaaGreatDoor.walTabs
open Go.RowKit

theorem tables {W : World} (hL : laidMetH Tryz.prog Rows.walKnownRow.laid W) : Abs.SRel Abs.phiNil (Abs.stTabs tabs3) W := by
  have h0 : laidMet Tryz.prog (("math/bits.deBruijn32tab", Lib.tabData .u8 zB32) :: ("math/bits.deBruijn64tab", Lib.tabData .u8 zB64) :: ("internal/strconv.uint64pow10", Lib.tabData .u64 zP10) :: Rows.walKnownRow.laid.drop 3) W := hL
  have h1 := laidMet.tail h0
  have h2 := laidMet.tail h1
  exact srel3 (Lib.tabIs_of_head (g := 6) (t := 226) (by kernel_rfl) (by kernel_rfl) Tryz.underlying226 Tryz.underlying5 (by kernel_rfl) (by kernel_rfl) h0)
    (Lib.tabIs_of_head (g := 7) (t := 227) (by kernel_rfl) (by kernel_rfl) Tryz.underlying227 Tryz.underlying5 (by kernel_rfl) (by kernel_rfl) h1)
    (Lib.tabIs_of_head (g := 0) (t := 196) (by kernel_rfl) (by kernel_rfl) Tryz.underlying196 Tryz.underlying24 (by kernel_rfl) (by kernel_rfl) h2)
end Go.Proofs.YtbakhdgiimjnkaaGreatDoor.walTabs
