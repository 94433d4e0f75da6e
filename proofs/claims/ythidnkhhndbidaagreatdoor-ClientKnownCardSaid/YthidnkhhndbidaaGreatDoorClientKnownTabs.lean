/-
  What the row's list of ClientKnown says of three tables of Go's library, as the evaluator wants it.
-/
import Derived.Test.YthidnkhhndbidaaGreatDoorRows
import Derived.Test.YthidnkhhndbidaaGreatDoorTabs4
import Derived.Stop.LaidErr
namespace Go.Proofs.YthidnkhhndbidaaGreatDoor.clientKnown
open Go.RowKit

theorem tables {W : World} (hL : laidMetH Tryz.prog Rows.clientKnownRow.laid W) {m : Int} (hm : W.cell? ⟨0, 0, none⟩ = some (.int .i64 m)) : Abs.SRel Abs.phiNil (Abs.stTabs (tabs4 m)) W := by
  have h0 : laidMet Tryz.prog (("math/bits.deBruijn32tab", Lib.tabData .u8 zB32) :: ("math/bits.deBruijn64tab", Lib.tabData .u8 zB64) :: ("internal/strconv.uint64pow10", Lib.tabData .u64 zP10) :: Rows.clientKnownRow.laid.drop 3) W := hL
  have h1 := laidMet.tail h0
  have h2 := laidMet.tail h1
  exact srel4 hm (Lib.tabIs_of_head (g := 6) (t := 198) (by kernel_rfl) (by kernel_rfl) Tryz.underlying198 Tryz.underlying5 (by kernel_rfl) (by kernel_rfl) h0)
    (Lib.tabIs_of_head (g := 7) (t := 525) (by kernel_rfl) (by kernel_rfl) Tryz.underlying525 Tryz.underlying5 (by kernel_rfl) (by kernel_rfl) h1)
    (Lib.tabIs_of_head (g := 3) (t := 466) (by kernel_rfl) (by kernel_rfl) Tryz.underlying466 Tryz.underlying33 (by kernel_rfl) (by kernel_rfl) h2)
end Go.Proofs.YthidnkhhndbidaaGreatDoor.clientKnown
