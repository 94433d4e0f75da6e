/-
  A fact on the row LsmKnown that hangs on the program's text alone.
-/
import Derived.Test.YtdcnkgonfchkmaaGreatDoorRows
import Derived.JoinedCond
import Derived.ProofKit
namespace Go.Proofs.YtdcnkgonfchkmaaGreatDoor.lsmKnown
theorem factsC : (Rows.lsmKnownRow.recurses == Tryz.prog.recurses 3) = true := by kernel_rfl
end Go.Proofs.YtdcnkgonfchkmaaGreatDoor.lsmKnown
