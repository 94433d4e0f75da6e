/-
  A fact on the row LsmKnown that hangs on the program's text alone.
-/
import Derived.Test.YtdcnkgonfchkmaaGreatDoorRows
import Derived.JoinedCond
import Derived.ProofKit
namespace Go.Proofs.YtdcnkgonfchkmaaGreatDoor.lsmKnown
theorem factsD : (Rows.lsmKnownRow.named == Tryz.prog.varsNamed 3) = true := by kernel_rfl
end Go.Proofs.YtdcnkgonfchkmaaGreatDoor.lsmKnown
