/-
  Over the given program, the card of WalFiles: the row is well formed. No condition.
-/
import Derived.Test.YtbakhdgiimjnkaaGreatDoorCards
import Derived.Test.YtbakhdgiimjnkaaGreatDoorTie
import Derived.ProofKit
set_option linter.unusedVariables false
set_option linter.unusedSimpArgs false
namespace Go.Proofs.YtbakhdgiimjnkaaGreatDoor.walFiles
open Go.ChangeShapes Go.WideShapes Go.ChangeAt Go.RowKit

theorem wf : Rows.walFilesRow.wfByText (OpenSpec.ofChange Rows.walFilesSpec) = true := by kernel_rfl
end Go.Proofs.YtbakhdgiimjnkaaGreatDoor.walFiles
