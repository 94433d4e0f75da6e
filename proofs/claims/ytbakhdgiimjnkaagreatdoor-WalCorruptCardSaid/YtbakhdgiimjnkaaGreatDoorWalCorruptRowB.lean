/-
  Over the given program, the card of WalCorrupt: the row is well formed. No condition.
-/
import Derived.Test.YtbakhdgiimjnkaaGreatDoorCards
import Derived.Test.YtbakhdgiimjnkaaGreatDoorTie
import Derived.ProofKit
set_option linter.unusedVariables false
set_option linter.unusedSimpArgs false
namespace Go.Proofs.YtbakhdgiimjnkaaGreatDoor.walCorrupt
open Go.ChangeShapes Go.WideShapes Go.ChangeAt Go.RowKit

theorem wf : Rows.walCorruptRow.wfByText (OpenSpec.ofChange Rows.walCorruptSpec) = true := by kernel_rfl
end Go.Proofs.YtbakhdgiimjnkaaGreatDoor.walCorrupt
