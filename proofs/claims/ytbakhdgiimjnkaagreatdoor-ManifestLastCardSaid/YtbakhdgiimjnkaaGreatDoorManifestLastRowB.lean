/-
  Over the given program, the card of ManifestLast: the row is well formed. No condition.
-/
import Derived.Test.YtbakhdgiimjnkaaGreatDoorCards
import Derived.Test.YtbakhdgiimjnkaaGreatDoorTie
import Derived.ProofKit
namespace Go.Proofs.YtbakhdgiimjnkaaGreatDoor.manifestLast
open Go.ChangeShapes Go.WideShapes Go.ChangeAt Go.RowKit

theorem wf : Rows.manifestLastRow.wfByText (OpenSpec.ofChange Rows.manifestLastSpec) = true := by kernel_rfl
end Go.Proofs.YtbakhdgiimjnkaaGreatDoor.manifestLast
