/-
  Over the given program, the card of ManifestCleans: the row is well formed. No condition.
-/
import Derived.Test.YtbakhdgiimjnkaaGreatDoorCards
import Derived.Test.YtbakhdgiimjnkaaGreatDoorTie
import Derived.ProofKit
namespace Go.Proofs.YtbakhdgiimjnkaaGreatDoor.manifestCleans
open Go.ChangeShapes Go.WideShapes Go.ChangeAt Go.RowKit

theorem wf : Rows.manifestCleansRow.wfByText (OpenSpec.ofChange Rows.manifestCleansSpec) = true := by kernel_rfl
end Go.Proofs.YtbakhdgiimjnkaaGreatDoor.manifestCleans
