/-
  Over the given program, the card of ManifestSwitches: the row is well formed. No condition.
-/
import Derived.Test.YtbakhdgiimjnkaaGreatDoorCards
import Derived.Test.YtbakhdgiimjnkaaGreatDoorTie
import Derived.ProofKit
namespace Go.Proofs.YtbakhdgiimjnkaaGreatDoor.manifestSwitches
open Go.ChangeShapes Go.WideShapes Go.ChangeAt Go.RowKit

theorem wf : Rows.manifestSwitchesRow.wfByText (OpenSpec.ofChange Rows.manifestSwitchesSpec) = true := by kernel_rfl
end Go.Proofs.YtbakhdgiimjnkaaGreatDoor.manifestSwitches
