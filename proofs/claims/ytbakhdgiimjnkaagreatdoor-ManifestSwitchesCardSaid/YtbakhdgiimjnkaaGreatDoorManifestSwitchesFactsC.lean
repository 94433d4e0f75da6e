/-
  A fact on the row ManifestSwitches that hangs on the program's text alone.
-/
import Derived.Test.YtbakhdgiimjnkaaGreatDoorRows
import Derived.JoinedCond
import Derived.ProofKit
namespace Go.Proofs.YtbakhdgiimjnkaaGreatDoor.manifestSwitches
theorem factsC : (Rows.manifestSwitchesRow.recurses == Tryz.prog.recurses 7) = true := by kernel_rfl
end Go.Proofs.YtbakhdgiimjnkaaGreatDoor.manifestSwitches
