/-
  A fact on the row ManifestLast that hangs on the program's text alone.
-/
import Derived.Test.YtbakhdgiimjnkaaGreatDoorRows
import Derived.JoinedCond
import Derived.ProofKit
namespace Go.Proofs.YtbakhdgiimjnkaaGreatDoor.manifestLast
theorem factsA : (Rows.manifestLastRow.inPlace == Tryz.prog.inPlace 6) = true := by kernel_rfl
end Go.Proofs.YtbakhdgiimjnkaaGreatDoor.manifestLast
