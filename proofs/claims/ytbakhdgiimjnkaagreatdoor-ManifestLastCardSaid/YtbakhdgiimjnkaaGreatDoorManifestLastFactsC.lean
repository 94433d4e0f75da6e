/-
  A fact on the row ManifestLast that hangs on the program's text alone.
-/
import Derived.Test.YtbakhdgiimjnkaaGreatDoorRows
import Derived.JoinedCond
import Derived.ProofKit
namespace Go.Proofs.YtbakhdgiimjnkaaGreatDoor.manifestLast
theorem factsC : (Rows.manifestLastRow.recurses == Tryz.prog.recurses 6) = true := by kernel_rfl
end Go.Proofs.YtbakhdgiimjnkaaGreatDoor.manifestLast
