/-
  A fact on the row ManifestBytes that hangs on the program's text alone.
-/
import Derived.Test.YtbakhdgiimjnkaaGreatDoorRows
import Derived.JoinedCond
import Derived.ProofKit
namespace Go.Proofs.YtbakhdgiimjnkaaGreatDoor.manifestBytes
theorem factsB : (Rows.manifestBytesRow.unfollowed == Tryz.prog.unfollowed 4) = true := by kernel_rfl
end Go.Proofs.YtbakhdgiimjnkaaGreatDoor.manifestBytes
