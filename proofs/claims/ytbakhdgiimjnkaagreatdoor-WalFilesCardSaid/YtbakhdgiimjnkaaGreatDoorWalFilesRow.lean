/-
  Over the given program, the statement WalFiles holds (its tied card): for every input that the row speaks of, the law returns true and leaves its arguments as they were. No condition beyond the given row's own (its list of package variables as the card ties it).
-/
import Derived.Test.YtbakhdgiimjnkaaGreatDoorCards
import Derived.Test.YtbakhdgiimjnkaaGreatDoorTie
import Derived.Test.YtbakhdgiimjnkaaGreatDoorWalFilesSaid
import Derived.Test.YtbakhdgiimjnkaaGreatDoorWalFilesRowA
import Derived.Test.YtbakhdgiimjnkaaGreatDoorWalFilesRowB
import Derived.Test.YtbakhdgiimjnkaaGreatDoorGoes
set_option linter.unusedVariables false
set_option linter.unusedSimpArgs false
namespace Go.Proofs.YtbakhdgiimjnkaaGreatDoor.walFiles
open Go.ChangeShapes Go.WideShapes Go.ChangeAt Go.RowKit

/-- THE CARD. -/
theorem proved : Rows.WalFilesCardSaid :=
  Claim7.holds_tied_plain_at .later [] _ _ _ _ said (fun _ h => by cases h) wf (fun _ h => by cases h) walFiles_row_tie rfl ⟨rfl, rfl⟩ (by kernel_rfl) rfl plain (goesBy_none noGoes _)
end Go.Proofs.YtbakhdgiimjnkaaGreatDoor.walFiles
