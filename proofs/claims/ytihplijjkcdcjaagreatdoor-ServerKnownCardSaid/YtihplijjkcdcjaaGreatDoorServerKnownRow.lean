/-
  Over the given program, the statement ServerKnown holds (its tied card): the law returns true. Its run is closed: the evaluator of the texts Abs.. answers true, and the evaluator is proved sound against the model. No condition beyond the given row's own (its list of package variables as the card ties it).
-/
import Derived.Test.YtihplijjkcdcjaaGreatDoorCards
import Derived.Test.YtihplijjkcdcjaaGreatDoorTieX
import Derived.Test.YtihplijjkcdcjaaGreatDoorGoes
import Derived.Test.YtihplijjkcdcjaaGreatDoorServerKnownSaid
import Derived.Test.YtihplijjkcdcjaaGreatDoorServerKnownRowA
set_option linter.unusedVariables false
set_option linter.unusedSimpArgs false
namespace Go.Proofs.YtihplijjkcdcjaaGreatDoor.serverKnown
open Go.ChangeShapes Go.WideShapes Go.ChangeAt Go.RowKit

theorem goes : false = Rows.serverKnownRow.goesBy Tryz.pinned.checked.prog := goesBy_none noGoes _
/-- THE CARD. -/
theorem proved : Rows.ServerKnownCardSaid :=
  Claim7.holds_tied_plain_at .later [] _ _ _ _ said (fun _ h => by cases h) wf (fun _ h => by cases h) serverKnown_row_tie rfl ⟨rfl, rfl⟩ (by kernel_rfl) rfl plain goes
end Go.Proofs.YtihplijjkcdcjaaGreatDoor.serverKnown
