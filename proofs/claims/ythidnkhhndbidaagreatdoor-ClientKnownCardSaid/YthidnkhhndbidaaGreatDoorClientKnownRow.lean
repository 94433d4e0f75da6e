/-
  Over the given program, the statement ClientKnown holds (its tied card): the law returns true. Its run is closed: the evaluator of the texts Abs.. answers true, and the evaluator is proved sound against the model. No condition beyond the given row's own (its list of package variables as the card ties it).
-/
import Derived.Test.YthidnkhhndbidaaGreatDoorCards
import Derived.Test.YthidnkhhndbidaaGreatDoorTie
import Derived.Test.YthidnkhhndbidaaGreatDoorClientKnownSaid
import Derived.Test.YthidnkhhndbidaaGreatDoorClientKnownRowA
import Derived.Test.YthidnkhhndbidaaGreatDoorClientKnownRowB
import Derived.Test.YthidnkhhndbidaaGreatDoorClientKnownRowC
namespace Go.Proofs.YthidnkhhndbidaaGreatDoor.clientKnown
open Go.ChangeShapes Go.WideShapes Go.ChangeAt Go.RowKit

/-- THE CARD. -/
theorem proved : Rows.ClientKnownCardSaid :=
  Claim7.holds_tied_plain_at .later [] _ _ _ _ said (fun _ h => by cases h) wf (fun _ h => by cases h) clientKnown_row_tie rfl ⟨rfl, rfl⟩ (by kernel_rfl) rfl plain goes
end Go.Proofs.YthidnkhhndbidaaGreatDoor.clientKnown
