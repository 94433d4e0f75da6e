/-
  Over the given program, the card of ClientKnown: the row is well formed. No condition.
-/
import Derived.Test.YthidnkhhndbidaaGreatDoorCards
import Derived.Test.YthidnkhhndbidaaGreatDoorTie
import Derived.ProofKit
namespace Go.Proofs.YthidnkhhndbidaaGreatDoor.clientKnown
open Go.ChangeShapes Go.WideShapes Go.ChangeAt Go.RowKit

theorem wf : Rows.clientKnownRow.wfByText (OpenSpec.ofChange Rows.clientKnownSpec) = true := by kernel_rfl
end Go.Proofs.YthidnkhhndbidaaGreatDoor.clientKnown
