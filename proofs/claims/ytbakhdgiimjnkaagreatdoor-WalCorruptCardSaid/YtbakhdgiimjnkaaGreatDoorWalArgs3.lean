/-
  Arguments of wal's laws as they read: bytes. No law in sight.
-/
import Derived.Test.YtbakhdgiimjnkaaGreatDoorWalArgs
import Derived.Test.YtbakhdgiimjnkaaGreatDoorRows
import Derived.LaidMore
import Derived.Test.YtbakhdgiimjnkaaGreatDoorArA
import Derived.Deep.DeepHandedRow
import Derived.Deep.DeepWitnessRowRef
set_option linter.unusedVariables false
set_option linter.unusedSimpArgs false
namespace Go.Proofs.YtbakhdgiimjnkaaGreatDoor.walArgs
set_option maxRecDepth 100000
open Go.ChangeShapes Go.WideShapes Go.ChangeAt Go.RowKit Go.Deep
section
variable {H : Type} {enc : TypeId × Value → H} {W : World} {base b0 : Nat} {held : Bool}
/-- BYTES AS AN ARGUMENT. -/
theorem bytes_arg {v : Value} {fuel : Nat} {x : DataW H × List MemPlace} (hok : Value.okWide Tryz.prog W .any base 28 v) (hW : Within Tryz.prog reachBytes 28 x.1) (h : DataW.trod enc Tryz.prog W b0 (fun _ => true) held fuel 28 v.cells.toList = some x) :
    ∃ y : BX, v = .slice y.A y.n y.c ∧ y.Ok W := by
  obtain ⟨A, n, c, rfl⟩ := okWide_slice Tryz.underlying28 hok
  obtain ⟨⟨A', n', c', l⟩, e, hy⟩ := bytes_rd h hW
  unfold BX.cell at e
  have e : [Value.slice A n c] = [Value.slice A' n' c'] := e
  cases e
  exact ⟨_, rfl, hy⟩
end
end Go.Proofs.YtbakhdgiimjnkaaGreatDoor.walArgs
