/-
  At this program: the evaluator's summary of sorted keys. A definition.
-/
import Derived.Test.YtbakhdgiimjnkaaGreatDoorSumDef
set_option linter.unusedVariables false
set_option linter.unusedSimpArgs false
namespace Go.Proofs.YtbakhdgiimjnkaaGreatDoor
noncomputable def SmK : Abs.Summ := fun f => Abs.ifb (Nat.beq f 63) (some (Abs.sumSorted 97 9)) none
end Go.Proofs.YtbakhdgiimjnkaaGreatDoor
