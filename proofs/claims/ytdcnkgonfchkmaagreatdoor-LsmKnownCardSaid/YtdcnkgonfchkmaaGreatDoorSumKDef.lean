/-
  At this program: the evaluator's summary of sorted keys. A definition.
-/
import Derived.Test.YtdcnkgonfchkmaaGreatDoorSumDef
namespace Go.Proofs.YtdcnkgonfchkmaaGreatDoor
noncomputable def SmK : Abs.Summ := fun f => Abs.ifb (Nat.beq f 87) (some (Abs.sumSorted 146 9)) none
end Go.Proofs.YtdcnkgonfchkmaaGreatDoor
