/-
  Pieces of a closed run: the evaluator answers so.
-/
import Derived.Test.YthidnkhhndbidaaGreatDoorProg
import Derived.KernelRfl
import Derived.Test.YthidnkhhndbidaaGreatDoorCutRun
import Derived.Test.YthidnkhhndbidaaGreatDoorCuts
namespace Go.Proofs.YthidnkhhndbidaaGreatDoor
open Abs
/-- 7052 operations -/
theorem g12_6265 (m : Int) (t : TypeId) : c12_6265.good (c12_6265.runs Tryz.prog SmC0 12 (Tr.nil.set 0 (.const [.int .i64 m] t))) = true := by kernel_rfl
/-- 4535 operations -/
theorem g15_4153 (m : Int) (t : TypeId) : c15_4153.good (c15_4153.runs Tryz.prog SmC1 15 (Tr.nil.set 0 (.const [.int .i64 m] t))) = true := by kernel_rfl
/-- 4538 operations -/
theorem g15_14856 (m : Int) (t : TypeId) : c15_14856.good (c15_14856.runs Tryz.prog SmC1 15 (Tr.nil.set 0 (.const [.int .i64 m] t))) = true := by kernel_rfl
end Go.Proofs.YthidnkhhndbidaaGreatDoor
