/-
  Pieces of a closed run: the evaluator answers so.
-/
import Derived.Test.YtihplijjkcdcjaaGreatDoorProg
import Derived.KernelRfl
import Derived.Test.YtihplijjkcdcjaaGreatDoorDfA
import Derived.Test.YtihplijjkcdcjaaGreatDoorCuts
namespace Go.Proofs.YtihplijjkcdcjaaGreatDoor
open Abs
/-- 8651 operations -/
theorem g14_13369 (m : Int) (t : TypeId) : c14_13369.good (c14_13369.runs Tryz.prog SmC1 14 (Tr.nil.set 0 (.const [.int .i64 m] t))) = true := by kernel_rfl
/-- 4566 operations -/
theorem g14_14958 (m : Int) (t : TypeId) : c14_14958.good (c14_14958.runs Tryz.prog SmC1 14 (Tr.nil.set 0 (.const [.int .i64 m] t))) = true := by kernel_rfl
/-- 4722 operations -/
theorem g17_5284 (m : Int) (t : TypeId) : c17_5284.good (c17_5284.runs Tryz.prog SmC2 17 (Tr.nil.set 0 (.const [.int .i64 m] t))) = true := by kernel_rfl
/-- 4696 operations -/
theorem g17_8557 (m : Int) (t : TypeId) : c17_8557.good (c17_8557.runs Tryz.prog SmC2 17 (Tr.nil.set 0 (.const [.int .i64 m] t))) = true := by kernel_rfl
end Go.Proofs.YtihplijjkcdcjaaGreatDoor
