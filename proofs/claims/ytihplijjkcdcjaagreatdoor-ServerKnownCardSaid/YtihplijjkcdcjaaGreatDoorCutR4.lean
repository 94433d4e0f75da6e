/-
  Pieces of a closed run: the evaluator answers so.
-/
import Derived.Test.YtihplijjkcdcjaaGreatDoorProg
import Derived.KernelRfl
import Derived.Test.YtihplijjkcdcjaaGreatDoorDfA
import Derived.Test.YtihplijjkcdcjaaGreatDoorCuts
namespace Go.Proofs.YtihplijjkcdcjaaGreatDoor
open Abs
/-- 8189 operations -/
theorem g107_5395 (m : Int) (t : TypeId) : c107_5395.good (c107_5395.runs Tryz.prog SmC9 107 (Tr.nil.set 0 (.const [.int .i64 m] t))) = true := by kernel_rfl
/-- 8189 operations -/
theorem g107_8668 (m : Int) (t : TypeId) : c107_8668.good (c107_8668.runs Tryz.prog SmC9 107 (Tr.nil.set 0 (.const [.int .i64 m] t))) = true := by kernel_rfl
/-- 8123 operations -/
theorem g202_7755 (m : Int) (t : TypeId) : c202_7755.good (c202_7755.runs Tryz.prog SmC10 202 (Tr.nil.set 0 (.const [.int .i64 m] t))) = true := by kernel_rfl
/-- 5304 operations -/
theorem g204_6204 (m : Int) (t : TypeId) : c204_6204.good (c204_6204.runs Tryz.prog SmC11 204 (Tr.nil.set 0 (.const [.int .i64 m] t))) = true := by kernel_rfl
end Go.Proofs.YtihplijjkcdcjaaGreatDoor
