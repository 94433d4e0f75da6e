/-
  Pieces of a closed run: the evaluator answers so.
-/
import Derived.Test.YtihplijjkcdcjaaGreatDoorProg
import Derived.KernelRfl
import Derived.Test.YtihplijjkcdcjaaGreatDoorDfA
import Derived.Test.YtihplijjkcdcjaaGreatDoorCuts
namespace Go.Proofs.YtihplijjkcdcjaaGreatDoor
open Abs
/-- 7558 operations -/
theorem g32_4853 (m : Int) (t : TypeId) : c32_4853.good (c32_4853.runs Tryz.prog SmC3 32 (Tr.nil.set 0 (.const [.int .i64 m] t))) = true := by kernel_rfl
/-- 7470 operations -/
theorem g32_12226 (m : Int) (t : TypeId) : c32_12226.good (c32_12226.runs Tryz.prog SmC3 32 (Tr.nil.set 0 (.const [.int .i64 m] t))) = true := by kernel_rfl
/-- 3882 operations -/
theorem g8_4667 (m : Int) (t : TypeId) : c8_4667.good (c8_4667.runs Tryz.prog SmC4 8 (Tr.nil.set 0 (.const [.int .i64 m] t))) = true := by kernel_rfl
/-- 9051 operations -/
theorem g42_5309 (m : Int) (t : TypeId) : c42_5309.good (c42_5309.runs Tryz.prog SmC5 42 (Tr.nil.set 0 (.const [.int .i64 m] t))) = true := by kernel_rfl
end Go.Proofs.YtihplijjkcdcjaaGreatDoor
