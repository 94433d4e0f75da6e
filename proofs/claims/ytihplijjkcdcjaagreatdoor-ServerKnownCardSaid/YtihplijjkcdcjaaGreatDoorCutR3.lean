/-
  Pieces of a closed run: the evaluator answers so.
-/
import Derived.Test.YtihplijjkcdcjaaGreatDoorProg
import Derived.KernelRfl
import Derived.Test.YtihplijjkcdcjaaGreatDoorDfA
import Derived.Test.YtihplijjkcdcjaaGreatDoorCuts
namespace Go.Proofs.YtihplijjkcdcjaaGreatDoor
open Abs
/-- 8952 operations -/
theorem g42_8582 (m : Int) (t : TypeId) : c42_8582.good (c42_8582.runs Tryz.prog SmC5 42 (Tr.nil.set 0 (.const [.int .i64 m] t))) = true := by kernel_rfl
/-- 6667 operations -/
theorem g67_14652 (m : Int) (t : TypeId) : c67_14652.good (c67_14652.runs Tryz.prog SmC6 67 (Tr.nil.set 0 (.const [.int .i64 m] t))) = true := by kernel_rfl
/-- 4842 operations -/
theorem g21_14022 (m : Int) (t : TypeId) : c21_14022.good (c21_14022.runs Tryz.prog SmC7 21 (Tr.nil.set 0 (.const [.int .i64 m] t))) = true := by kernel_rfl
/-- 6406 operations -/
theorem g84_12605 (m : Int) (t : TypeId) : c84_12605.good (c84_12605.runs Tryz.prog SmC8 84 (Tr.nil.set 0 (.const [.int .i64 m] t))) = true := by kernel_rfl
end Go.Proofs.YtihplijjkcdcjaaGreatDoor
