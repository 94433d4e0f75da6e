/-
  Pieces of a closed run: the evaluator answers so.
-/
import Derived.Test.YthidnkhhndbidaaGreatDoorProg
import Derived.KernelRfl
import Derived.Test.YthidnkhhndbidaaGreatDoorCutRun
import Derived.Test.YthidnkhhndbidaaGreatDoorCuts
namespace Go.Proofs.YthidnkhhndbidaaGreatDoor
open Abs
/-- 6820 operations -/
theorem g85_9043 (m : Int) (t : TypeId) : c85_9043.good (c85_9043.runs Tryz.prog SmC6 85 (Tr.nil.set 0 (.const [.int .i64 m] t))) = true := by kernel_rfl
/-- 6820 operations -/
theorem g85_13444 (m : Int) (t : TypeId) : c85_13444.good (c85_13444.runs Tryz.prog SmC6 85 (Tr.nil.set 0 (.const [.int .i64 m] t))) = true := by kernel_rfl
/-- 9592 operations -/
theorem g6_11945 (m : Int) (t : TypeId) : c6_11945.good (c6_11945.runs Tryz.prog SmC7 6 (Tr.nil.set 0 (.const [.int .i64 m] t))) = true := by kernel_rfl
end Go.Proofs.YthidnkhhndbidaaGreatDoor
