/-
  Pieces of a closed run: the evaluator answers so.
-/
import Derived.Test.YthidnkhhndbidaaGreatDoorProg
import Derived.KernelRfl
import Derived.Test.YthidnkhhndbidaaGreatDoorCutRun
import Derived.Test.YthidnkhhndbidaaGreatDoorCuts
namespace Go.Proofs.YthidnkhhndbidaaGreatDoor
open Abs
/-- 5752 operations -/
theorem g9_10441 (m : Int) (t : TypeId) : c9_10441.good (c9_10441.runs Tryz.prog SmC11 9 (Tr.nil.set 0 (.const [.int .i64 m] t))) = true := by kernel_rfl
/-- 9074 operations -/
theorem g10_6497 (m : Int) (t : TypeId) : c10_6497.good (c10_6497.runs Tryz.prog SmC12 10 (Tr.nil.set 0 (.const [.int .i64 m] t))) = true := by kernel_rfl
/-- 10876 operations -/
theorem g4_4096 (m : Int) (t : TypeId) : c4_4096.good (c4_4096.runs Tryz.prog SmC13 4 (Tr.nil.set 0 (.const [.int .i64 m] t))) = true := by kernel_rfl
end Go.Proofs.YthidnkhhndbidaaGreatDoor
