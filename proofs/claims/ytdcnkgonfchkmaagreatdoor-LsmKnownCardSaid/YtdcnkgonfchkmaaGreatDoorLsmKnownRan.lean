/-
  The closed run of LsmKnown: the evaluator answers true. No condition.
-/
import Derived.Test.YtdcnkgonfchkmaaGreatDoorProg
import Derived.KernelRfl
import Derived.Test.YtdcnkgonfchkmaaGreatDoorSumLDef
import Derived.Test.YtdcnkgonfchkmaaGreatDoorAbsFast
namespace Go.Proofs.YtdcnkgonfchkmaaGreatDoor.lsmKnown
/-- THE CLOSED RUN, in two. -/
theorem ranA : saysTrueQ (Abs.runQ Tryz.prog SmL 1000000000 (.inv (.fn (.func 4) #[]) [] ⟨.nil, 4096⟩)) = true := by kernel_rfl
theorem ranQ : saysTrueQ (Abs.runQ Tryz.prog SmL2 1000000000 (.inv (.fn (.func 3) #[]) [] ⟨.nil, 4096⟩)) = true := by kernel_rfl
end Go.Proofs.YtdcnkgonfchkmaaGreatDoor.lsmKnown
