/-
  A cut of a closed run, as the evaluator runs it. A definition.
-/
import Derived.Test.YthidnkhhndbidaaGreatDoorCutDef
import Derived.Test.YthidnkhhndbidaaGreatDoorAbsFast
namespace Go.Proofs.YthidnkhhndbidaaGreatDoor.Abs
noncomputable def Cut.runs (P : Program) (Sm : Summ) (f : FuncId) (B : Tr AObj) (c : Cut) : Rs Ans :=
  (putAllO (somes c.turned) (putAllO (somes c.same) B)).force fun h => natK c.n0 fun n => runQ P Sm 1000000000 (.inv (.fn (.func f) #[]) c.args ⟨h, n⟩)
theorem Cut.runs_eq (P : Program) (Sm : Summ) (f : FuncId) (B : Tr AObj) (c : Cut) : c.runs P Sm f B = run P Sm 1000000000 (.inv (.fn (.func f) #[]) c.args (c.st B)) := by
  unfold Cut.runs
  rw [Tr.force_eq, natK_eq, runQ_eq]
  rfl
end Go.Proofs.YthidnkhhndbidaaGreatDoor.Abs
