/-
  Summaries: a contract of a function serves in the place of its walk. The sorted keys of a map.
-/
import Derived.Test.YtpbadpkleiogoaaAbsE
import Derived.Test.YtpbadpkleiogoaaSumDef
import Derived.Sort.KeysCollected
set_option linter.unusedVariables false
set_option linter.unusedSimpArgs false
namespace Go.Proofs.Ytpbadpkleiogoaa.Abs
noncomputable section
set_option linter.unusedVariables false
open Go.RowKit Go.ChangeShapes Go.ChangeMaps Go.WideShapes Go.WideMaps
variable {P : Program} {φ : Phi} {w : World}

/-- a contract, as the evaluator's summaries want it -/
theorem ran_of_calls {f : FuncId} {as : Array Value} {R : Ending → World → Prop} (h : Calls P f as w R) (hR : ∀ e w', R e w' → ∃ v, e = .returned v) (fr : Frame) (cs : List Frame) : ∃ v w', R (.returned v) w' ∧ Ran P .normal fr cs (.enter f as) w v w' := by
  obtain ⟨e, w', fr', h1, h2, _, h4⟩ := h (fr :: cs)
  obtain ⟨v, rfl⟩ := hR e w' h1
  exact ⟨v, w', h1, Steps.trans h2 (.one (step_leave_returned h4))⟩

theorem Post.below {st : St} (k : SRel φ st w) {w' : World} (hb : Below w.heap.size w w') : Post φ st w φ st w' :=
  ⟨⟨⟨k.mem.inj, fun b y h => by
    obtain ⟨M, h1, o', h2, h3⟩ := k.mem.obj b y h
    exact ⟨M, h1, o', by rw [hb.block _ (k.mem.lt h h1)]; exact h2, h3⟩⟩, k.fresh, k.globals⟩, φ.le_refl, ⟨hb.size, hb.os, hb.tape, hb.output, fun i hi hn => ⟨hb.block i hi, FrF.own hn⟩⟩, Nat.le_refl _, fun _ _ => rfl⟩



end
end Go.Proofs.Ytpbadpkleiogoaa.Abs
