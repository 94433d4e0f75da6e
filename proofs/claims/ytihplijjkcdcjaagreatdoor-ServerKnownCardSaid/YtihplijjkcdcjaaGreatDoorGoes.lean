/-
  Over the given program: no function's text starts a goroutine, so no row's call does. No condition.
-/
import Derived.Test.YtihplijjkcdcjaaGreatDoorProg
import Derived.KernelRfl
import GoSem.ClaimGoes
set_option linter.unusedVariables false
set_option linter.unusedSimpArgs false
namespace Go.Proofs.YtihplijjkcdcjaaGreatDoor
theorem goes_none {P : Program} (h : P.funcs.toList.any Func.goes = false) (f : FuncId) : P.goes f = false := by
  have h0 : ∀ fn ∈ P.funcs.toList, Func.goes fn = false := fun fn hf => by
    cases hb : fn.goes with
    | false => rfl
    | true => rw [List.any_eq_true.2 ⟨fn, hf, hb⟩] at h; cases h
  have h1 : ∀ g : FuncId, (P.funcs[g]?).any Func.goes = false := fun g => by
    cases hg : P.funcs[g]? with
    | none => rfl
    | some fn => exact h0 fn (Array.mem_toList_iff.2 (Array.mem_of_getElem? hg))
  unfold Program.goes
  have h2 : ((P.closure f).any fun g => (P.funcs[g]?).any Func.goes) = false := by simp [h1]
  have h3 : P.funcs.any Func.goes = false := by rw [← Array.any_toList]; exact h
  rw [h2, h3]
  simp
theorem goesBy_none {P : Program} (h : P.funcs.toList.any Func.goes = false) (c : OpenClaim) : false = c.goesBy P := by
  show false = P.goesAt c.start c.func
  unfold Program.goesAt Program.goesFrom
  have h1 : (P.funcNamed c.func).any P.goes = false := by
    cases hx : P.funcNamed c.func with
    | none => rfl
    | some f => exact goes_none h f
  have h2 : P.inits.toList.any P.goes = false := by simp [goes_none h]
  rw [h1, h2]
  cases c.start <;> rfl
theorem noGoes : (Tryz.prog).funcs.toList.any Func.goes = false := by kernel_rfl
end Go.Proofs.YtihplijjkcdcjaaGreatDoor
