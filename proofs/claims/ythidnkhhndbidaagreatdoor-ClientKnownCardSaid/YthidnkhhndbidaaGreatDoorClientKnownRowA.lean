/-
  Over the given program, the card of ClientKnown: the function takes no stand-in, and no variable is looked at. No condition.
-/
import Derived.Test.YthidnkhhndbidaaGreatDoorCards
import Derived.Test.YthidnkhhndbidaaGreatDoorTie
import Derived.ProofKit
namespace Go.Proofs.YthidnkhhndbidaaGreatDoor.clientKnown
open Go.ChangeShapes Go.WideShapes Go.ChangeAt Go.RowKit

theorem plain (f : FuncId) (fn : Func) (hf : Tryz.pinned.checked.prog.funcNamed "rolodex/rolodexlaw22.ClientKnown" = some f) (hfn : Tryz.pinned.checked.prog.funcs[f]? = some fn) :
    true = Tryz.pinned.checked.prog.looks [] ∧ ∀ (j : Nat) t, fn.params[j]? = some t → Tryz.pinned.checked.prog.wantsStandIn t = false := by
  obtain rfl : f = 3 := Option.some.inj ((show Tryz.prog.funcNamed "rolodex/rolodexlaw22.ClientKnown" = some 3 by kernel_rfl).symm.trans hf) |>.symm
  obtain rfl : fn = Tryz.f3 := (Option.some.inj (Tryz.func3.symm.trans hfn)).symm
  refine ⟨by kernel_rfl, fun j t ht => ?_⟩
  rw [Tryz.params3] at ht
  simp at ht
end Go.Proofs.YthidnkhhndbidaaGreatDoor.clientKnown
