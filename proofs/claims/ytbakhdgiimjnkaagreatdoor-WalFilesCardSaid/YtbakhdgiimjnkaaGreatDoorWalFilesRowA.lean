/-
  Over the given program, the card of WalFiles: the function takes no stand-in, and no variable is looked at. No condition.
-/
import Derived.Test.YtbakhdgiimjnkaaGreatDoorCards
import Derived.Test.YtbakhdgiimjnkaaGreatDoorTie
import Derived.ProofKit
set_option linter.unusedVariables false
set_option linter.unusedSimpArgs false
namespace Go.Proofs.YtbakhdgiimjnkaaGreatDoor.walFiles
open Go.ChangeShapes Go.WideShapes Go.ChangeAt Go.RowKit

theorem noStands : (Tryz.f9.params.toList.all fun t => !Tryz.pinned.checked.prog.wantsStandIn t) = true := by kernel_rfl
theorem plain (f : FuncId) (fn : Func) (hf : Tryz.pinned.checked.prog.funcNamed "rolodex/rolodexlaw7.WalFiles" = some f) (hfn : Tryz.pinned.checked.prog.funcs[f]? = some fn) :
    true = Tryz.pinned.checked.prog.looks [] ∧ ∀ (j : Nat) t, fn.params[j]? = some t → Tryz.pinned.checked.prog.wantsStandIn t = false := by
  obtain rfl : f = 9 := Option.some.inj ((show Tryz.prog.funcNamed "rolodex/rolodexlaw7.WalFiles" = some 9 by kernel_rfl).symm.trans hf) |>.symm
  obtain rfl : fn = Tryz.f9 := (Option.some.inj (Tryz.func9.symm.trans hfn)).symm
  refine ⟨by kernel_rfl, fun j t ht => ?_⟩
  have h := List.all_eq_true.1 noStands t (Array.mem_toList_iff.2 (Array.mem_of_getElem? ht))
  simpa using h
end Go.Proofs.YtbakhdgiimjnkaaGreatDoor.walFiles
