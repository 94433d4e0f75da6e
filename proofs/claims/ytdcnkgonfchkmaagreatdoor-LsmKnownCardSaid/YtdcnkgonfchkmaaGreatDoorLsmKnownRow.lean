/-
  Over the given program, the statement LsmKnown holds (its tied card): the law returns true. Its run is closed: the evaluator of the texts Abs.. answers true, and the evaluator is proved sound against the model. No condition beyond the given row's own (its list of package variables as the card ties it).
-/
import Derived.Test.YtdcnkgonfchkmaaGreatDoorCards
import Derived.Test.YtdcnkgonfchkmaaGreatDoorTie
import Derived.Test.YtdcnkgonfchkmaaGreatDoorLsmKnownSaid
namespace Go.Proofs.YtdcnkgonfchkmaaGreatDoor.lsmKnown
open Go.ChangeShapes Go.WideShapes Go.ChangeAt Go.RowKit

theorem plain (f : FuncId) (fn : Func) (hf : Tryz.pinned.checked.prog.funcNamed "rolodex/rolodexlaw12.LsmKnown" = some f) (hfn : Tryz.pinned.checked.prog.funcs[f]? = some fn) :
    true = Tryz.pinned.checked.prog.looks [] ∧ ∀ (j : Nat) t, fn.params[j]? = some t → Tryz.pinned.checked.prog.wantsStandIn t = false := by
  obtain rfl : f = 3 := Option.some.inj ((show Tryz.prog.funcNamed "rolodex/rolodexlaw12.LsmKnown" = some 3 by kernel_rfl).symm.trans hf) |>.symm
  obtain rfl : fn = Tryz.f3 := (Option.some.inj (Tryz.func3.symm.trans hfn)).symm
  refine ⟨by kernel_rfl, fun j t ht => ?_⟩
  rw [Tryz.params3] at ht
  simp at ht
/-- THE CARD. -/
theorem proved : Rows.LsmKnownCardSaid :=
  Claim7.holds_tied_plain_at .later [] _ _ _ _ said (fun _ h => by cases h) (by kernel_rfl) (fun _ h => by cases h) lsmKnown_row_tie rfl ⟨rfl, rfl⟩ (by kernel_rfl) rfl plain (by kernel_rfl)
end Go.Proofs.YtdcnkgonfchkmaaGreatDoor.lsmKnown
