/-
  awake (layer 6) as a summary: the evaluator's closed run says true; it reads no table. The summaries with which SimnetPlays is walked. No condition.
-/
import Derived.Test.YtpbadpkleiogoaaChecked
import Derived.KernelRfl
import Derived.Shelf.Abstract
import Derived.Test.YtpbadpkleiogoaaAbsFast
import Derived.Test.YtpbadpkleiogoaaAbsArgs
import Derived.Test.YtpbadpkleiogoaaEvA
import Derived.Test.YtpbadpkleiogoaaSPlays
set_option linter.unusedVariables false
set_option linter.unusedSimpArgs false
namespace Go.Proofs.Ytpbadpkleiogoaa.law6
open Go.RowKit
theorem mixed : Try.prog.follows .mixedOrders = true := by kernel_rfl
def numB (fn : Func) : Bool := match fn.body with | none => true | some _ => !(fn.name == "runtime.NumGoroutine")
theorem numAll : Try.prog.funcs.toList.all numB = true := by kernel_rfl
theorem numOk : Abs.NumOk Try.prog := by
  intro f fn hf hb hn
  have h := List.all_eq_true.1 numAll fn (Array.mem_toList_iff.2 (Array.mem_of_getElem? hf))
  unfold numB at h
  cases hx : fn.body with
  | none => rw [hx] at hb; cases hb
  | some c => rw [hx, hn] at h; simp at h
theorem body : ∃ c, (Try.f22).body = some c := ⟨_, rfl⟩
/-- THE CLOSED RUN. -/
theorem ranQ : saysTrueQ (Abs.runQ Try.prog Abs.Sm0 1000000000 (.inv (.fn (.func 22) #[]) [] (Abs.stTabs []))) = true := by kernel_rfl
theorem saysTrue_eq (r : Abs.Rs Abs.Ans) : saysTrueQ r = Abs.saysTrue r := rfl
theorem ran : Abs.saysTrue (Abs.run Try.prog Abs.Sm0 1000000000 (.inv (.fn (.func 22) #[]) [] (Abs.stTabs []))) = true := by
  have h := ranQ
  rw [Abs.runQ_eq, saysTrue_eq] at h
  exact h
noncomputable def SmV : Abs.Summ := Abs.Summ.add Abs.Sm0 22 (Abs.sumTrue [])
theorem smV_ok : Abs.SmOk Try.prog SmV := by
  obtain ⟨c, hc⟩ := body
  exact Abs.smOk_calls Abs.smOk_none (Abs.sumTrue_says (fun t ht => by cases ht) (fun W hW => Abs.true_of_tabs mixed Abs.smOk_none numOk Try.func22 hc (by kernel_rfl) ran W hW) (enters_of Try.func22 (by kernel_rfl) hc))
theorem says (s' : Abs.St) : Abs.sumTrue [] [] s' = .ok (.bool true, s') := rfl
theorem noNet : NoNet SmV := ⟨by kernel_rfl, by kernel_rfl, by kernel_rfl, by kernel_rfl, by kernel_rfl, by kernel_rfl, by kernel_rfl, by kernel_rfl, by kernel_rfl, by kernel_rfl, by kernel_rfl, by kernel_rfl, by kernel_rfl, by kernel_rfl, by kernel_rfl, by kernel_rfl⟩
theorem noRef : NoRef SmV := ⟨by kernel_rfl, by kernel_rfl, by kernel_rfl, by kernel_rfl⟩
end Go.Proofs.Ytpbadpkleiogoaa.law6
