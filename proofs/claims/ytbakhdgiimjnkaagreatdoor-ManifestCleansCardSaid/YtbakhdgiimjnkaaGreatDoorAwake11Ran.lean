/-
  The closed run of awake (layer 11): the evaluator answers true. No condition.
-/
import Derived.Test.YtbakhdgiimjnkaaGreatDoorChecked
import Derived.KernelRfl
import Derived.Test.YtbakhdgiimjnkaaGreatDoorAbsFast
import Derived.Test.YtbakhdgiimjnkaaGreatDoorSumKDef
import Derived.Test.YtbakhdgiimjnkaaGreatDoorTabs3
namespace Go.Proofs.YtbakhdgiimjnkaaGreatDoor.law11
theorem mixed : Tryz.prog.follows .mixedOrders = true := by kernel_rfl
def numB (fn : Func) : Bool := match fn.body with | none => true | some _ => !(fn.name == "runtime.NumGoroutine")
theorem numAll : Tryz.prog.funcs.toList.all numB = true := by kernel_rfl
theorem numOk : Abs.NumOk Tryz.prog := by
  intro f fn hf hb hn
  have h := List.all_eq_true.1 numAll fn (Array.mem_toList_iff.2 (Array.mem_of_getElem? hf))
  unfold numB at h
  cases hx : fn.body with
  | none => rw [hx] at hb; cases hb
  | some c => rw [hx, hn] at h; simp at h
theorem body : ∃ c, (Tryz.f15).body = some c := ⟨_, rfl⟩
/-- THE CLOSED RUN. -/
theorem ranQ : saysTrueQ (Abs.runQ Tryz.prog SmK 1000000000 (.inv (.fn (.func 15) #[]) [] (Abs.stTabs tabs3))) = true := by kernel_rfl
end Go.Proofs.YtbakhdgiimjnkaaGreatDoor.law11
