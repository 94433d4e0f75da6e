/-
  The evaluator and what is proved of it (several texts in one).
-/
import Derived.Test.YtbakhdgiimjnkaaGreatDoorChecked
import Derived.KernelRfl
import Derived.Test.YtbakhdgiimjnkaaGreatDoorAbsFast
import Derived.Test.YtbakhdgiimjnkaaGreatDoorSumKDef
import Derived.Test.YtbakhdgiimjnkaaGreatDoorTabs3
import Derived.Test.YtbakhdgiimjnkaaGreatDoorAbsArgs
import Derived.Test.YtbakhdgiimjnkaaGreatDoorKeysAt
import Derived.Test.YtbakhdgiimjnkaaGreatDoorEvA
set_option linter.unusedVariables false
set_option linter.unusedSimpArgs false
/-
  The closed run of awake (layer 7): the evaluator answers true. No condition.
-/
namespace Go.Proofs.YtbakhdgiimjnkaaGreatDoor.law7
theorem mixed : Tryz.prog.follows .mixedOrders = true := by kernel_rfl
def numB (fn : Func) : Bool := match fn.body with | none => true | some _ => !(fn.name == "runtime.NumGoroutine")
theorem numAll : Tryz.prog.funcs.toList.all numB = true := by kernel_rfl
theorem numOk : Abs.NumOk Tryz.prog := by
  intro f fn hf hb hn
  have h := List.all_eq_true.1 numAll fn (Array.mem_toList_iff.2 (Array.mem_of_getElem? hf))
  unfold numB at h
  cases hx : fn.body with
  | none => rw [hx] at hb; cases hb
  | some c => rw [hx, hn] at h; simp at h
theorem body : ∃ c, (Tryz.f31).body = some c := ⟨_, rfl⟩
/-- THE CLOSED RUN. -/
theorem ranQ : saysTrueQ (Abs.runQ Tryz.prog SmK 1000000000 (.inv (.fn (.func 31) #[]) [] (Abs.stTabs tabs3))) = true := by kernel_rfl
end Go.Proofs.YtbakhdgiimjnkaaGreatDoor.law7

/-
  awake (layer 7) as a summary: it says true in whatever state holds the tables. No condition.
-/
namespace Go.Proofs.YtbakhdgiimjnkaaGreatDoor.law7
open Go.RowKit
theorem saysTrue_eq (r : Abs.Rs Abs.Ans) : saysTrueQ r = Abs.saysTrue r := rfl
theorem ran : Abs.saysTrue (Abs.run Tryz.prog SmK 1000000000 (.inv (.fn (.func 31) #[]) [] (Abs.stTabs tabs3))) = true := by
  have h := ranQ
  rw [Abs.runQ_eq, saysTrue_eq] at h
  exact h
/-- the law's summaries -/
noncomputable def SmV : Abs.Summ := Abs.Summ.add SmK 31 (Abs.sumTrue tabs3)
theorem tabs_ok : ∀ t ∈ tabs3, t.1 < 4096 ∧ (∀ v ∈ t.2.1, Abs.constOk v = true) ∧ ∃ v, t.2.1[0]? = some v := by
  intro t ht
  simp only [tabs3, List.mem_cons, List.mem_nil_iff, or_false] at ht
  rcases ht with rfl | rfl | rfl <;> exact ⟨by decide, fun v hv => by obtain ⟨z, _, rfl⟩ := List.mem_map.1 hv; rfl, _, rfl⟩
theorem smM_ok : Abs.SmOk Tryz.prog SmV := by
  obtain ⟨c, hc⟩ := body
  exact Abs.smOk_calls smK_ok (Abs.sumTrue_says tabs_ok (fun W hW => Abs.true_of_tabs mixed smK_ok numOk Tryz.func31 hc (by kernel_rfl) ran W hW) (enters_of Tryz.func31 (by kernel_rfl) hc))
theorem tabs_in : (tabs3.all fun t => Abs.constIs ((Abs.stTabs tabs3).heap.get t.1) t.2.1) = true := by kernel_rfl
theorem says {l : List (List Value × TypeId)} {s' : Abs.St} (hk : Abs.Keep (Abs.stArgs tabs3 l) s') : Abs.sumTrue tabs3 [] s' = .ok (.bool true, s') := by
  have h : (tabs3.all fun t => Abs.constIs (s'.heap.get t.1) t.2.1) = true := List.all_eq_true.2 fun t ht => by
    have h0 := List.all_eq_true.1 tabs_in t ht
    obtain ⟨e, he⟩ := Abs.constIs_eq h0
    rw [hk.old t.1 _ ((Abs.stArgs_old (tabs_ok t ht).1).trans he)]
    rw [he] at h0
    exact h0
  unfold Abs.sumTrue
  rw [h]
  rfl
end Go.Proofs.YtbakhdgiimjnkaaGreatDoor.law7

