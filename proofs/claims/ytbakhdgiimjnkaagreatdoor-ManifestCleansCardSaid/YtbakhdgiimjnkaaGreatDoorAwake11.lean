/-
  awake (layer 11) as a summary: it says true in whatever state holds the tables. No condition.
-/
import Derived.Test.YtbakhdgiimjnkaaGreatDoorAwake11Ran
import Derived.Test.YtbakhdgiimjnkaaGreatDoorAbsArgs
import Derived.Test.YtbakhdgiimjnkaaGreatDoorKeysAt
import Derived.Test.YtbakhdgiimjnkaaGreatDoorEvA
namespace Go.Proofs.YtbakhdgiimjnkaaGreatDoor.law11
open Go.RowKit
theorem saysTrue_eq (r : Abs.Rs Abs.Ans) : saysTrueQ r = Abs.saysTrue r := rfl
theorem ran : Abs.saysTrue (Abs.run Tryz.prog SmK 1000000000 (.inv (.fn (.func 15) #[]) [] (Abs.stTabs tabs3))) = true := by
  have h := ranQ
  rw [Abs.runQ_eq, saysTrue_eq] at h
  exact h
/-- the law's summaries -/
noncomputable def SmM : Abs.Summ := Abs.Summ.add SmK 15 (Abs.sumTrue tabs3)
theorem tabs_ok : ∀ t ∈ tabs3, t.1 < 4096 ∧ (∀ v ∈ t.2.1, Abs.constOk v = true) ∧ ∃ v, t.2.1[0]? = some v := by
  intro t ht
  simp only [tabs3, List.mem_cons, List.mem_nil_iff, or_false] at ht
  rcases ht with rfl | rfl | rfl <;> exact ⟨by decide, fun v hv => by obtain ⟨z, _, rfl⟩ := List.mem_map.1 hv; rfl, _, rfl⟩
theorem smM_ok : Abs.SmOk Tryz.prog SmM := by
  obtain ⟨c, hc⟩ := body
  exact Abs.smOk_calls smK_ok (Abs.sumTrue_says tabs_ok (fun W hW => Abs.true_of_tabs mixed smK_ok numOk Tryz.func15 hc (by kernel_rfl) ran W hW) (enters_of Tryz.func15 (by kernel_rfl) hc))
theorem tabs_in : (tabs3.all fun t => Abs.constIs ((Abs.stTabs tabs3).heap.get t.1) t.2.1) = true := by kernel_rfl
theorem says {l : List (List Value × TypeId)} {s' : Abs.St} (hk : Abs.Keep (Abs.stArgs tabs3 l) s') : Abs.sumTrue tabs3 [] s' = .ok (.bool true, s') := by
  have h : (tabs3.all fun t => Abs.constIs (s'.heap.get t.1) t.2.1) = true := List.all_eq_true.2 fun t ht => by
    have h0 := List.all_eq_true.1 tabs_in t ht
    obtain ⟨e, he⟩ := Abs.constIs_eq h0
    rw [hk.old t.1 _ ((Abs.stArgs_old (tabs_ok t ht).1).trans he)]
    rw [he] at h0
    exact h0
  unfold Abs.sumTrue
  rw [h]
  rfl
end Go.Proofs.YtbakhdgiimjnkaaGreatDoor.law11
