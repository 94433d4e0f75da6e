/-
  The summaries with which wal's laws are walked: awake, the sorted keys, a disk's total, strings.Trim, strings.Repeat of noughts. No condition.
-/
import Derived.Test.YtbakhdgiimjnkaaGreatDoorAwB
import Derived.Test.YtbakhdgiimjnkaaGreatDoorTotal
import Derived.Test.YtbakhdgiimjnkaaGreatDoorCtA
import Derived.Test.YtbakhdgiimjnkaaGreatDoorWOpen2
set_option linter.unusedVariables false
set_option linter.unusedSimpArgs false
namespace Go.Proofs.YtbakhdgiimjnkaaGreatDoor.law7
open Abs
noncomputable def SmT : Abs.Summ := (SmV.add 71 sumTotal).add 84 sumTrim
theorem smT_ok : Abs.SmOk Tryz.prog SmT := smOk_add mixed (smOk_calls smM_ok total_sum) numOk (trim_says (by kernel_rfl) (by kernel_rfl) (by kernel_rfl) (by kernel_rfl) (by kernel_rfl))
theorem rep0 (n : Nat) (s : St) : run Tryz.prog SmT (n + 300) (.inv (.fn (.func 59) #[]) [.string ⟨⟨[48]⟩⟩, .int .i64 (.ofNat 0)] s) = .ok (.val (mkStr (zeroes 0)) s) := by kernel_rfl
theorem rep1 (n : Nat) (s : St) : run Tryz.prog SmT (n + 300) (.inv (.fn (.func 59) #[]) [.string ⟨⟨[48]⟩⟩, .int .i64 (.ofNat 1)] s) = .ok (.val (mkStr (zeroes 1)) s) := by kernel_rfl
theorem rep2 (n : Nat) (s : St) : run Tryz.prog SmT (n + 300) (.inv (.fn (.func 59) #[]) [.string ⟨⟨[48]⟩⟩, .int .i64 (.ofNat 2)] s) = .ok (.val (mkStr (zeroes 2)) s) := by kernel_rfl
theorem rep3 (n : Nat) (s : St) : run Tryz.prog SmT (n + 300) (.inv (.fn (.func 59) #[]) [.string ⟨⟨[48]⟩⟩, .int .i64 (.ofNat 3)] s) = .ok (.val (mkStr (zeroes 3)) s) := by kernel_rfl
theorem rep4 (n : Nat) (s : St) : run Tryz.prog SmT (n + 300) (.inv (.fn (.func 59) #[]) [.string ⟨⟨[48]⟩⟩, .int .i64 (.ofNat 4)] s) = .ok (.val (mkStr (zeroes 4)) s) := by kernel_rfl
theorem rep5 (n : Nat) (s : St) : run Tryz.prog SmT (n + 300) (.inv (.fn (.func 59) #[]) [.string ⟨⟨[48]⟩⟩, .int .i64 (.ofNat 5)] s) = .ok (.val (mkStr (zeroes 5)) s) := by kernel_rfl
theorem rep_says : EvSays Tryz.prog SmT 59 sumRep := by
  intro args s v s1 hwf h
  unfold sumRep at h
  split at h <;> first | (cases h; done) | skip
  rename_i a c
  rw [ifb_eq, ifb_ble, bEq_eq] at h
  split at h <;> first | (cases h; done) | skip
  rename_i ha
  split at h <;> first | (cases h; done) | skip
  rename_i hc
  cases h
  obtain ⟨⟨a⟩⟩ := a
  obtain rfl : a = [48] := by simpa using ha
  have key : ∀ c, (∀ (n : Nat) (s : St), run Tryz.prog SmT (n + 300) (.inv (.fn (.func 59) #[]) [.string ⟨⟨[48]⟩⟩, .int .i64 (.ofNat c)] s) = .ok (.val (mkStr (zeroes c)) s)) → Ev Tryz.prog SmT (.inv (.fn (.func 59) #[]) [.string ⟨⟨[48]⟩⟩, .int .i64 (.ofNat c)] s) fun r => ∃ s', r = .val (mkStr (zeroes c)) s' ∧ s.below s' := fun c h => ⟨300, _, fun n hn => by
    obtain ⟨m, rfl⟩ : ∃ m, n = m + 300 := ⟨n - 300, by omega⟩
    exact h m s, s, rfl, St.below_refl _⟩
  match c, hc with
  | 0, _ => exact key 0 rep0
  | 1, _ => exact key 1 rep1
  | 2, _ => exact key 2 rep2
  | 3, _ => exact key 3 rep3
  | 4, _ => exact key 4 rep4
  | 5, _ => exact key 5 rep5
noncomputable def SmW : Abs.Summ := SmT.add 59 sumRep
theorem smW_ok : Abs.SmOk Tryz.prog SmW := smOk_add mixed smT_ok numOk rep_says
theorem noWO : NoWO SmW := ⟨⟨⟨⟨⟨by kernel_rfl, by kernel_rfl, by kernel_rfl, by kernel_rfl, by kernel_rfl, by kernel_rfl, by kernel_rfl, by kernel_rfl, by kernel_rfl⟩, by kernel_rfl, by kernel_rfl, by kernel_rfl, by kernel_rfl, by kernel_rfl, by kernel_rfl, by kernel_rfl⟩, ⟨⟨by kernel_rfl, by kernel_rfl, by kernel_rfl, by kernel_rfl, by kernel_rfl, by kernel_rfl, by kernel_rfl, by kernel_rfl⟩, ⟨by kernel_rfl, by kernel_rfl, by kernel_rfl, by kernel_rfl, by kernel_rfl, by kernel_rfl, by kernel_rfl, by kernel_rfl, by kernel_rfl, by kernel_rfl, by kernel_rfl⟩, ⟨by kernel_rfl, by kernel_rfl, by kernel_rfl, by kernel_rfl⟩, by kernel_rfl, by kernel_rfl, by kernel_rfl, by kernel_rfl, by kernel_rfl⟩, by kernel_rfl, by kernel_rfl, by kernel_rfl, by kernel_rfl, by kernel_rfl, by kernel_rfl⟩, ⟨by kernel_rfl, by kernel_rfl, by kernel_rfl, by kernel_rfl, by kernel_rfl, by kernel_rfl, by kernel_rfl, by kernel_rfl, by kernel_rfl⟩, by kernel_rfl, by kernel_rfl, by kernel_rfl, by kernel_rfl, by kernel_rfl, by kernel_rfl, by kernel_rfl, by kernel_rfl, by kernel_rfl, by kernel_rfl⟩, by kernel_rfl⟩
theorem p10 (l : List (List Value × TypeId)) : (stArgs tabs3 l).heap.get 0 = some (.const (pow10L.map fun z => Value.int .u64 z) 0) := (stArgs_old (by decide)).trans (by kernel_rfl)
end Go.Proofs.YtbakhdgiimjnkaaGreatDoor.law7
