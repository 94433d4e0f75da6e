/-
  The summaries with which manifest's laws are walked: awake, the sorted keys, a disk's total, strings.Trim. No condition.
-/
import Derived.Test.YtbakhdgiimjnkaaGreatDoorAwake11
import Derived.Test.YtbakhdgiimjnkaaGreatDoorTotal
import Derived.Test.YtbakhdgiimjnkaaGreatDoorCtA
import Derived.Test.YtbakhdgiimjnkaaGreatDoorMnS
namespace Go.Proofs.YtbakhdgiimjnkaaGreatDoor.law11
open Abs
noncomputable def SmN : Abs.Summ := (SmM.add 71 sumTotal).add 84 sumTrim
theorem smN_ok : Abs.SmOk Tryz.prog SmN := smOk_add mixed (smOk_calls smM_ok total_sum) numOk (trim_says (by kernel_rfl) (by kernel_rfl) (by kernel_rfl) (by kernel_rfl) (by kernel_rfl))
theorem noMan : NoMan SmN := ⟨⟨by kernel_rfl, by kernel_rfl, by kernel_rfl, by kernel_rfl, by kernel_rfl, by kernel_rfl, by kernel_rfl, by kernel_rfl, by kernel_rfl, by kernel_rfl, by kernel_rfl⟩, ⟨by kernel_rfl, by kernel_rfl, by kernel_rfl, by kernel_rfl, by kernel_rfl, by kernel_rfl, by kernel_rfl, by kernel_rfl⟩, ⟨by kernel_rfl, by kernel_rfl, by kernel_rfl, by kernel_rfl, by kernel_rfl, by kernel_rfl, by kernel_rfl, by kernel_rfl, by kernel_rfl, by kernel_rfl, by kernel_rfl⟩, ⟨by kernel_rfl, by kernel_rfl, by kernel_rfl, by kernel_rfl⟩, ⟨by kernel_rfl, by kernel_rfl, by kernel_rfl, by kernel_rfl, by kernel_rfl, by kernel_rfl, by kernel_rfl, by kernel_rfl, by kernel_rfl⟩, by kernel_rfl, by kernel_rfl, by kernel_rfl, by kernel_rfl, by kernel_rfl, by kernel_rfl, by kernel_rfl, by kernel_rfl, by kernel_rfl, by kernel_rfl⟩
end Go.Proofs.YtbakhdgiimjnkaaGreatDoor.law11
