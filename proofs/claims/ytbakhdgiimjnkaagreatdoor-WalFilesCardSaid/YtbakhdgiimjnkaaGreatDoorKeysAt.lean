/-
  At this program: the evaluator's summary of slices.Sorted of maps.Keys, by the kit's contracts.
-/
import Derived.Test.YtbakhdgiimjnkaaGreatDoorAbsSum
import Derived.Test.YtbakhdgiimjnkaaGreatDoorSumKDef
import Derived.Test.YtbakhdgiimjnkaaGreatDoorIter
set_option linter.unusedVariables false
set_option linter.unusedSimpArgs false
namespace Go.Proofs.YtbakhdgiimjnkaaGreatDoor
open Go.RowKit Go.Maps Go.Sort Go.Shelf

theorem sortsKeys : Abs.SortsKeys Tryz.prog 63 97 9 9 := by
  intro Bm b nn D0 R W hBm hm hown hs
  have hseq : SeqGives Fence.wide 2 Tryz.prog 97 #[.pointer (some ⟨Bm, 0, none⟩)] encStr (fun ss => ss.Perm (strKeys D0)) (Maps.size D0) W :=
    AnyZ.keys_gives (ρ := Tryz.keys64_ren) { Tryz.keys64 with } Fence.wide _ trivial rfl (by omega) Bm b nn D0 W hBm hm hown
  have h1 : Maps.size D0 ≤ maxLen := Nat.le_trans hs (by decide)
  have h2 : Maps.size D0 * 16 ≤ 140737488355328 := by omega
  exact callsIn_wide.1 (AnyZ.sorted_in Tryz.sorted63 Fence.wide 5 trivial trivial trivial trivial rfl (by omega) (Tryz.sorts63 _) (enters_of Tryz.func96 (by kernel_rfl) rfl) 97 #[.pointer (some ⟨Bm, 0, none⟩)] trivial (enters_of Tryz.func97 (by kernel_rfl) rfl) _ _ h1 h2 W hseq)

theorem smK_ok : Abs.SmOk Tryz.prog SmK := by
  intro f g hg args s v s1 h fr cs φ w args' hS hl
  unfold SmK at hg
  rw [Abs.ifb_eq] at hg
  split at hg <;> first | (cases hg; done) | skip
  rename_i hf
  have hf := Nat.eq_of_beq_eq_true hf
  subst hf
  cases hg
  exact Abs.sumSorted_ok Tryz.underlying9 (enters_of Tryz.func63 (by kernel_rfl) rfl) sortsKeys h fr cs hS hl
end Go.Proofs.YtbakhdgiimjnkaaGreatDoor
