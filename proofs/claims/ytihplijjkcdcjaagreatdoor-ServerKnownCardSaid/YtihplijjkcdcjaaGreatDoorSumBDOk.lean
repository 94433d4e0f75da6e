/-
  At this program: the summaries below the cuts serve.
-/
import Derived.Test.YtihplijjkcdcjaaGreatDoorAbsE
import Derived.Test.YtihplijjkcdcjaaGreatDoorAbsArgs
import Derived.Test.YtihplijjkcdcjaaGreatDoorAbsSum
import Derived.Test.YtihplijjkcdcjaaGreatDoorDfA
import Derived.Test.YtihplijjkcdcjaaGreatDoorSmA
import Derived.Test.YtihplijjkcdcjaaGreatDoorTotal
import Derived.Test.YtihplijjkcdcjaaGreatDoorIter
import Derived.Shelf.Bytes.SlIndexWhole
set_option linter.unusedVariables false
set_option linter.unusedSimpArgs false
namespace Go.Proofs.YtihplijjkcdcjaaGreatDoor
open Abs Go.RowKit Go.Maps Go.Sort Go.Shelf
theorem mixed : Tryz.prog.follows .mixedOrders = true := by kernel_rfl
def numB (fn : Func) : Bool := match fn.body with | none => true | some _ => !(fn.name == "runtime.NumGoroutine")
theorem numAll : Tryz.prog.funcs.toList.all numB = true := by kernel_rfl
theorem numOk : Abs.NumOk Tryz.prog := by
  intro f fn hf hb hn
  have h := List.all_eq_true.1 numAll fn (Array.mem_toList_iff.2 (Array.mem_of_getElem? hf))
  unfold numB at h
  cases hx : fn.body with
  | none => rw [hx] at hb; cases hb
  | some c => rw [hx, hn] at h; simp at h
theorem sortsKeys1 : Abs.SortsKeys Tryz.prog 69 235 9 9 := by
  intro Bm b nn D0 R W hBm hm hown hs
  have hseq : SeqGives Fence.wide 2 Tryz.prog 235 #[.pointer (some ⟨Bm, 0, none⟩)] encStr (fun ss => ss.Perm (strKeys D0)) (Maps.size D0) W :=
    AnyZ.keys_gives (ρ := Tryz.keys138_ren) { Tryz.keys138 with } Fence.wide _ trivial rfl (by omega) Bm b nn D0 W hBm hm hown
  have h1 : Maps.size D0 ≤ maxLen := Nat.le_trans hs (by decide)
  have h2 : Maps.size D0 * 16 ≤ 140737488355328 := by omega
  exact callsIn_wide.1 (AnyZ.sorted_in Tryz.sorted69 Fence.wide 5 trivial trivial trivial trivial rfl (by omega) (Tryz.sorts69 _) (enters_of Tryz.func146 (by kernel_rfl) rfl) 235 #[.pointer (some ⟨Bm, 0, none⟩)] trivial (enters_of Tryz.func235 (by kernel_rfl) rfl) _ _ h1 h2 W hseq)
theorem sortsKeys2 : Abs.SortsKeys Tryz.prog 69 147 9 9 := by
  intro Bm b nn D0 R W hBm hm hown hs
  have hseq : SeqGives Fence.wide 2 Tryz.prog 147 #[.pointer (some ⟨Bm, 0, none⟩)] encStr (fun ss => ss.Perm (strKeys D0)) (Maps.size D0) W :=
    AnyZ.keys_gives (ρ := Tryz.keys70_ren) { Tryz.keys70 with } Fence.wide _ trivial rfl (by omega) Bm b nn D0 W hBm hm hown
  have h1 : Maps.size D0 ≤ maxLen := Nat.le_trans hs (by decide)
  have h2 : Maps.size D0 * 16 ≤ 140737488355328 := by omega
  exact callsIn_wide.1 (AnyZ.sorted_in Tryz.sorted69 Fence.wide 5 trivial trivial trivial trivial rfl (by omega) (Tryz.sorts69 _) (enters_of Tryz.func146 (by kernel_rfl) rfl) 147 #[.pointer (some ⟨Bm, 0, none⟩)] trivial (enters_of Tryz.func147 (by kernel_rfl) rfl) _ _ h1 h2 W hseq)
theorem sortsKeys3 : Abs.SortsKeys Tryz.prog 69 367 9 9 := by
  intro Bm b nn D0 R W hBm hm hown hs
  have hseq : SeqGives Fence.wide 2 Tryz.prog 367 #[.pointer (some ⟨Bm, 0, none⟩)] encStr (fun ss => ss.Perm (strKeys D0)) (Maps.size D0) W :=
    AnyZ.keys_gives (ρ := Tryz.keys240_ren) { Tryz.keys240 with } Fence.wide _ trivial rfl (by omega) Bm b nn D0 W hBm hm hown
  have h1 : Maps.size D0 ≤ maxLen := Nat.le_trans hs (by decide)
  have h2 : Maps.size D0 * 16 ≤ 140737488355328 := by omega
  exact callsIn_wide.1 (AnyZ.sorted_in Tryz.sorted69 Fence.wide 5 trivial trivial trivial trivial rfl (by omega) (Tryz.sorts69 _) (enters_of Tryz.func146 (by kernel_rfl) rfl) 367 #[.pointer (some ⟨Bm, 0, none⟩)] trivial (enters_of Tryz.func367 (by kernel_rfl) rfl) _ _ h1 h2 W hseq)
theorem enterS (args : Array Value) (w : World) : (callFunc 69 args).run Tryz.prog w = .ok (.enter 69 args) w := enters_of Tryz.func69 (by kernel_rfl) rfl args w
theorem smK_ok : Abs.SmOk Tryz.prog (SmZ.add 69 sumKeys) := by
  refine smOk_calls smOk_none fun args s v s1 h fr cs φ w args' hS hl => ?_
  rcases orSum_ok h with h | h
  · exact Abs.sumSorted_ok Tryz.underlying9 enterS sortsKeys1 h fr cs hS hl
  rcases orSum_ok h with h | h
  · exact Abs.sumSorted_ok Tryz.underlying9 enterS sortsKeys2 h fr cs hS hl
  · exact Abs.sumSorted_ok Tryz.underlying9 enterS sortsKeys3 h fr cs hS hl
theorem idxOk : IdxOk Tryz.prog 183 0 := fun a1 a2 n c1 k c2 xs ys m w h1 h2 h3 h4 h5 h6 h7 h8 h9 h10 => Any.bytes_Index_at (ρ := Tryz.laysM185_ren) { Tryz.laysM185 with } a1 a2 n c1 k c2 xs ys m w h1 h2 h3 h4 h5 h6 h7 h8 h9 h10
theorem enterI (args : Array Value) (w : World) : (callFunc 183 args).run Tryz.prog w = .ok (.enter 183 args) w := enters_of Tryz.func183 (by kernel_rfl) rfl args w
theorem smI_ok : Abs.SmOk Tryz.prog ((SmZ.add 69 sumKeys).add 183 (sumIdx 0)) :=
  smOk_calls smK_ok fun args s v s1 h fr cs φ w args' hS hl => Abs.sumIdx_ok (by decide) enterI idxOk h fr cs hS hl
theorem smT_ok : Abs.SmOk Tryz.prog (((SmZ.add 69 sumKeys).add 183 (sumIdx 0)).add 382 sumTotal) :=
  smOk_calls smI_ok total_sum
theorem smB_ok : Abs.SmOk Tryz.prog SmB :=
  smOk_add mixed (smOk_add mixed (smOk_add mixed smT_ok numOk (crc_says (by kernel_rfl))) numOk (trim_says (by kernel_rfl) (by kernel_rfl) (by kernel_rfl) (by kernel_rfl) (by kernel_rfl))) numOk (take_says (by kernel_rfl) (by kernel_rfl) (by kernel_rfl))
end Go.Proofs.YtihplijjkcdcjaaGreatDoor
