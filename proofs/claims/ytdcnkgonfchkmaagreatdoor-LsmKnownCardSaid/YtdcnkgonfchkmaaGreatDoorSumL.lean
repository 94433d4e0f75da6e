/-
  At this program: the evaluator's summaries for LsmKnown.
-/
import Derived.Test.YtdcnkgonfchkmaaGreatDoorKeysAt
import Derived.Test.YtdcnkgonfchkmaaGreatDoorSumLDef
import Derived.Test.YtdcnkgonfchkmaaGreatDoorCrc
import Derived.Test.YtdcnkgonfchkmaaGreatDoorTrim
import Derived.Test.YtdcnkgonfchkmaaGreatDoorTotal
import Derived.Test.YtdcnkgonfchkmaaGreatDoorCmp
namespace Go.Proofs.YtdcnkgonfchkmaaGreatDoor
open Abs
theorem mixed : Tryz.prog.follows .mixedOrders = true := by kernel_rfl
def numB (fn : Func) : Bool := match fn.body with | none => true | some _ => !(fn.name == "runtime.NumGoroutine")
theorem numAll : Tryz.prog.funcs.toList.all numB = true := by kernel_rfl
theorem numOk : Abs.NumOk Tryz.prog := by
  intro f fn hf hb hn
  have h := List.all_eq_true.1 numAll fn (Array.mem_toList_iff.2 (Array.mem_of_getElem? hf))
  unfold numB at h
  cases hx : fn.body with
  | none => rw [hx] at hb; cases hb
  | some c => rw [hx, hn] at h; simp at h
theorem smL0_ok : Abs.SmOk Tryz.prog SmL0 :=
  smOk_add mixed (smOk_add mixed (smOk_add mixed (smOk_add mixed (smOk_add mixed (smOk_add mixed (smOk_calls smK_ok total_sum) numOk (crc_says (by kernel_rfl))) numOk (trim_says (by kernel_rfl) (by kernel_rfl) (by kernel_rfl) (by kernel_rfl) (by kernel_rfl))) numOk (cmpS_says (by kernel_rfl) (by kernel_rfl))) numOk (cmpU_says (by kernel_rfl) (by kernel_rfl))) numOk (or_says (by kernel_rfl))) numOk (pre_says (by kernel_rfl))
theorem rep0 (n : Nat) (s : St) : run Tryz.prog SmL0 (n + 300) (.inv (.fn (.func 106) #[]) [.string ⟨⟨[48]⟩⟩, .int .i64 (.ofNat 0)] s) = .ok (.val (mkStr (zeroes 0)) s) := by kernel_rfl
theorem rep1 (n : Nat) (s : St) : run Tryz.prog SmL0 (n + 300) (.inv (.fn (.func 106) #[]) [.string ⟨⟨[48]⟩⟩, .int .i64 (.ofNat 1)] s) = .ok (.val (mkStr (zeroes 1)) s) := by kernel_rfl
theorem rep2 (n : Nat) (s : St) : run Tryz.prog SmL0 (n + 300) (.inv (.fn (.func 106) #[]) [.string ⟨⟨[48]⟩⟩, .int .i64 (.ofNat 2)] s) = .ok (.val (mkStr (zeroes 2)) s) := by kernel_rfl
theorem rep3 (n : Nat) (s : St) : run Tryz.prog SmL0 (n + 300) (.inv (.fn (.func 106) #[]) [.string ⟨⟨[48]⟩⟩, .int .i64 (.ofNat 3)] s) = .ok (.val (mkStr (zeroes 3)) s) := by kernel_rfl
theorem rep4 (n : Nat) (s : St) : run Tryz.prog SmL0 (n + 300) (.inv (.fn (.func 106) #[]) [.string ⟨⟨[48]⟩⟩, .int .i64 (.ofNat 4)] s) = .ok (.val (mkStr (zeroes 4)) s) := by kernel_rfl
theorem rep5 (n : Nat) (s : St) : run Tryz.prog SmL0 (n + 300) (.inv (.fn (.func 106) #[]) [.string ⟨⟨[48]⟩⟩, .int .i64 (.ofNat 5)] s) = .ok (.val (mkStr (zeroes 5)) s) := by kernel_rfl
theorem rep_says : EvSays Tryz.prog SmL0 106 sumRep := by
  intro args s v s1 hwf h
  unfold sumRep at h
  split at h <;> first | (cases h; done) | skip
  rename_i a c
  rw [ifb_eq, ifb_ble, bEq_eq] at h
  split at h <;> first | (cases h; done) | skip
  rename_i ha
  split at h <;> first | (cases h; done) | skip
  rename_i hc
  cases h
  obtain ⟨⟨a⟩⟩ := a
  obtain rfl : a = [48] := by simpa using ha
  have key : ∀ c, (∀ (n : Nat) (s : St), run Tryz.prog SmL0 (n + 300) (.inv (.fn (.func 106) #[]) [.string ⟨⟨[48]⟩⟩, .int .i64 (.ofNat c)] s) = .ok (.val (mkStr (zeroes c)) s)) → Ev Tryz.prog SmL0 (.inv (.fn (.func 106) #[]) [.string ⟨⟨[48]⟩⟩, .int .i64 (.ofNat c)] s) fun r => ∃ s', r = .val (mkStr (zeroes c)) s' ∧ s.below s' := fun c h => ⟨300, _, fun n hn => by
    obtain ⟨m, rfl⟩ : ∃ m, n = m + 300 := ⟨n - 300, by omega⟩
    exact h m s, s, rfl, St.below_refl _⟩
  match c, hc with
  | 0, _ => exact key 0 rep0
  | 1, _ => exact key 1 rep1
  | 2, _ => exact key 2 rep2
  | 3, _ => exact key 3 rep3
  | 4, _ => exact key 4 rep4
  | 5, _ => exact key 5 rep5
theorem itoa0 (n : Nat) (s : St) : run Tryz.prog (SmL0.add 106 sumRep) (n + 300) (.inv (.fn (.func 105) #[]) [.int .i64 (.ofNat 0)] s) = .ok (.val (mkStr [UInt8.ofNat (Nat.add 48 0)]) s) := by kernel_rfl
theorem itoa1 (n : Nat) (s : St) : run Tryz.prog (SmL0.add 106 sumRep) (n + 300) (.inv (.fn (.func 105) #[]) [.int .i64 (.ofNat 1)] s) = .ok (.val (mkStr [UInt8.ofNat (Nat.add 48 1)]) s) := by kernel_rfl
theorem itoa2 (n : Nat) (s : St) : run Tryz.prog (SmL0.add 106 sumRep) (n + 300) (.inv (.fn (.func 105) #[]) [.int .i64 (.ofNat 2)] s) = .ok (.val (mkStr [UInt8.ofNat (Nat.add 48 2)]) s) := by kernel_rfl
theorem itoa3 (n : Nat) (s : St) : run Tryz.prog (SmL0.add 106 sumRep) (n + 300) (.inv (.fn (.func 105) #[]) [.int .i64 (.ofNat 3)] s) = .ok (.val (mkStr [UInt8.ofNat (Nat.add 48 3)]) s) := by kernel_rfl
theorem itoa4 (n : Nat) (s : St) : run Tryz.prog (SmL0.add 106 sumRep) (n + 300) (.inv (.fn (.func 105) #[]) [.int .i64 (.ofNat 4)] s) = .ok (.val (mkStr [UInt8.ofNat (Nat.add 48 4)]) s) := by kernel_rfl
theorem itoa5 (n : Nat) (s : St) : run Tryz.prog (SmL0.add 106 sumRep) (n + 300) (.inv (.fn (.func 105) #[]) [.int .i64 (.ofNat 5)] s) = .ok (.val (mkStr [UInt8.ofNat (Nat.add 48 5)]) s) := by kernel_rfl
theorem itoa6 (n : Nat) (s : St) : run Tryz.prog (SmL0.add 106 sumRep) (n + 300) (.inv (.fn (.func 105) #[]) [.int .i64 (.ofNat 6)] s) = .ok (.val (mkStr [UInt8.ofNat (Nat.add 48 6)]) s) := by kernel_rfl
theorem itoa7 (n : Nat) (s : St) : run Tryz.prog (SmL0.add 106 sumRep) (n + 300) (.inv (.fn (.func 105) #[]) [.int .i64 (.ofNat 7)] s) = .ok (.val (mkStr [UInt8.ofNat (Nat.add 48 7)]) s) := by kernel_rfl
theorem itoa8 (n : Nat) (s : St) : run Tryz.prog (SmL0.add 106 sumRep) (n + 300) (.inv (.fn (.func 105) #[]) [.int .i64 (.ofNat 8)] s) = .ok (.val (mkStr [UInt8.ofNat (Nat.add 48 8)]) s) := by kernel_rfl
theorem itoa9 (n : Nat) (s : St) : run Tryz.prog (SmL0.add 106 sumRep) (n + 300) (.inv (.fn (.func 105) #[]) [.int .i64 (.ofNat 9)] s) = .ok (.val (mkStr [UInt8.ofNat (Nat.add 48 9)]) s) := by kernel_rfl
theorem itoa_says : EvSays Tryz.prog (SmL0.add 106 sumRep) 105 sumItoa := by
  intro args s v s1 hwf h
  unfold sumItoa at h
  split at h <;> first | (cases h; done) | skip
  rename_i c
  rw [ifb_ble] at h
  split at h <;> first | (cases h; done) | skip
  rename_i hc
  cases h
  have key : ∀ c, (∀ (n : Nat) (s : St), run Tryz.prog (SmL0.add 106 sumRep) (n + 300) (.inv (.fn (.func 105) #[]) [.int .i64 (.ofNat c)] s) = .ok (.val (mkStr [UInt8.ofNat (Nat.add 48 c)]) s)) → Ev Tryz.prog (SmL0.add 106 sumRep) (.inv (.fn (.func 105) #[]) [.int .i64 (.ofNat c)] s) fun r => ∃ s', r = .val (mkStr [UInt8.ofNat (Nat.add 48 c)]) s' ∧ s.below s' := fun c h => ⟨300, _, fun n hn => by
    obtain ⟨m, rfl⟩ : ∃ m, n = m + 300 := ⟨n - 300, by omega⟩
    exact h m s, s, rfl, St.below_refl _⟩
  match c, hc with
  | 0, _ => exact key 0 itoa0
  | 1, _ => exact key 1 itoa1
  | 2, _ => exact key 2 itoa2
  | 3, _ => exact key 3 itoa3
  | 4, _ => exact key 4 itoa4
  | 5, _ => exact key 5 itoa5
  | 6, _ => exact key 6 itoa6
  | 7, _ => exact key 7 itoa7
  | 8, _ => exact key 8 itoa8
  | 9, _ => exact key 9 itoa9
theorem smL_ok : Abs.SmOk Tryz.prog SmL := smOk_add mixed (smOk_add mixed smL0_ok numOk rep_says) numOk itoa_says
end Go.Proofs.YtdcnkgonfchkmaaGreatDoor
