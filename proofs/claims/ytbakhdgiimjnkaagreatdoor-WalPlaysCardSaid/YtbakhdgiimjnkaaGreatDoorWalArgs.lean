/-
  Arguments of wal's laws as they read: records, numbers. No law in sight.
-/
import Derived.Test.YtbakhdgiimjnkaaGreatDoorArA
import Derived.Test.YtbakhdgiimjnkaaGreatDoorWlC
import Derived.Test.YtbakhdgiimjnkaaGreatDoorWalTabs
import Derived.Test.YtbakhdgiimjnkaaGreatDoorAwB
import Derived.Test.YtbakhdgiimjnkaaGreatDoorRows
import Derived.LaidMore
import Derived.Deep.DeepHandedRow
import Derived.Deep.DeepWitnessRowRef
set_option linter.unusedVariables false
set_option linter.unusedSimpArgs false
namespace Go.Proofs.YtbakhdgiimjnkaaGreatDoor.walArgs
set_option maxRecDepth 100000
open Go.ChangeShapes Go.WideShapes Go.ChangeAt Go.RowKit Go.Deep
theorem own : ownKnob Tryz.prog.godebug = none := by kernel_rfl
theorem laidOut : laidOutB Tryz.prog = true := by kernel_rfl
theorem cells_int : Tryz.prog.cellsOf 3 = 1 := by kernel_rfl
/-- one record as it reads -/
structure BX where
  A : Option Addr
  n : Nat
  c : Nat
  l : List UInt8
def BX.cell (x : BX) : List Value := [.slice x.A x.n x.c]
structure BX.Ok (W : World) (x : BX) : Prop where
  len : x.l.length = x.n
  ok : Abs.SliceOk W x.A x.n x.c
  rd : SliceRd W 1 (fun cs (z : UInt8) => cs = [Value.int .u8 ((z.toNat : Nat) : Int)]) x.A x.l
section
variable {H : Type} {enc : TypeId × Value → H} {W : World} {base b0 : Nat} {held : Bool}
end
open Abs in
theorem tabs0 : ∃ b ws e, b < 4096 ∧ (stTabs tabs3).heap.get b = some (.const ws e) := by
  have h := List.all_eq_true.1 law7.tabs_in (tabs3.head (by simp [tabs3])) (List.head_mem _)
  obtain ⟨e, he⟩ := Abs.constIs_eq h
  exact ⟨_, _, e, (law7.tabs_ok _ (List.head_mem (by simp [tabs3]))).1, he⟩
open Abs in
/-- numbers are put -/
theorem put_ints {W : World} {l : List (List Value × TypeId)} {q : List (Nat × Nat)} (hP : Put W l q) {A : Option Addr} {n c : Nat} (hA : SliceOk W A n c) {zs : List Int} (hn : zs.length = n) (hr : SliceRd W 1 (fun cs z => cs = [Value.int .i64 z]) A zs) :
    ∃ l' q' sv, On l q l' q' ∧ Put W l' q' ∧ VRel (phiArgs q') sv (.slice A n c) ∧ IntsB (stArgs tabs3 l') sv zs := by
  obtain ⟨l', q', sv, h1, h2, h3, ⟨a, c', rfl⟩, h5⟩ := put_flat (tabs := tabs3) tabs0 hP hA (g := fun z => [Value.int .i64 z]) (by decide) (fun _ => rfl) (fun z v hv => by rw [List.mem_singleton] at hv; subst hv; rfl) hn hr 3
  subst hn
  have e : ∀ l : List Int, intsC l = l.flatMap fun n => [Value.int .i64 n] := fun l => by
    induction l with
    | nil => rfl
    | cons x l ih => rw [List.flatMap_cons, ← ih]; rfl
  exact ⟨l', q', _, h1, h2, h3, ⟨_, _, rfl⟩, by rw [e]; exact h5⟩
end Go.Proofs.YtbakhdgiimjnkaaGreatDoor.walArgs
