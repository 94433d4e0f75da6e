/-
  A LAW WITH ARGUMENTS: a first state whose blocks are tables and the arguments' own ones (constants). What the evaluator's walk shows of the law holds in the model.
-/
import Derived.Test.YtihplijjkcdcjaaGreatDoorAbsSum
import Derived.Test.YtihplijjkcdcjaaGreatDoorEvA
import Derived.Test.YtihplijjkcdcjaaGreatDoorDfA
import Derived.Test.YtihplijjkcdcjaaGreatDoorBase
set_option linter.unusedVariables false
set_option linter.unusedSimpArgs false
namespace Go.Proofs.YtihplijjkcdcjaaGreatDoor.Abs
noncomputable section
set_option linter.unusedVariables false
open Go.RowKit
variable {P : Program} {φ : Phi} {w W : World}

/-- the arguments' blocks, from a number on -/
def heapArgs : List (List Value × TypeId) → Nat → Tr AObj → Tr AObj
  | [], _, h => h
  | a :: l, n, h => heapArgs l (n + 1) (h.set n (.const a.1 a.2))
theorem heapArgs_get : ∀ (l : List (List Value × TypeId)) (n : Nat) (h : Tr AObj) (b : Nat), (heapArgs l n h).get b = if n ≤ b ∧ b < n + l.length then (l[b - n]?).map fun a => AObj.const a.1 a.2 else h.get b
  | [], n, h, b => by rw [if_neg (by simp)]; rfl
  | a :: l, n, h, b => by
    show (heapArgs l (n + 1) (h.set n (.const a.1 a.2))).get b = _
    rw [heapArgs_get l (n + 1) _ b]
    by_cases hb : b = n
    · subst hb
      rw [if_neg (by omega), if_pos (by simp), Nat.sub_self]
      exact Tr.get_put_same
    · by_cases h1 : n + 1 ≤ b ∧ b < n + 1 + l.length
      · rw [if_pos h1, if_pos (by simp; omega)]
        obtain ⟨k, rfl⟩ : ∃ k, b = n + 1 + k := ⟨b - (n + 1), by omega⟩
        rw [Nat.add_sub_cancel_left, show n + 1 + k - n = k + 1 by omega, List.getElem?_cons_succ]
      · rw [if_neg h1, if_neg (by simp; omega)]
        exact Tr.get_set_ne hb
def stArgs (tabs : List (Nat × List Value × TypeId)) (l : List (List Value × TypeId)) : St := ⟨heapArgs l 4096 (stTabs tabs).heap, 4096 + l.length⟩
def phiArgs (locs : List (Nat × Nat)) : Phi := fun b => if b < 4096 then some ⟨b, 0, 0, 0⟩ else (locs[b - 4096]?).map fun p => ⟨p.1, p.2, 0, 0⟩
theorem stArgs_arg {tabs : List (Nat × List Value × TypeId)} {l : List (List Value × TypeId)} {i : Nat} {a : List Value × TypeId} (h : l[i]? = some a) : (stArgs tabs l).heap.get (4096 + i) = some (.const a.1 a.2) := by
  have hi := (List.getElem?_eq_some_iff.1 h).1
  show (heapArgs l 4096 _).get _ = _
  rw [heapArgs_get, if_pos (by omega), Nat.add_sub_cancel_left, h]
  rfl
theorem stArgs_old {tabs : List (Nat × List Value × TypeId)} {l : List (List Value × TypeId)} {b : Nat} (h : b < 4096) : (stArgs tabs l).heap.get b = (stTabs tabs).heap.get b := by
  show (heapArgs l 4096 _).get _ = _
  rw [heapArgs_get, if_neg (by omega)]
theorem stArgs_get {tabs : List (Nat × List Value × TypeId)} {l : List (List Value × TypeId)} (ht : ∀ t ∈ tabs, t.1 < 4096) {b : Nat} {x : AObj} (h : (stArgs tabs l).heap.get b = some x) :
    (b < 4096 ∧ (stTabs tabs).heap.get b = some x) ∨ ∃ i a, b = 4096 + i ∧ l[i]? = some a ∧ x = .const a.1 a.2 := by
  have h' : (heapArgs l 4096 (stTabs tabs).heap).get b = some x := h
  rw [heapArgs_get] at h'
  split at h'
  · rename_i hb
    obtain ⟨a, h1, h2⟩ := Option.map_eq_some_iff.1 h'
    exact .inr ⟨b - 4096, a, by omega, h1, h2.symm⟩
  · obtain ⟨vs, e, h1, _⟩ := stTabs_get h'
    exact .inl ⟨ht _ h1, h'⟩
/-- contracts serve in the place of walks -/
theorem smOk_calls {Sm : Summ} {f : FuncId} {g : List Value → St → Rs (Value × St)} (hSm : SmOk P Sm) (h : ∀ args s v s1, g args s = .ok (v, s1) → ∀ (fr : Frame) (cs : List Frame) (φ : Phi) (w : World) (args' : Array Value), SRel φ s w → LRel φ args args'.toList →
    ∃ ψ n w1 v' w', (callFunc f args').run P w = .ok n w1 ∧ Ran P .normal fr cs n w1 v' w' ∧ Post φ s w ψ s1 w' ∧ VRel ψ v v') : SmOk P (Sm.add f g) := by
  intro k g' hk args s v s1 hg fr cs φ w args' hS hl
  unfold Summ.add at hk
  rw [ifb_eq] at hk
  split at hk
  · rename_i e
    have e := Nat.eq_of_beq_eq_true e
    subst e
    cases hk
    exact h args s v s1 hg fr cs φ w args' hS hl
  · exact hSm k g' hk args s v s1 hg fr cs φ w args' hS hl
end
end Go.Proofs.YtihplijjkcdcjaaGreatDoor.Abs
