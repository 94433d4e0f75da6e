/-
  A law's arguments, as the evaluator holds them. No law in sight.
-/
import Derived.Test.YtbakhdgiimjnkaaGreatDoorReadW
import Derived.Test.YtbakhdgiimjnkaaGreatDoorAbsArgs
namespace Go.Proofs.YtbakhdgiimjnkaaGreatDoor
open Go.ChangeShapes Go.WideShapes Go.ChangeAt Go.RowKit Go.Deep
section
variable {P : Program} {W : World}
/-- the block of a slice that is handed in -/
theorem slice_block {base : Nat} {t e : TypeId} {a : Addr} {n c : Nat} (ht : P.underlying t = some (.slice e)) (h : Cell.okWide P W .any base t (.slice (some a) n c)) :
    ∃ b off, a = ⟨b, off, none⟩ ∧ (∃ cs u fr, W.heap[b]? = some (.cells cs u fr)) ∧ n ≤ c ∧ c ≤ 9223372036854775807 := by
  unfold Cell.okWide at h
  rw [ht] at h
  have h : Cell.ok P W .any base t (.slice (some a) n c) := h
  unfold Cell.ok at h
  rw [ht] at h
  obtain ⟨h1, h2, _, h3, row, cells, h4, _⟩ := h
  obtain ⟨b, off, sp⟩ := a
  simp only at h3 h4
  subst h3
  refine ⟨b, off, rfl, ?_, h1, by have h2 : (c : Int) ≤ 9223372036854775807 := h2; omega⟩
  unfold World.shape? at h4
  cases hb : W.heap[b]? with
  | none => rw [hb] at h4; simp at h4
  | some o =>
    rw [hb] at h4
    cases o <;> first | exact ⟨_, _, _, rfl⟩ | (simp at h4)
theorem cells_at {b : Nat} {c : Array Value} {t : TypeId} {fr : Nat × Nat} (h : W.heap[b]? = some (.cells c t fr)) (i : Nat) : W.cell? ⟨b, i, none⟩ = c[i]? := by
  unfold World.cell?
  rw [h]
  rfl
end
end Go.Proofs.YtbakhdgiimjnkaaGreatDoor
