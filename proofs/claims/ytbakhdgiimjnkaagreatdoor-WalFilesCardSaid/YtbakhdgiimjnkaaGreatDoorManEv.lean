/-
  manifest, versions: what same, may and good say, at the evaluator.
-/
import Derived.Test.YtbakhdgiimjnkaaGreatDoorBinRd2
import Derived.Test.YtbakhdgiimjnkaaGreatDoorEvB
import Derived.Test.YtbakhdgiimjnkaaGreatDoorPlA
import Derived.Test.YtbakhdgiimjnkaaGreatDoorEvSet
set_option linter.unusedVariables false
set_option linter.unusedSimpArgs false
namespace Go.Proofs.YtbakhdgiimjnkaaGreatDoor
open Abs
set_option maxHeartbeats 16000000
set_option maxRecDepth 20000
set_option linter.unusedSimpArgs false
attribute [local irreducible] Abs.Ev Abs.EvF Abs.EvO Abs.EvA Abs.Seq Abs.Blk Abs.Body Abs.Scp Abs.EvG Abs.EvAg Abs.Nx
attribute [local go_sem] Abs.eDelete
attribute [local go_sem] Tryz.underlying3 Ty.sz3 Ty.by3 Ty.ag3 Ty.ze3 Tryz.underlying4 Ty.sz4 Ty.by4 Ty.ag4 Ty.ze4 Tryz.underlying5 Ty.sz5 Ty.by5 Ty.ag5 Ty.ze5 Tryz.underlying9 Ty.sz9 Ty.by9 Ty.ag9 Ty.ze9 Tryz.underlying23 Ty.sz23 Ty.by23 Ty.ag23 Ty.ze23 Tryz.underlying24 Ty.sz24 Ty.by24 Ty.ag24 Ty.ze24 Tryz.underlying26 Ty.sz26 Ty.by26 Ty.ag26 Ty.ze26 Tryz.underlying28 Ty.sz28 Ty.by28 Ty.ag28 Ty.ze28 Tryz.underlying41 Ty.sz41 Ty.by41 Ty.ag41 Ty.ze41 Tryz.underlying124 Ty.sz124 Ty.by124 Ty.ag124 Ty.ze124
section
variable {Sm : Summ} {Q : Ans → Prop}

def fileC (f : MF) : List Value := [.int .i64 f.num, .int .i64 f.level, .string ⟨⟨f.first⟩⟩, .string ⟨⟨f.last⟩⟩]
def filesC : List MF → List Value
  | [] => []
  | f :: l => fileC f ++ filesC l
theorem filesC_at : ∀ (l : List MF) (i : Nat) (h : i < l.length), ((filesC l).drop (i * 4)).take 4 = fileC l[i]
  | f :: l, 0, _ => rfl
  | f :: l, i + 1, h => by
    have h' : i < l.length := by simpa using h
    show ((fileC f ++ filesC l).drop ((i + 1) * 4)).take 4 = fileC l[i]
    rw [show (i + 1) * 4 = (fileC f).length + i * 4 by show _ = 4 + i * 4; omega, List.drop_append]
    simp only [List.drop_eq_nil_of_le (Nat.le_add_right _ _), List.nil_append, Nat.add_sub_cancel_left]
    exact filesC_at l i h'
/-- files, as they lie -/
structure FilesAt (s : St) (v : Value) (l : List MF) : Prop where
  is : ∃ a c, v = .slice a l.length c
  src : srcCells s.heap 4 v = .ok (l.length, filesC l)
theorem FilesAt.mono {s s' : St} {v : Value} {l : List MF} (hk : ∀ b x, s.heap.get b = some x → s'.heap.get b = some x) (h : FilesAt s v l) : FilesAt s' v l := ⟨h.is, srcCells_mono hk h.src⟩
theorem FilesAt.cut {s : St} {b o n c : Nat} {l : List MF} (h : FilesAt s (.slice (some ⟨b, o, none⟩) n c) l) : n = l.length ∧ ∃ w, objCells (s.heap.get b) = .ok w ∧ ∀ (i : Nat) (hi : i < l.length), cutN w (o + i * 4) 4 = some (fileC l[i]) := by
  obtain ⟨a, c', e⟩ := h.is
  cases e
  have h2 := h.src
  obtain ⟨w, h1, h2, h3⟩ := src_parts h2
  refine ⟨rfl, w, h1, fun i hi => ?_⟩
  rw [cutN_eq, if_pos (by omega), ← filesC_at l i hi, ← h2, List.drop_take, List.take_take, List.drop_drop, Nat.min_eq_left (by omega)]
theorem FilesAt.some {s : St} {a : Option Addr} {n c : Nat} {l : List MF} (h : FilesAt s (.slice a n c) l) (hl : l ≠ []) : ∃ b o, a = some ⟨b, o, none⟩ := by
  obtain ⟨a', c', e⟩ := h.is
  have h2 := h.src
  cases a with
  | none =>
    have e : (0, ([] : List Value)) = (l.length, filesC l) := Rs.ok.inj h2
    exact absurd (List.eq_nil_of_length_eq_zero (congrArg Prod.fst e).symm) hl
  | some a =>
    obtain ⟨b, o, sp⟩ := a
    cases sp with
    | some _ => cases h2
    | none => exact ⟨b, o, rfl⟩
end
end Go.Proofs.YtbakhdgiimjnkaaGreatDoor
