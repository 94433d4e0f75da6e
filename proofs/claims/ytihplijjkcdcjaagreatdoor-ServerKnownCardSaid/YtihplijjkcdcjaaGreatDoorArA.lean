/-
  The evaluator and what is proved of it (several texts in one).
-/
import Derived.Test.YtihplijjkcdcjaaGreatDoorBase
import Derived.ProofKit
import Derived.OpenShut
import Derived.SizedLaws
import Derived.Carry
import Derived.Deep.Slices
import Derived.Lib.SmallJoins
import Derived.Test.YtihplijjkcdcjaaGreatDoorAbsArgs
import Derived.Test.YtihplijjkcdcjaaGreatDoorEvB
set_option linter.unusedVariables false
set_option linter.unusedSimpArgs false
/-
  From a walk to the row: a law whose walk returns true and turns nothing that was there meets its given statement. No law in sight.
-/
namespace Go.Proofs.YtihplijjkcdcjaaGreatDoor
open Go.ChangeShapes Go.WideShapes Go.ChangeAt Go.RowKit

section
variable {α : Type}
theorem len0 {l : List α} (h : l.length = 0) : l = [] := List.length_eq_zero_iff.1 h
end

/-- What a law's walk gives: it returns true; of what was there nothing has turned. -/
def TrueMod (w : World) (e : Ending) (w' : World) : Prop := e = .returned (.bool true) ∧ Mod (fun _ => False) w w'

section
variable {H : Type} {enc : TypeId × Value → H} {P : Program}

theorem trodAll_below (hl : laidOutB P = true) {W W' : World} (hb : Below W.heap.size W W') : ∀ {ts : List TypeId} {vs : List Value} {ds : List (DataW H)} {ps : List MemPlace},
    (∀ t ∈ ts, P.readableRec t = true ∧ t < P.types.size) → DataW.TrodAll enc P W 0 (fun _ => true) true ts vs ds ps → (∀ x ∈ ps, x.block < W.heap.size) →
    DataW.TrodAll enc P W' 0 (fun b => decide (b < W.heap.size)) true ts vs ds ps
  | [], vs, ds, ps, _, h, _ => by
    obtain ⟨rfl, rfl, rfl⟩ := trodAll_nil h
    exact trodAll_mk0
  | t :: ts, vs, ds, ps, hr, h, hlt => by
    obtain ⟨v, vs', d, ds', p, q, rfl, rfl, rfl, hd, hrest⟩ := trodAll_cons h
    have h1 := hr t (by simp)
    exact ⟨p, q, Below.trod hl h1.1 h1.2 hd hb (fun x hx => hlt x (by simp [hx])), trodAll_below hl hb (fun t' ht' => hr t' (by simp [ht'])) hrest (fun x hx => hlt x (by simp [hx])), rfl⟩

theorem trodAll_length : ∀ {W : World} {b : Nat} {sp : Nat → Bool} {hd : Bool} {ts : List TypeId} {vs : List Value} {ds : List (DataW H)} {ps : List MemPlace},
    DataW.TrodAll enc P W b sp hd ts vs ds ps → ds.length = ts.length
  | _, _, _, _, [], _, _, _, h => by
    obtain ⟨_, rfl, _⟩ := trodAll_nil h
    rfl
  | _, _, _, _, _ :: _, _, _, _, h => by
    obtain ⟨v, vs', d, ds', p, q, rfl, rfl, rfl, hd, hrest⟩ := trodAll_cons h
    simp [trodAll_length hrest]

theorem law_post {fn : Func} {s : ChangeSpec} {B : TypeId} {W W' : World} {args : Array Value} {ds gs : List (DataW H)} {before : List MemPlace}
    (hl : laidOutB P = true) (hr : ∀ t ∈ fn.params.toList, P.readableRec t = true ∧ t < P.types.size) (hv : s.vars = []) (hres : fn.resultTypes = #[B]) (hB : P.underlying B = some .bool)
    (hs : ∀ ds : List (DataW H), ds.length = fn.params.toList.length → (s.fn H (ds ++ [])).results = [.lit (.bool true)] ∧ (s.fn H (ds ++ [])).args = ds ∧ (s.fn H (ds ++ [])).vars = [])
    (hW : DataW.Whole enc P fn.params.toList s.vars false W args.toList ds gs before) (hm : Mod (fun _ => False) W W') :
    s.post enc P fn false true false false W args (.bool true) W' := by
  have hb : Below W.heap.size W W' := hm.below (fun _ _ h => h.elim) (Nat.le_refl _)
  have hlt : ∀ p ∈ before, p.block < W.heap.size := fun p hp => hW.lt p hp
  have hW0 := hW
  obtain ⟨p, q, hA, hV, rfl, hfz, _⟩ := hW
  rw [hv] at hV
  obtain ⟨rfl, rfl⟩ := trodVars_none hV
  obtain ⟨h1, h2, h3⟩ := hs ds (trodAll_length hA)
  refine ⟨ds, [], _, [], p, [], hW0, ?_, ?_, ?_, ?_, fun h => by cases h⟩
  · rw [h1, hres]
    exact trodAll_mk1 (shut_bool hB true)
  · rw [h2]
    exact trodAll_below hl hb hr hA (fun x hx => hlt x (by simp [hx]))
  · rw [hv, h3]
    rfl
  · exact World.keptBut_mono (fun x hx => ⟨hx, Or.inr (Or.inl (by simpa using hx))⟩) (hb.frame (· ∈ p ++ []))

end
end Go.Proofs.YtihplijjkcdcjaaGreatDoor

/-
  How a law's arguments read as Lean data: a slice of whatever elements as a list. No law in sight.
-/
namespace Go.Proofs.YtihplijjkcdcjaaGreatDoor
open Go.ChangeShapes Go.WideShapes Go.ChangeAt Go.RowKit Go.Deep

section
variable {H : Type} {enc : TypeId × Value → H} {P : Program} {w : World} {base : Nat} {spare : Nat → Bool} {held : Bool}

end
end Go.Proofs.YtihplijjkcdcjaaGreatDoor

/-
  How a law's arguments read as Lean data, with the form's own reach: the bounds on what is inside a slice or a struct. No law in sight.
-/
namespace Go.Proofs.YtihplijjkcdcjaaGreatDoor
open Go.ChangeShapes Go.WideShapes Go.ChangeAt Go.RowKit Go.Deep

section
variable {H : Type} {enc : TypeId × Value → H} {P : Program} {w : World} {base : Nat} {spare : Nat → Bool} {held : Bool}

/-- all that a datum weighs is within a bound -/
def Within (P : Program) (B : Nat) (t : TypeId) (d : DataW H) : Prop := ∀ m ∈ d.weights P t, m ≤ B

theorem Within.string {B : Nat} {t : TypeId} {bs : List UInt8} (h : Within (H := H) P B t (.lit (.string bs))) : bs.length ≤ B := h _ (by simp [DataW.weights])

theorem Within.text {t : TypeId} {s : ByteArray} (h : Within (H := H) P reachBytes t (.lit (.string s.data.toList))) : s.size ≤ 140737488351232 := by
  have h1 := h.string
  rw [Array.length_toList] at h1
  exact h1

end
end Go.Proofs.YtihplijjkcdcjaaGreatDoor

/-
  A law's arguments, as the evaluator holds them. No law in sight.
-/
namespace Go.Proofs.YtihplijjkcdcjaaGreatDoor
open Go.ChangeShapes Go.WideShapes Go.ChangeAt Go.RowKit Go.Deep
section
variable {P : Program} {W : World}
end
end Go.Proofs.YtihplijjkcdcjaaGreatDoor

/-
  A law's arguments, put into the evaluator's first state one behind the other: each slice has a block of its own (a window on the world's). No law in sight.
-/
namespace Go.Proofs.YtihplijjkcdcjaaGreatDoor.Abs
open Go.ChangeShapes Go.WideShapes Go.ChangeAt Go.RowKit Go.Deep
section
variable {W : World}
/-- what has been put so far -/
structure Put (W : World) (l : List (List Value × TypeId)) (locs : List (Nat × Nat)) : Prop where
  len : locs.length = l.length
  ok : ∀ (i : Nat) (a : List Value × TypeId) (p : Nat × Nat), l[i]? = some a → locs[i]? = some p → ∃ c t fr, W.heap[p.1]? = some (.cells c t fr) ∧ ∀ (j : Nat) (v : Value), a.1[j]? = some v → ∃ v', c[p.2 + j]? = some v' ∧ VRel (phiArgs locs) v v'
theorem Put.nil : Put W [] [] := ⟨rfl, fun i a p h => by simp at h⟩
theorem phiArgs_le (locs more : List (Nat × Nat)) : (phiArgs locs).le (phiArgs (locs ++ more)) := fun b L h => by
  unfold phiArgs at h ⊢
  split
  · rename_i hb
    rw [if_pos hb] at h
    exact h
  · rename_i hb
    rw [if_neg hb] at h
    obtain ⟨p, h1, h2⟩ := Option.map_eq_some_iff.1 h
    rw [List.getElem?_append_left (List.getElem?_eq_some_iff.1 h1).1, h1]
    exact congrArg some h2
theorem stArgs_le {tabs : List (Nat × List Value × TypeId)} (ht : ∀ t ∈ tabs, t.1 < 4096) (l more : List (List Value × TypeId)) : ∀ b x, (stArgs tabs l).heap.get b = some x → (stArgs tabs (l ++ more)).heap.get b = some x := fun b x h => by
  rcases stArgs_get ht h with ⟨h0, h1⟩ | ⟨i, a, rfl, h1, rfl⟩
  · rw [stArgs_old h0, h1]
  · exact stArgs_arg (by rw [List.getElem?_append_left (List.getElem?_eq_some_iff.1 h1).1, h1])
/-- on from one state of things to the next -/
structure On (l : List (List Value × TypeId)) (locs : List (Nat × Nat)) (l' : List (List Value × TypeId)) (locs' : List (Nat × Nat)) : Prop where
  l : ∃ m, l' = l ++ m
  locs : ∃ m, locs' = locs ++ m
theorem On.refl (l : List (List Value × TypeId)) (locs : List (Nat × Nat)) : On l locs l locs := ⟨⟨[], (List.append_nil _).symm⟩, ⟨[], (List.append_nil _).symm⟩⟩
theorem On.trans {l l' l'' : List (List Value × TypeId)} {q q' q'' : List (Nat × Nat)} (h : On l q l' q') (k : On l' q' l'' q'') : On l q l'' q'' := by
  obtain ⟨m, rfl⟩ := h.l
  obtain ⟨m', rfl⟩ := k.l
  obtain ⟨n, rfl⟩ := h.locs
  obtain ⟨n', rfl⟩ := k.locs
  exact ⟨⟨m ++ m', List.append_assoc _ _ _⟩, ⟨n ++ n', List.append_assoc _ _ _⟩⟩
theorem On.le {l l' : List (List Value × TypeId)} {q q' : List (Nat × Nat)} (h : On l q l' q') : (phiArgs q).le (phiArgs q') := by
  obtain ⟨n, rfl⟩ := h.locs
  exact phiArgs_le _ _
theorem On.old {l l' : List (List Value × TypeId)} {q q' : List (Nat × Nat)} (h : On l q l' q') {tabs : List (Nat × List Value × TypeId)} (ht : ∀ t ∈ tabs, t.1 < 4096) : ∀ b x, (stArgs tabs l).heap.get b = some x → (stArgs tabs l').heap.get b = some x := by
  obtain ⟨n, rfl⟩ := h.l
  exact stArgs_le ht _ _
end
end Go.Proofs.YtihplijjkcdcjaaGreatDoor.Abs

