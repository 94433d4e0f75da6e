/-
  A slice of rows is put where no table of constants lies: as XArgsPut's put_rows, but an empty slice's cells are not spoken of. No law in sight.
-/
import Derived.Test.YtpbadpkleiogoaaArA
set_option linter.unusedVariables false
set_option linter.unusedSimpArgs false
namespace Go.Proofs.Ytpbadpkleiogoaa.Abs
open Go.ChangeShapes Go.WideShapes Go.ChangeAt Go.RowKit Go.Deep
section
variable {W : World}
theorem put_slice0 {tabs : List (Nat × List Value × TypeId)} {l : List (List Value × TypeId)} {q : List (Nat × Nat)} (hP : Put W l q) {A : Option Addr} {n c sz : Nat} (hA : SliceOk W A n c) {cs : List Value} (hlen : cs.length = n * sz)
    (hc : ∀ b off, A = some ⟨b, off, none⟩ → ∀ (j : Nat) (v : Value), cs[j]? = some v → ∃ v', W.cell? ⟨b, off + j, none⟩ = some v' ∧ VRel (phiArgs q) v v') (e : TypeId) :
    ∃ l' q' sv, On l q l' q' ∧ Put W l' q' ∧ VRel (phiArgs q') sv (.slice A n c) ∧ (∃ a c', sv = .slice a n c') ∧ (0 < n → srcCells (stArgs tabs l').heap sz sv = .ok (n, cs)) := by
  obtain ⟨h0, hs⟩ := hA
  cases A with
  | none =>
    obtain ⟨rfl, rfl⟩ := h0 rfl
    exact ⟨l, q, .slice none 0 0, .refl _ _, hP, .nilSlice, ⟨_, _, rfl⟩, fun h => absurd h (Nat.lt_irrefl _)⟩
  | some a =>
    rcases hs a rfl with ⟨rfl, rfl⟩ | ⟨b, off, rfl, ⟨ws, u, fr, hb⟩, hnc, hcm⟩
    · have hφ : phiArgs q 0 = some ⟨0, 0, 0, 0⟩ := by unfold phiArgs; rw [if_pos (by decide)]
      exact ⟨l, q, .slice (some ⟨0, 0, none⟩) 0 open_, .refl _ _, hP, .full a hφ rfl, ⟨_, _, rfl⟩, fun h => absurd h (Nat.lt_irrefl _)⟩
    have hle := phiArgs_le q [(b, off)]
    have hl1 : (l ++ [(cs, e)])[l.length]? = some (cs, e) := by simp
    have hq1 : (q ++ [(b, off)])[l.length]? = some (b, off) := by rw [← hP.len]; simp
    refine ⟨l ++ [(cs, e)], q ++ [(b, off)], .slice (some ⟨4096 + l.length, 0, none⟩) n c, ⟨⟨_, rfl⟩, ⟨_, rfl⟩⟩, ⟨by simp [hP.len], fun i x p h1 h2 => ?_⟩, ?_, ⟨_, _, rfl⟩, fun _ => ?_⟩
    · by_cases hi : i < l.length
      · rw [List.getElem?_append_left hi] at h1
        rw [List.getElem?_append_left (by rw [hP.len]; exact hi)] at h2
        obtain ⟨c', t', fr', h3, h4⟩ := hP.ok i x p h1 h2
        refine ⟨c', t', fr', h3, fun j v hv => ?_⟩
        obtain ⟨v', h5, h6⟩ := h4 j v hv
        exact ⟨v', h5, h6.mono hle⟩
      · have hil : i = l.length := by
          have := (List.getElem?_eq_some_iff.1 h1).1
          rw [List.length_append, List.length_singleton] at this
          omega
        subst hil
        rw [hl1] at h1
        rw [hq1] at h2
        cases h1
        cases h2
        refine ⟨ws, u, fr, hb, fun j v hv => ?_⟩
        obtain ⟨v', h5, h6⟩ := hc b off rfl j v hv
        rw [cells_at hb] at h5
        exact ⟨v', h5, h6.mono hle⟩
    · have h := VRel.slice (φ := phiArgs (q ++ [(b, off)])) (b := 4096 + l.length) (n := n) (c := c) (L := ⟨b, off, 0, 0⟩) 0 (phiArgs_at hq1) (by unfold open_; omega) hnc
      exact h
    · exact src_const (stArgs_arg hl1) hlen
theorem put_rows0 {tabs : List (Nat × List Value × TypeId)} {l : List (List Value × TypeId)} {q : List (Nat × Nat)} (hP : Put W l q) {A : Option Addr} {n c sz : Nat} (hA : SliceOk W A n c) (hpos : 0 < sz)
    {α : Type} {R : List Value → α → Prop} {xs : List α} (hn : xs.length = n) (hr : SliceRd W sz R A xs) {rows : List (List Value)} (hl : rows.length = n) (hrow : ∀ r ∈ rows, r.length = sz)
    (hrel : ∀ (i : Nat) (h : i < xs.length) (h' : i < rows.length) (cs' : List Value), R cs' xs[i] → ∀ (k : Nat) (v : Value), rows[i][k]? = some v → ∃ v', cs'[k]? = some v' ∧ VRel (phiArgs q) v v') (e : TypeId) :
    ∃ l' q' sv, On l q l' q' ∧ Put W l' q' ∧ VRel (phiArgs q') sv (.slice A n c) ∧ (∃ a c', sv = .slice a n c') ∧ (0 < n → srcCells (stArgs tabs l').heap sz sv = .ok (n, rows.flatten)) := by
  refine put_slice0 hP hA (by rw [flat_len rows hrow, hl]) (fun b off hA j v hv => ?_) e
  rw [flat_get hpos rows hrow] at hv
  obtain ⟨r, h1, h2⟩ := Option.bind_eq_some_iff.1 hv
  obtain ⟨hi, rfl⟩ := List.getElem?_eq_some_iff.1 h1
  obtain ⟨b', off', cs', e', _, _, hcell, hR⟩ := hr (j / sz) (by omega)
  rw [hA] at e'
  cases e'
  obtain ⟨v', h3, h4⟩ := hrel (j / sz) (by omega) hi cs' hR (j % sz) v h2
  have := hcell (j % sz) (Nat.mod_lt _ hpos)
  rw [h3, Nat.add_assoc, Nat.div_add_mod'] at this
  exact ⟨v', this, h4⟩
end
end Go.Proofs.Ytpbadpkleiogoaa.Abs
