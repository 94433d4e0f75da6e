/-
  All operations that make one new block.
-/
import Derived.Test.YtbakhdgiimjnkaaGreatDoorAbsNew
namespace Go.Proofs.YtbakhdgiimjnkaaGreatDoor.Abs
section
variable {P : Program} {φ : Phi} {w : World}

theorem Makes.ptr {z z' : Value} {e : TypeId} (hz : VRel φ z z') (s : Sem Value) (hs : s.run P w = (do pure (.pointer (some (← newVar e z'))) : Sem Value).run P w) : Makes P φ w s (.cells (cellsOf z) e 0 false (0, 0)) ptrTo :=
  makes_ptr (c := z'.cells) hz.cells (by rw [hs]; simp [newVar, newRow])

/-- ALL OPERATIONS THAT MAKE ONE NEW BLOCK. -/
theorem aOp_ok {o : Oper} {ρ : Operand → Rs Value} {ρ' : Operand → Value} (hρ : ∀ x v, ρ x = .ok v → VRel φ v (ρ' x)) {x : AObj} {f : Nat → Value} (e : aOp P o.op ρ = .ok (x, f)) :
    ∃ b L v' d, (execOp ρ' o).run P w = .ok (.value v') { w with heap := w.heap.push b, drawn := d } ∧ L.blk = w.heap.size ∧ (∀ ψ : Phi, φ.le ψ → ORel ψ L x b) ∧ ∀ (ψ : Phi) (n : Nat), φ.le ψ → ψ n = some L → VRel ψ (f n) v' := by
  obtain ⟨dst, op, type, pos, after, guard⟩ := o
  have fin : ∀ {s : Sem Value}, Makes P φ w s x f → ∃ b L v' d, (do pure (Next.value (← s)) : Sem Next).run P w = .ok (.value v') { w with heap := w.heap.push b, drawn := d } ∧ L.blk = w.heap.size ∧ (∀ ψ : Phi, φ.le ψ → ORel ψ L x b) ∧ ∀ (ψ : Phi) (n : Nat), φ.le ψ → ψ n = some L → VRel ψ (f n) v' := by
    intro s hs
    obtain ⟨b, L, v', d, h1, h2, h3, h4⟩ := hs
    exact ⟨b, L, v', d, run_v h1, h2, h3, h4⟩
  cases op <;> simp only [aOp] at e <;> first | (cases e; done) | skip
  case alloc t =>
    obtain ⟨z, h1, e1⟩ := Rs.bind_ok e
    cases e1
    obtain ⟨z1, z2⟩ := zeroT_ok h1
    refine fin (Makes.ptr (z2.rel φ) _ ?_)
    unfold Instr.alloc
    simp [z1]
  case box t y =>
    obtain ⟨a, h1, e1⟩ := Rs.bind_ok e
    cases e1
    exact fin (Makes.ptr (hρ _ _ h1) _ rfl)
  case buildSlice t len parts =>
    obtain ⟨ps, h1, e1⟩ := Rs.bind_ok e
    obtain ⟨u, h2, e2⟩ := Rs.bind_ok e1
    split at e2 <;> first | (cases e2; done) | skip
    have hp := pairs_ok hρ h1
    have := aSliceLit_ok (w := w) (undT_ok h2) e2 hp
    have hq : (parts.map fun (i, x) => (i, ρ' x)) = ⟨parts.toList.map fun p => (p.1, ρ' p.2)⟩ := by
      apply Array.ext'
      simp
    refine fin ?_
    rw [hq]
    exact this
  case makeMap t r =>
    have key : (Instr.makeMap t (r.map ρ')).run P w = .ok (.map (some w.heap.size)) { w with heap := w.heap.push (.map #[] 0) } ∧ x = .map [] 0 ∧ f = fun n => .map (some n) := by
      unfold aMakeMap at e
      cases r with
      | none =>
        cases e
        exact ⟨rfl, rfl, rfl⟩
      | some y =>
        simp only at e
        obtain ⟨a, h1, e1⟩ := Rs.bind_ok e
        split at e1 <;> first | (cases e1; done) | skip
        obtain ⟨u, h2, e2⟩ := Rs.bind_ok e1
        split at e2 <;> first | (cases e2; done) | skip
        cases e2
        have hv := hρ _ _ h1
        refine ⟨?_, rfl, rfl⟩
        unfold Instr.makeMap
        simp only [Option.map_some]
        generalize ρ' y = z at hv
        cases hv
        simp [run_underlying (undT_ok h2), asInt, asIntOf]
    obtain ⟨k1, rfl, rfl⟩ := key
    exact fin ⟨.map #[] 0, ⟨w.heap.size, 0, 0, 0⟩, _, w.drawn, k1, rfl, fun ψ _ => .map rfl (fun i e f a => by simp at a), fun ψ n _ hn => .map hn⟩
  case makeSlice t l c =>
    obtain ⟨a, h1, e1⟩ := Rs.bind_ok e
    obtain ⟨b, h2, e2⟩ := Rs.bind_ok e1
    obtain ⟨u, h3, e3⟩ := Rs.bind_ok e2
    split at e3 <;> first | (cases e3; done) | skip
    have hl := hρ _ _ h1
    have hc := hρ _ _ h2
    refine fin ?_
    generalize ρ' l = y at hl
    generalize ρ' c = z at hc
    cases hl
    cases hc
    exact aMakeSlice_ok (undT_ok h3) e3
  case convert s d y =>
    obtain ⟨a, h1, e1⟩ := Rs.bind_ok e
    obtain ⟨us, h2, e2⟩ := Rs.bind_ok e1
    obtain ⟨ud, h3, e3⟩ := Rs.bind_ok e2
    exact fin (aBytes_ok (undT_ok h2) (undT_ok h3) e3 (hρ _ _ h1))
end
end Go.Proofs.YtbakhdgiimjnkaaGreatDoor.Abs
