/-
  All builtins.
-/
import Derived.Test.YtbakhdgiimjnkaaGreatDoorAbsEff9
namespace Go.Proofs.YtbakhdgiimjnkaaGreatDoor.Abs
section
variable {P : Program} {φ : Phi} {st : St} {w : World} {β : Type}

/-- what is done answers, as a step of a region, what the evaluator goes on with -/
def ActN (P : Program) (φ : Phi) (st : St) (w : World) (s : Sem Next) (k : Value → St → Rs β) (r : β) : Prop :=
  ∃ v st' ψ n w', s.run P w = .ok n w' ∧ Post φ st w ψ st' w' ∧ ((∃ v', n = .value v' ∧ VRel ψ v v') ∨ (n = .skip ∧ v = undefV)) ∧ k v st' = .ok r
theorem Act.next {s : Sem Value} {k : Value → St → Rs β} {r : β} (h : Act P φ st w s k r) : ActN P φ st w (do pure (Next.value (← s))) k r := by
  obtain ⟨v, st', ψ, v', w', h1, h2, h3, h4⟩ := h
  exact ⟨v, st', ψ, .value v', w', run_v h1, h2, .inl ⟨v', rfl, h3⟩, h4⟩
theorem ActU.next {s : Sem Unit} {k : Value → St → Rs β} {r : β} (h : ActU P φ st w s k r) : ActN P φ st w (do s; pure Next.skip) k r := by
  obtain ⟨st', ψ, w', h1, h2, h3⟩ := h
  exact ⟨_, st', ψ, .skip, w', by simp [h1], h2, .inr ⟨rfl, rfl⟩, h3⟩

theorem eBuiltin_ok (hS : SRel φ st w) {b : Builtin} {ts : Array TypeId} {ty : TypeId} {cs : Array Bool} {vs : List Value} {args : Array Value} {k : Value → St → Rs β} {r : β} (h : eBuiltin P st b ts vs k = .ok r) (hl : LRel φ vs args.toList) :
    ActN P φ st w (builtin b ts ty cs args) k r := by
  have arg : ∀ (i : Nat) v, vs[i]? = some v → ∃ v', args[i]? = some v' ∧ VRel φ v v' := fun i v hv => by
    obtain ⟨v', h1, h2⟩ := hl.get hv
    exact ⟨v', by simpa using h1, h2⟩
  unfold eBuiltin at h
  split at h
  · split at h <;> first | (cases h; done) | skip
    obtain ⟨s', a1, a2⟩ := arg 0 _ rfl
    obtain ⟨x', b1, b2⟩ := arg 1 _ rfl
    exact (aAppend_ok hS h a1 b1 a2 b2).next
  · split at h <;> first | (cases h; done) | skip
    obtain ⟨s', a1, a2⟩ := arg 0 _ rfl
    obtain ⟨x', b1, b2⟩ := arg 1 _ rfl
    obtain ⟨t, h1, h2⟩ := Rs.bind_ok h
    exact (eCopy_ok hS (Rs.of_ok h1) h2 a1 b1 a2 b2).next
  · split at h <;> first | (cases h; done) | skip
    obtain ⟨s', a1, a2⟩ := arg 0 _ rfl
    obtain ⟨x', b1, b2⟩ := arg 1 _ rfl
    obtain ⟨t, h1, h2⟩ := Rs.bind_ok h
    exact (eDelete_ok hS (Rs.of_ok h1) h2 a1 b1 a2 b2).next
  · split at h <;> first | (cases h; done) | skip
    obtain ⟨s', a1, a2⟩ := arg 0 _ rfl
    obtain ⟨t, h1, h2⟩ := Rs.bind_ok h
    exact (eClear_ok hS (Rs.of_ok h1) h2 a1 a2).next
  · split at h <;> first | (cases h; done) | skip
    obtain ⟨s', a1, a2⟩ := arg 0 _ rfl
    have he : args = #[s'] := by
      apply Array.ext'
      have hlen := hl.1
      have : args.toList[0]? = some s' := by simpa using a1
      revert this hlen
      generalize args.toList = q
      intro x y
      match q, x, y with
      | [z], _, y => cases y; rfl
      | [], _, y => cases y
      | _ :: _ :: _, x, _ => simp at x
    subst he
    exact (eSliceData_ok hS h a2).next
  · split at h <;> first | (cases h; done) | skip
    obtain ⟨s', a1, a2⟩ := arg 0 _ rfl
    obtain ⟨x', b1, b2⟩ := arg 1 _ rfl
    have he : args = #[s', x'] := by
      apply Array.ext'
      have hlen := hl.1
      have e0 : args.toList[0]? = some s' := by simpa using a1
      have e1 : args.toList[1]? = some x' := by simpa using b1
      revert e0 e1 hlen
      generalize args.toList = q
      intro x y z
      match q, x, y, z with
      | [a, b], _, y, z => cases y; cases z; rfl
      | [], _, y, _ => cases y
      | [_], x, _, _ => simp at x
      | _ :: _ :: _ :: _, x, _, _ => simp at x
    subst he
    exact (eString_ok hS h a2 b2).next
  · obtain ⟨v, h1, h2⟩ := Rs.bind_ok h
    obtain ⟨v', h3, h4⟩ := pBuiltin_ok (ty := ty) (w := w) hS.mem h1 hl
    exact ⟨v, st, φ, .value v', w, h3 cs, .refl hS, .inl ⟨v', rfl, h4⟩, h2⟩
end
end Go.Proofs.YtbakhdgiimjnkaaGreatDoor.Abs
