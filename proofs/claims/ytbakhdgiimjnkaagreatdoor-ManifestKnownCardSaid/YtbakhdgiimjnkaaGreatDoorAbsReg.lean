/-
  What an operation depends on.
-/
import Derived.Test.YtbakhdgiimjnkaaGreatDoorAbsCtl6
namespace Go.Proofs.YtbakhdgiimjnkaaGreatDoor.Abs
section
set_option linter.unusedVariables false
variable {P : Program}

theorem mapR_congr {α β : Type} {f g : α → Rs β} : ∀ {l : List α}, (∀ x ∈ l, f x = g x) → mapR f l = mapR g l
  | [], _ => rfl
  | x :: l, h => by
    have h1 : mapR f (x :: l) = (f x).bind fun v => (mapR f l).bind fun vs => .ok (v :: vs) := rfl
    have h2 : mapR g (x :: l) = (g x).bind fun v => (mapR g l).bind fun vs => .ok (v :: vs) := rfl
    rw [h1, h2, h x List.mem_cons_self, mapR_congr fun y hy => h y (List.mem_cons_of_mem _ hy)]

theorem pOp_congr {h : Tr AObj} {op : Op} {ρ σ : Operand → Rs Value} (hr : ∀ x ∈ op.operands, ρ x = σ x) : pOp P h op ρ = pOp P h op σ := by
  cases op <;> simp only [Op.operands] at hr <;> simp only [pOp]
  case move x => exact hr x (by simp)
  case assign x => exact hr x (by simp)
  case pick c a b =>
    rw [hr c (by simp)]
    congr 1
    funext v
    unfold pPick
    split
    · exact hr a (by simp)
    · exact hr b (by simp)
    · rfl
  case build t ps =>
    unfold pBuild
    rw [mapR_congr (l := ps.toList) fun p hp => by rw [hr p.2 (by simp; exact ⟨p.1, by simpa using hp⟩)]]
  case makeFunc fn f c =>
    unfold pFunc
    rw [mapR_congr (l := f.toList) fun x hx => hr x (by simp at hx ⊢; exact .inl hx), mapR_congr (l := c.toList) fun x hx => hr x (by simp at hx ⊢; exact .inr hx)]
  case slice t x lo hi mx =>
    unfold pSlice
    rw [hr x (by simp), mapR_congr (l := lo.toList) fun y hy => hr y (by simp at hy ⊢; simp [hy]), mapR_congr (l := hi.toList) fun y hy => hr y (by simp at hy ⊢; simp [hy]), mapR_congr (l := mx.toList) fun y hy => hr y (by simp at hy ⊢; simp [hy])]
  case call c =>
    unfold pCall
    split
    · rw [mapR_congr (l := c.args.toList) fun x hx => hr x (by simp at hx; simp [Call.operands, hx])]
    · rfl
  all_goals (first | rfl | (simp_all; done))

theorem aOp_congr {op : Op} {ρ σ : Operand → Rs Value} (hr : ∀ x ∈ op.operands, ρ x = σ x) : aOp P op ρ = aOp P op σ := by
  cases op <;> simp only [Op.operands] at hr <;> simp only [aOp]
  case buildSlice t n ps =>
    rw [mapR_congr (l := ps.toList) fun p hp => by rw [hr p.2 (by simp; exact ⟨p.1, by simpa using hp⟩)]]
  case makeMap t r =>
    unfold aMakeMap
    cases r with
    | none => rfl
    | some x => simp only; rw [hr x (by simp)]
  all_goals (first | rfl | (simp_all; done))

theorem doOp_congr {ih : Rq → Rs Ans} {rd : Option Nat} {o : Oper} {ρ σ : Operand → Rs Value} {s : St} {k : Kn} (hr : ∀ x ∈ o.op.operands, ρ x = σ x) : doOp P ih rd o ρ s k = doOp P ih rd o σ s k := by
  have ha : aOp P o.op ρ = aOp P o.op σ := aOp_congr hr
  have hp : pOp P s.heap o.op ρ = pOp P s.heap o.op σ := pOp_congr hr
  unfold doOp
  cases hop : o.op <;> rw [hop] at hr ha hp <;> simp only [Op.operands] at hr <;> simp only [ha, hp]
  case convert t d x => rw [hr x (by simp)]
  case store t p x => rw [hr p (by simp), hr x (by simp)]
  case mapUpdate t m q x => rw [hr m (by simp), hr q (by simp), hr x (by simp)]
  case insert t m q x => rw [hr m (by simp), hr q (by simp), hr x (by simp)]
  case range t x => rw [hr x (by simp)]
  case next it b => rw [hr it (by simp)]
  case entry it => rw [hr it (by simp)]
  case mapEntry t m q => rw [hr m (by simp), hr q (by simp)]
  case entryStore t m b x => rw [hr m (by simp), hr b (by simp), hr x (by simp)]
  case call c =>
    have hargs := mapR_congr (l := c.args.toList) (f := ρ) (g := σ) fun x hx => hr x (by simp at hx; simp [Call.operands, hx])
    unfold goCall
    cases hc : c.callee with
    | value f => simp only; rw [hr f (by simp [Call.operands, hc]), hargs]
    | builtin b => simp only; rw [hargs]
    | invoke r m => rfl
  case defer c =>
    have hargs := mapR_congr (l := c.args.toList) (f := ρ) (g := σ) fun x hx => hr x (by simp at hx; simp [Call.operands, hx])
    unfold goDefer
    split
    · rename_i f hc
      rw [hr f (by simp [Call.operands, hc]), hargs]
    · rfl

/-- an operation of the first class asks for no memory -/
theorem pOp_heap {op : Op} {ρ : Operand → Rs Value} (hc : clsOf P op = .p) (h h' : Tr AObj) {v : Value} (e : pOp P h op ρ = .ok v) : pOp P h' op ρ = .ok v := by
  unfold clsOf at hc
  split at hc
  · cases hc
  rename_i hnew
  split at hc <;> first | (cases hc; done) | skip
  · split at hc <;> cases hc
  · rename_i bo t x y u
    simp only [pOp] at e ⊢
    obtain ⟨a, h1, e1⟩ := Rs.bind_ok e
    obtain ⟨b, h2, e2⟩ := Rs.bind_ok e1
    rw [h1]
    show (ρ y).bind (aBin P h' bo t (isC x || isC y) a) = .ok v
    rw [h2]
    show aBin P h' bo t (isC x || isC y) a b = .ok v
    unfold aBin at e2 ⊢
    split at e2
    · exact e2
    · exact e2
    · unfold aBinEq at e2 ⊢
      split at hc
      · cases hc
      · cases hc
      · rename_i n1 n2
        split at e2
        · exact absurd rfl n1
        · exact absurd rfl n2
        · cases e2
  · rename_i b as ts
    simp only [pOp, pCall] at e ⊢
    obtain ⟨vs, h1, e1⟩ := Rs.bind_ok e
    rw [h1]
    show pBuiltin P h' b _ vs = .ok v
    unfold pBuiltin at e1 ⊢
    split at e1 <;> first | (cases e1; done) | skip
    rename_i x r
    split at e1
    · exact e1
    · exact e1
    · rename_i n1 n2
      split at e1 <;> first | (cases e1; done) | skip
      unfold pBuiltin1 at e1 ⊢
      obtain ⟨t, h2, e2⟩ := Rs.bind_ok e1
      obtain ⟨u, h3, e3⟩ := Rs.bind_ok e2
      rw [h2]
      show (undT P t).bind _ = .ok v
      rw [h3]
      have h2 := Rs.of_ok h2
      have h3 := undT_ok h3
      have bo : ∀ (f : TypeDesc → Rs Value), (Rs.ok u).bind f = f u := fun _ => rfl
      rw [bo]
      cases b <;> simp only at e3 ⊢ <;> first | (cases e3; done) | exact e3 | skip
      simp only [h2, Option.bind_some, h3] at hc
      unfold pLen2 at e3 ⊢
      cases x <;> simp only at e3 ⊢ <;> first | exact e3 | skip
      split at e3
      · cases hc
      · cases e3
  all_goals (simp only [pOp] at e ⊢; exact e)

/-- an operation of the first two classes is carried out as what changes nothing -/
theorem doOp_plain {ih : Rq → Rs Ans} {rd : Option Nat} {o : Oper} {ρ : Operand → Rs Value} {s : St} {k : Kn} {r : Ans} (hc : clsOf P o.op = .p ∨ clsOf P o.op = .r) (e : doOp P ih rd o ρ s k = .ok r) : ∃ v, pOp P s.heap o.op ρ = .ok v ∧ k v [] s = .ok r := by
  have go : goOn o s k (pOp P s.heap o.op ρ) = .ok r → ∃ v, pOp P s.heap o.op ρ = .ok v ∧ k v [] s = .ok r := by
    intro e
    unfold goOn at e
    obtain ⟨v, h1, h2⟩ := Rs.bind_ok e
    refine ⟨v, ?_, h2⟩
    unfold sayV at h1
    split at h1 <;> first | (cases h1; done) | exact h1
  unfold doOp at e
  cases hop : o.op <;> rw [hop] at hc e <;> simp only at e <;> first | (rw [hop] at go; exact go e) | skip
  case call c =>
    unfold goCall at e
    cases hcal : c.callee with
    | value f => rw [hcal] at e; obtain ⟨cal, as, ats⟩ := c; subst hcal; simp [clsOf, isNew] at hc
    | invoke f m => rw [hcal] at e; cases e
    | builtin b =>
      rw [hcal] at e
      obtain ⟨vs, h1, h2⟩ := Rs.bind_ok e
      have hb : b = .len ∨ b = .cap ∨ b = .min ∨ b = .max := by
        obtain ⟨cal, as, ats⟩ := c
        subst hcal
        cases b <;> simp [clsOf, isNew] at hc <;> simp
      have h3 : (pBuiltin P s.heap b c.argTypes vs).bind (fun v => goOn2 k v s) = .ok r := by
        rcases hb with rfl | rfl | rfl | rfl <;> exact h2
      obtain ⟨v, h4, h5⟩ := Rs.bind_ok h3
      refine ⟨v, ?_, h5⟩
      simp only [pOp, pCall, hcal]
      rw [h1]
      exact h4
  case convert t d x =>
    cases hcv : cvOf P t d <;> simp only [hcv] at e
    · simp [clsOf, isNew, hcv] at hc
    · simp [clsOf, isNew, hcv] at hc
    · rw [hop] at go; exact go e
  all_goals (simp [clsOf, isNew] at hc)
end
end Go.Proofs.YtbakhdgiimjnkaaGreatDoor.Abs
