/-
  A CALL, by the evaluator's answer.
-/
import Derived.Test.YtbakhdgiimjnkaaGreatDoorAbsReg8
namespace Go.Proofs.YtbakhdgiimjnkaaGreatDoor.Abs
section
set_option linter.unusedVariables false
variable {P : Program} {φ : Phi} {w : World}

def Sm0 : Summ := fun _ => none
theorem smOk_none : SmOk P Sm0 := fun f g h => by cases h

theorem calls_ok {Sm : Summ} (hmix : P.follows .mixedOrders = true) (hSm : SmOk P Sm) (hNum : NumOk P) {n : Nat} {f : FuncId} {fn : Func} {c : Code} {args : List Value} {as : Array Value} {st : St} {r : Ans} (hf : P.funcs[f]? = some fn) (hb : fn.body = some c) (hs : Sm f = none)
    (h : run P Sm n (.inv (.fn (.func f) #[]) args st) = .ok r) (hS : SRel φ st w) (hl : LRel φ args as.toList) :
    ∃ v s', r = .val v s' ∧ Calls P f as w fun e w' => ∃ ψ v', e = .returned v' ∧ VRel ψ v v' ∧ Post φ st w ψ s' w' := by
  cases n with
  | zero => cases h
  | succ n =>
    have h' : onInv P Sm (run P Sm n) (.fn (.func f) #[]) args st = .ok r := h
    unfold onInv at h'
    simp only [hs] at h'
    rw [hf] at h'
    have h2 : onFunc P (run P Sm n) f fn (args ++ (#[] : Array Value).toList) st = .ok r := h'
    unfold onFunc at h2
    simp only [hb] at h2
    have hall := run_ok hmix hSm hNum n
    have hl' : LRel φ (args ++ (#[] : Array Value).toList) as.toList := by simpa using hl
    obtain ⟨v, s', ψ, v', w', h3, h4, h5, h6⟩ := body_leave hall.code hall.dfr hf hb h2 hS hl' .normal
    refine ⟨v, s', h3, fun cs => ?_⟩
    obtain ⟨fr, q1, q2, q3, q4, q5, q6⟩ := h6 cs
    exact ⟨.returned v', w', fr, ⟨ψ, v', rfl, h5, h4⟩, q1, q2, q4, q5, q3, fn, by rw [q2]; exact hf, q6⟩

/-- the first state: no block is known -/
def stNil : St := ⟨.nil, 4096⟩
def phiNil : Phi := fun g => if g < 4096 then some ⟨g, 0, 0, 0⟩ else none
theorem srel_nil (w : World) : SRel phiNil stNil w :=
  ⟨⟨fun b c x y L M h => (by cases h), fun b x h => by cases h⟩, fun b hb => by
    have : ¬ b < 4096 := Nat.not_lt.2 hb
    simp [phiNil, this], fun g hg => by simp [phiNil, hg]⟩
/-- a closed run that says true -/
def saysTrue (r : Rs Ans) : Bool :=
  match r with
  | .ok (.val (.bool true) _) => true
  | _ => false

/-- A CLOSED CALL THAT SAYS TRUE: it returns true; nothing that was there has turned. -/
theorem true_of_run {Sm : Summ} (hmix : P.follows .mixedOrders = true) (hSm : SmOk P Sm) (hNum : NumOk P) {n : Nat} {f : FuncId} {fn : Func} {c : Code} (hf : P.funcs[f]? = some fn) (hb : fn.body = some c) (hs : Sm f = none)
    (h : saysTrue (run P Sm n (.inv (.fn (.func f) #[]) [] stNil)) = true) (W : World) :
    Calls P f #[] W fun e w' => e = .returned (.bool true) ∧ W.heap.size ≤ w'.heap.size ∧ w'.os = W.os ∧ w'.tape = W.tape ∧ w'.output = W.output ∧ ∀ k, k < W.heap.size → w'.heap[k]? = W.heap[k]? := by
  unfold saysTrue at h
  split at h <;> first | (cases h; done) | skip
  rename_i s hr
  obtain ⟨v, s', h1, h2⟩ := calls_ok hmix hSm hNum hf hb hs hr (srel_nil W) (as := #[]) (.nil phiNil)
  cases h1
  refine h2.mono fun e w' hx => ?_
  obtain ⟨ψ, v', h3, h4, h5⟩ := hx
  cases h4
  exact ⟨h3, h5.fr.size, h5.fr.os, h5.fr.tape, h5.fr.output, fun k hk => (h5.fr.rest k hk fun b x L hb => by cases hb).1⟩
end
end Go.Proofs.YtbakhdgiimjnkaaGreatDoor.Abs
