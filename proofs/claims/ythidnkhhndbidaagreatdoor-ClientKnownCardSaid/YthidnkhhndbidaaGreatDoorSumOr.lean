/-
  The evaluator's summaries: one or the other. A definition.
-/
import Derived.Test.YthidnkhhndbidaaGreatDoorSumDef
namespace Go.Proofs.YthidnkhhndbidaaGreatDoor.Abs
noncomputable def orSum (f g : List Value → St → Rs (Value × St)) (args : List Value) (s : St) : Rs (Value × St) := Rs.rec (fun r => .ok r) (fun _ _ => g args s) (f args s)
theorem orSum_ok {f g : List Value → St → Rs (Value × St)} {args : List Value} {s : St} {r : Value × St} (h : orSum f g args s = .ok r) : f args s = .ok r ∨ g args s = .ok r := by
  unfold orSum at h
  cases hf : f args s with
  | ok a => rw [hf] at h; exact .inl h
  | no c m => rw [hf] at h; exact .inr h
end Go.Proofs.YthidnkhhndbidaaGreatDoor.Abs
