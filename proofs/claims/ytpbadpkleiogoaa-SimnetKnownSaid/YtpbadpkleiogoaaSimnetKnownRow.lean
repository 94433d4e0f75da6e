/-
  Over the given program, the statement SimnetKnown holds: for every input that the row speaks of, the law returns true and leaves its arguments as they were. No condition beyond the given row's own.
-/
import Derived.Test.YtpbadpkleiogoaaRows
import Derived.Test.YtpbadpkleiogoaaNetLaw
import Derived.Test.YtpbadpkleiogoaaRead
namespace Go.Proofs.Ytpbadpkleiogoaa.simnetKnown
open Go.ChangeShapes Go.WideShapes Go.ChangeAt Go.RowKit

theorem own : ownKnob Try.prog.godebug = none := by kernel_rfl
theorem laidOut : laidOutB Try.prog = true := by kernel_rfl

set_option maxRecDepth 100000 in
set_option linter.unusedVariables false in
theorem lifted (os : Os) (started : os.Started) (H : Type) (enc : TypeId × Value → H) :
    ReturnsInHanded {} Try.checked os 8 .any (Rows.simnetKnownSpec.pre6 enc Try.prog Try.f8 Rows.simnetKnownRow.domain false) (Rows.simnetKnownSpec.post enc Try.prog Try.f8 false true false false) := by
  refine law_lifted (C := Try.checked) own started (by kernel_rfl) Try.func8
    (ChangeSpec.witness6 (enc := enc) (C := Try.checked) false ⟨#[], #[], []⟩ 8 (by kernel_rfl) (by kernel_rfl) (by kernel_rfl) (by kernel_rfl))
    laidOut (by decide +kernel) rfl (by kernel_rfl) Try.underlying4 ?_ ?_
  · intro ds hl
    rw [Try.params8] at hl
    obtain rfl := len0 hl
    exact ⟨rfl, rfl, rfl⟩
  intro W base args ds p hval hA _ hz
  rw [Try.params8] at hA hval hz
  obtain ⟨rfl, _, _⟩ := trodAll_none hA
  exact nknown_any W

theorem over : Rows.simnetKnownRow.holds Try.pinned (OpenSpec.ofChange Rows.simnetKnownSpec) :=
  OpenClaim.holds_of_wide 8 Try.f8 rfl rfl rfl rfl rfl rfl rfl ⟨rfl, rfl, rfl, rfl, rfl⟩ rfl rfl rfl rfl rfl (by kernel_rfl) Try.func8 (by kernel_rfl)
    (of_decide_eq_true (by kernel_rfl)) (by unfold Func.isWrapper; first | (rw [if_pos (by decide +kernel)]; kernel_rfl) | (rw [if_neg (by decide +kernel)]; exact ⟨rfl, rfl⟩))
    (fun os started H enc _ => lifted os started H enc)

theorem proved : Rows.SimnetKnownSaid := over
end Go.Proofs.Ytpbadpkleiogoaa.simnetKnown
