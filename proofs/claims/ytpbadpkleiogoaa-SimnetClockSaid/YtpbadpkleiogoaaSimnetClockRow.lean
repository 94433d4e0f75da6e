/-
  Over the given program, the statement SimnetClock holds: for every input that the row speaks of, the law returns true and leaves its arguments as they were. No condition beyond the given row's own.
-/
import Derived.Test.YtpbadpkleiogoaaRows
import Derived.Test.YtpbadpkleiogoaaNetLaw2
import Derived.Test.YtpbadpkleiogoaaRead
namespace Go.Proofs.Ytpbadpkleiogoaa.simnetClock
open Go.ChangeShapes Go.WideShapes Go.ChangeAt Go.RowKit

theorem own : ownKnob Try.prog.godebug = none := by kernel_rfl
theorem laidOut : laidOutB Try.prog = true := by kernel_rfl
theorem cells_int64 : Try.prog.cellsOf 2 = 1 := by kernel_rfl

set_option maxRecDepth 100000 in
set_option linter.unusedVariables false in
theorem lifted (os : Os) (started : os.Started) (H : Type) (enc : TypeId × Value → H) :
    ReturnsInHanded {} Try.checked os 12 .any (Rows.simnetClockSpec.pre6 enc Try.prog Try.f12 Rows.simnetClockRow.domain false) (Rows.simnetClockSpec.post enc Try.prog Try.f12 false true false false) := by
  refine law_lifted (C := Try.checked) own started (by kernel_rfl) Try.func12
    (ChangeSpec.witness6 (enc := enc) (C := Try.checked) false ⟨#[], #[.slice none 0 0], []⟩ 8 (by kernel_rfl) (by kernel_rfl) (by kernel_rfl) (by kernel_rfl))
    laidOut (by decide +kernel) rfl (by kernel_rfl) Try.underlying4 ?_ ?_
  · intro ds hl
    rw [Try.params12] at hl
    obtain ⟨d0, rfl⟩ := len1 hl
    exact ⟨rfl, rfl, rfl⟩
  intro W base args ds p hval hA _ hz
  rw [Try.params12] at hA hval hz
  obtain ⟨v0, vs0, d0, ds0, p0, q0, hargs, rfl, rfl, h0, r0⟩ := trodAll_cons hA
  obtain ⟨rfl, rfl, rfl⟩ := trodAll_nil r0
  obtain rfl : args = #[v0] := by cases args; simp_all
  obtain ⟨A0, len0, cap0, rfl⟩ := okWide_slice Try.underlying79 (hval 0 79 v0 rfl rfl)
  obtain ⟨fuel0, hf0⟩ := h0
  obtain ⟨A0', len0', cap0', l0, hcs0, hl0, hlc0, hcm0, hrd0⟩ := open_slice_rd (R := fun cs z => cs = [Value.int .i64 z] ∧ (Lit.int .i64 z).wf = true) Try.underlying79 cells_int64 (by omega) (fun n cs y h => by obtain ⟨z, e, _, hz⟩ := DataW.trod_int Try.underlying2 h; exact ⟨z, e, hz⟩) hf0
  simp [Value.cells] at hcs0
  obtain ⟨rfl, rfl, rfl⟩ := hcs0
  have hr0 : IntsAt .i64 W A0 l0 := fun i hi => by
    obtain ⟨b, off, cs, hA, hb, _, hc, rfl, _⟩ := hrd0 i hi
    exact ⟨b, off, hA, hb, by simpa using hc 0 (by omega)⟩
  exact nclock_any W A0 len0 cap0 l0 hl0 (by unfold maxLen at hcm0; omega) hr0

theorem over : Rows.simnetClockRow.holds Try.pinned (OpenSpec.ofChange Rows.simnetClockSpec) :=
  OpenClaim.holds_of_wide 12 Try.f12 rfl rfl rfl rfl rfl rfl rfl ⟨rfl, rfl, rfl, rfl, rfl⟩ rfl rfl rfl rfl rfl (by kernel_rfl) Try.func12 (by kernel_rfl)
    (of_decide_eq_true (by kernel_rfl)) (by unfold Func.isWrapper; first | (rw [if_pos (by decide +kernel)]; kernel_rfl) | (rw [if_neg (by decide +kernel)]; exact ⟨rfl, rfl⟩))
    (fun os started H enc _ => lifted os started H enc)

theorem proved : Rows.SimnetClockSaid := over
end Go.Proofs.Ytpbadpkleiogoaa.simnetClock
