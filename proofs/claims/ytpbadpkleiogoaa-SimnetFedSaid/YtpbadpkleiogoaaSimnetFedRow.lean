/-
  Over the given program, the statement SimnetFed holds: for every input that the row speaks of, the law returns true and leaves its arguments as they were. No condition beyond the given row's own.
-/
import Derived.Test.YtpbadpkleiogoaaRows
import Derived.Test.YtpbadpkleiogoaaNetLaw2
import Derived.Test.YtpbadpkleiogoaaRead
namespace Go.Proofs.Ytpbadpkleiogoaa.simnetFed
open Go.ChangeShapes Go.WideShapes Go.ChangeAt Go.RowKit

theorem own : ownKnob Try.prog.godebug = none := by kernel_rfl
theorem laidOut : laidOutB Try.prog = true := by kernel_rfl
theorem cells_int : Try.prog.cellsOf 3 = 1 := by kernel_rfl
theorem cells_uint64 : Try.prog.cellsOf 29 = 1 := by kernel_rfl

set_option maxRecDepth 100000 in
set_option linter.unusedVariables false in
theorem lifted (os : Os) (started : os.Started) (H : Type) (enc : TypeId × Value → H) :
    ReturnsInHanded {} Try.checked os 11 .any (Rows.simnetFedSpec.pre6 enc Try.prog Try.f11 Rows.simnetFedRow.domain false) (Rows.simnetFedSpec.post enc Try.prog Try.f11 false true false false) := by
  refine law_lifted (C := Try.checked) own started (by kernel_rfl) Try.func11
    (ChangeSpec.witness6 (enc := enc) (C := Try.checked) false ⟨#[], #[.slice none 0 0, .int .i64 0, .int .i64 0], []⟩ 8 (by kernel_rfl) (by kernel_rfl) (by kernel_rfl) (by kernel_rfl))
    laidOut (by decide +kernel) rfl (by kernel_rfl) Try.underlying4 ?_ ?_
  · intro ds hl
    rw [Try.params11] at hl
    obtain ⟨d0, d1, d2, rfl⟩ := len3 hl
    exact ⟨rfl, rfl, rfl⟩
  intro W base args ds p hval hA _ hz
  rw [Try.params11] at hA hval hz
  obtain ⟨v0, vs0, d0, ds0, p0, q0, hargs, rfl, rfl, h0, r0⟩ := trodAll_cons hA
  obtain ⟨v1, vs1, d1, ds1, p1, q1, rfl, rfl, rfl, h1, r1⟩ := trodAll_cons r0
  obtain ⟨v2, vs2, d2, ds2, p2, q2, rfl, rfl, rfl, h2, r2⟩ := trodAll_cons r1
  obtain ⟨rfl, rfl, rfl⟩ := trodAll_nil r2
  obtain rfl : args = #[v0, v1, v2] := by cases args; simp_all
  obtain ⟨A0, len0, cap0, rfl⟩ := okWide_slice Try.underlying58 (hval 0 58 v0 rfl rfl)
  obtain ⟨fuel0, hf0⟩ := h0
  obtain ⟨A0', len0', cap0', l0, hcs0, hl0, hlc0, hcm0, hrd0⟩ := open_slice_rd (R := fun cs z => cs = [Value.int .u64 z] ∧ (Lit.int .u64 z).wf = true) Try.underlying58 cells_uint64 (by omega) (fun n cs y h => by obtain ⟨z, e, _, hz⟩ := DataW.trod_int Try.underlying29 h; exact ⟨z, e, hz⟩) hf0
  simp [Value.cells] at hcs0
  obtain ⟨rfl, rfl, rfl⟩ := hcs0
  have hr0 : IntsAt .u64 W A0 l0 := fun i hi => by
    obtain ⟨b, off, cs, hA, hb, _, hc, rfl, _⟩ := hrd0 i hi
    exact ⟨b, off, hA, hb, by simpa using hc 0 (by omega)⟩
  obtain ⟨a1, rfl, rfl, rfl, w1⟩ := open_int Try.underlying3 (hval 1 3 v1 rfl rfl) h1
  obtain ⟨a2, rfl, rfl, rfl, w2⟩ := open_int Try.underlying3 (hval 2 3 v2 rfl rfl) h2
  exact nfed_all W A0 len0 cap0 l0 hl0 hr0 a1 a2

theorem over : Rows.simnetFedRow.holds Try.pinned (OpenSpec.ofChange Rows.simnetFedSpec) :=
  OpenClaim.holds_of_wide 11 Try.f11 rfl rfl rfl rfl rfl rfl rfl ⟨rfl, rfl, rfl, rfl, rfl⟩ rfl rfl rfl rfl rfl (by kernel_rfl) Try.func11 (by kernel_rfl)
    (of_decide_eq_true (by kernel_rfl)) (by unfold Func.isWrapper; first | (rw [if_pos (by decide +kernel)]; kernel_rfl) | (rw [if_neg (by decide +kernel)]; exact ⟨rfl, rfl⟩))
    (fun os started H enc _ => lifted os started H enc)

theorem proved : Rows.SimnetFedSaid := over
end Go.Proofs.Ytpbadpkleiogoaa.simnetFed
