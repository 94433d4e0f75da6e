/-
  Over the given program, the statement SimnetOnce holds: for every input that the row speaks of, the law returns true and leaves its arguments as they were. No condition beyond the given row's own.
-/
import Derived.Test.YtpbadpkleiogoaaRows
import Derived.Test.YtpbadpkleiogoaaOnceWalk
import Derived.Test.YtpbadpkleiogoaaReadW
namespace Go.Proofs.Ytpbadpkleiogoaa.simnetOnce
open Go.ChangeShapes Go.WideShapes Go.ChangeAt Go.RowKit

theorem own : ownKnob Try.prog.godebug = none := by kernel_rfl
theorem laidOut : laidOutB Try.prog = true := by kernel_rfl
theorem cells_int : Try.prog.cellsOf 3 = 1 := by kernel_rfl
theorem cells_string : Try.prog.cellsOf 9 = 1 := by kernel_rfl

set_option maxRecDepth 100000 in
set_option linter.unusedVariables false in
theorem lifted (os : Os) (started : os.Started) (H : Type) (enc : TypeId × Value → H) :
    ReturnsInHanded {} Try.checked os 10 .any (Rows.simnetOnceSpec.pre6 enc Try.prog Try.f10 Rows.simnetOnceRow.domain false) (Rows.simnetOnceSpec.post enc Try.prog Try.f10 false true false false) := by
  refine law_lifted (C := Try.checked) own started (by kernel_rfl) Try.func10
    (ChangeSpec.witness6 (enc := enc) (C := Try.checked) false ⟨#[], #[.slice none 0 0, .slice none 0 0], []⟩ 8 (by kernel_rfl) (by kernel_rfl) (by kernel_rfl) (by kernel_rfl))
    laidOut (by decide +kernel) rfl (by kernel_rfl) Try.underlying4 ?_ ?_
  · intro ds hl
    rw [Try.params10] at hl
    obtain ⟨d0, d1, rfl⟩ := len2 hl
    exact ⟨rfl, rfl, rfl⟩
  intro W base args ds p hval hA _ hz
  rw [Try.params10] at hA hval hz
  obtain ⟨v0, vs0, d0, ds0, p0, q0, hargs, rfl, rfl, h0, r0⟩ := trodAll_cons hA
  obtain ⟨v1, vs1, d1, ds1, p1, q1, rfl, rfl, rfl, h1, r1⟩ := trodAll_cons r0
  obtain ⟨rfl, rfl, rfl⟩ := trodAll_nil r1
  obtain rfl : args = #[v0, v1] := by cases args; simp_all
  obtain ⟨A0, len0, cap0, rfl⟩ := okWide_slice Try.underlying74 (hval 0 74 v0 rfl rfl)
  obtain ⟨fuel0, hf0⟩ := h0
  obtain ⟨A0', len0', cap0', l0, hcs0, hl0, hlc0, hcm0, hbb0, hrd0⟩ := open_slice_rdw (R := fun cs s => cs = [Value.string s] ∧ s.size ≤ 140737488351232) Try.underlying74 cells_string (by omega) (Within.of_all hz (j := 0) rfl rfl)
    (fun n cs y h hw => by obtain ⟨s, e, hy, _⟩ := DataW.trod_string Try.underlying9 h; subst hy; exact ⟨s, e, hw.text⟩) hf0
  simp [Value.cells] at hcs0
  obtain ⟨rfl, rfl, rfl⟩ := hcs0
  have hr0 : TextsAt W A0 l0 := fun i hi => by
    obtain ⟨b, off, cs, hA, hb, _, hc, rfl, hs⟩ := hrd0 i hi
    exact ⟨b, off, hA, hb, by simpa using hc 0 (by omega), hs⟩
  obtain ⟨A1, len1, cap1, rfl⟩ := okWide_slice Try.underlying75 (hval 1 75 v1 rfl rfl)
  obtain ⟨fuel1, hf1⟩ := h1
  obtain ⟨A1', len1', cap1', l1, hcs1, hl1, hlc1, hcm1, hrd1⟩ := open_slice_rd (R := fun cs z => cs = [Value.int .i64 z] ∧ (Lit.int .i64 z).wf = true) Try.underlying75 cells_int (by omega) (fun n cs y h => by obtain ⟨z, e, _, hz⟩ := DataW.trod_int Try.underlying3 h; exact ⟨z, e, hz⟩) hf1
  simp [Value.cells] at hcs1
  obtain ⟨rfl, rfl, rfl⟩ := hcs1
  have hr1 : IntsAt .i64 W A1 l1 := fun i hi => by
    obtain ⟨b, off, cs, hA, hb, _, hc, rfl, _⟩ := hrd1 i hi
    exact ⟨b, off, hA, hb, by simpa using hc 0 (by omega)⟩
  exact nonce_all W A0 A1 len0 cap0 len1 cap1 l0 l1 hl0 hl1 hr0 hr1

theorem over : Rows.simnetOnceRow.holds Try.pinned (OpenSpec.ofChange Rows.simnetOnceSpec) :=
  OpenClaim.holds_of_wide 10 Try.f10 rfl rfl rfl rfl rfl rfl rfl ⟨rfl, rfl, rfl, rfl, rfl⟩ rfl rfl rfl rfl rfl (by kernel_rfl) Try.func10 (by kernel_rfl)
    (of_decide_eq_true (by kernel_rfl)) (by unfold Func.isWrapper; first | (rw [if_pos (by decide +kernel)]; kernel_rfl) | (rw [if_neg (by decide +kernel)]; exact ⟨rfl, rfl⟩))
    (fun os started H enc _ => lifted os started H enc)

theorem proved : Rows.SimnetOnceSaid := over
end Go.Proofs.Ytpbadpkleiogoaa.simnetOnce
