/-
  Over the given program, the statement SimnetPlays holds: for every input that the row speaks of, the law returns true and leaves its arguments as they were. No condition beyond the given row's own.
-/
import Derived.Test.YtpbadpkleiogoaaRows
import Derived.Test.YtpbadpkleiogoaaAwake6
import Derived.Test.YtpbadpkleiogoaaSimArgs
import Derived.Test.YtpbadpkleiogoaaArA
set_option linter.unusedVariables false
set_option linter.unusedSimpArgs false
namespace Go.Proofs.Ytpbadpkleiogoaa.simnetPlays
open Go.ChangeShapes Go.WideShapes Go.ChangeAt Go.RowKit

theorem own : ownKnob Try.prog.godebug = none := by kernel_rfl
theorem laidOut : laidOutB Try.prog = true := by kernel_rfl
theorem body : ∃ c, (Try.f9).body = some c := ⟨_, rfl⟩
set_option maxRecDepth 100000 in
set_option linter.unusedVariables false in
theorem lifted (os : Os) (started : os.Started) (H : Type) (enc : TypeId × Value → H) :
    ReturnsInHanded {} Try.checked os 9 .any (Rows.simnetPlaysSpec.pre6 enc Try.prog Try.f9 Rows.simnetPlaysRow.domain false) (Rows.simnetPlaysSpec.post enc Try.prog Try.f9 false true false false) := by
  refine law_lifted (C := Try.checked) own started (by kernel_rfl) Try.func9
    (ChangeSpec.witness6 (enc := enc) (C := Try.checked) false ⟨#[], #[.slice none 0 0], []⟩ 8 (by kernel_rfl) (by kernel_rfl) (by kernel_rfl) (by kernel_rfl))
    laidOut (by decide +kernel) rfl (by kernel_rfl) Try.underlying4 ?_ ?_
  · intro ds hl
    rw [Try.params9] at hl
    obtain ⟨d0, rfl⟩ := len1 hl
    exact ⟨rfl, rfl, rfl⟩
  intro W base args ds p hval hA _ hz
  rw [Try.params9] at hA hval hz
  obtain ⟨v0, vs0, d0, ds0, p0, q0, hargs, rfl, rfl, h0, r0⟩ := trodAll_cons hA
  obtain ⟨rfl, rfl, rfl⟩ := trodAll_nil r0
  obtain rfl : args = #[v0] := by cases args; simp_all
  obtain ⟨fu0, hf0⟩ := h0
  obtain ⟨A0, n0, c0, u0, rfl, ok0, rd0⟩ := simArgs.acts_arg (base := base) (show Value.okWide Try.prog W .any base 55 v0 from hval 0 55 v0 rfl rfl) (Within.of_all hz (j := 0) rfl rfl) hf0
  have htl : ∀ t ∈ ([] : List (Nat × List Value × TypeId)), t.1 < 4096 := fun t ht => by cases ht
  have hT : Abs.SRel Abs.phiNil (Abs.stTabs []) W := Abs.srel_tabs (fun t ht => by cases ht) (fun t ht => by cases ht)
  obtain ⟨bd, hc⟩ := body
  obtain ⟨l1, k1, sv, on1, pt1, V1, P1, N1⟩ := simArgs.put_acts .nil ok0 rd0
  exact Abs.law_of_ev (Sm := law6.SmV) (args := [sv]) law6.mixed law6.smV_ok law6.numOk Try.func9 hc (by kernel_rfl) (Abs.srel_args htl hT pt1.len pt1.ok) (fun b x hb => Abs.stArgs_const htl hb) (.cons V1 (.nil _))
    (simnetPlays_ev law6.noNet law6.noRef (by kernel_rfl) (by kernel_rfl) (g := Abs.sumTrue []) (by kernel_rfl) (fun s' _ => law6.says s') (Abs.stArgs_wf htl) P1 (fun x hx => ⟨(N1 x hx).lo, (N1 x hx).hi⟩) (fun x hx => (N1 x hx).len))

theorem over : Rows.simnetPlaysRow.holds Try.pinned (OpenSpec.ofChange Rows.simnetPlaysSpec) :=
  OpenClaim.holds_of_wide 9 Try.f9 rfl rfl rfl rfl rfl rfl rfl ⟨rfl, rfl, rfl, rfl, rfl⟩ rfl rfl rfl rfl rfl (by kernel_rfl) Try.func9 (by kernel_rfl)
    (of_decide_eq_true (by kernel_rfl)) (by unfold Func.isWrapper; first | (rw [if_pos (by decide +kernel)]; kernel_rfl) | (rw [if_neg (by decide +kernel)]; exact ⟨rfl, rfl⟩))
    (fun os started H enc _ => lifted os started H enc)

theorem proved : Rows.SimnetPlaysSaid := over
end Go.Proofs.Ytpbadpkleiogoaa.simnetPlays
