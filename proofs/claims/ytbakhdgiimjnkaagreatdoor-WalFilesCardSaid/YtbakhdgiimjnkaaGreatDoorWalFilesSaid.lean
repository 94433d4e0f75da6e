/-
  Over the given program, the row WalFiles holds: for every input that the row speaks of, the law returns true and leaves its arguments as they were. No condition beyond the given row's own (its list of package variables as the card ties it).
-/
import Derived.Test.YtbakhdgiimjnkaaGreatDoorRows
import Derived.Test.YtbakhdgiimjnkaaGreatDoorWalSm
import Derived.Test.YtbakhdgiimjnkaaGreatDoorWFiles
import Derived.Test.YtbakhdgiimjnkaaGreatDoorWalTabs
import Derived.Test.YtbakhdgiimjnkaaGreatDoorWalArgs
import Derived.Test.YtbakhdgiimjnkaaGreatDoorWalFilesWit
import Derived.Test.YtbakhdgiimjnkaaGreatDoorWalFilesFacts
import Derived.LaidMore
import Derived.Test.YtbakhdgiimjnkaaGreatDoorArA
import Derived.Deep.DeepHandedRow
import Derived.Deep.DeepWitnessRowRef
set_option linter.unusedVariables false
set_option linter.unusedSimpArgs false
namespace Go.Proofs.YtbakhdgiimjnkaaGreatDoor.walFiles
open Go.ChangeShapes Go.WideShapes Go.ChangeAt Go.RowKit

theorem body : ∃ c, (Tryz.f9).body = some c := ⟨_, rfl⟩
set_option maxRecDepth 100000 in
theorem lifted (os : Os) (started : os.Started) (H : Type) (enc : TypeId × Value → H) (F : Stop.Interp) :
    ReturnsInHanded {} Tryz.checked os 9 .any ((OpenSpec.ofChange Rows.walFilesSpec).preRow enc Tryz.prog Tryz.f9 Rows.walFilesRow.domain false Rows.walFilesRow.laid) (((OpenSpec.ofChange Rows.walFilesSpec).at F).post enc Tryz.prog Tryz.f9 false true false false) := by
  refine returnsInHanded_of_row (C := Tryz.checked) (s := OpenSpec.ofChange Rows.walFilesSpec) walArgs.own started (by kernel_rfl) Tryz.func9 (witness os H enc) ?_
  intro W base args ds gs before hval hW _ _ hz hL _ _
  have hW0 := hW
  obtain ⟨p, q, hA, hV, _, _, _⟩ := hW
  obtain ⟨rfl, rfl⟩ := trodVars_none hV
  have hz' : (DataW.weightsEach Tryz.prog Tryz.f9.params.toList ds).all (· ≤ reachBytes) = true := by
    have h := hz
    rw [show (OpenSpec.ofChange Rows.walFilesSpec).bare.plain.varTypes Tryz.checked.prog = [] from rfl, List.append_nil, List.append_nil] at h
    exact h
  rw [Tryz.params9] at hA hval hz'
  obtain ⟨v0, vs0, d0, ds0, p0, q0, hargs, rfl, rfl, h0, r0⟩ := trodAll_cons hA
  obtain ⟨v1, vs1, d1, ds1, p1, q1, rfl, rfl, rfl, h1, r1⟩ := trodAll_cons r0
  obtain ⟨rfl, rfl, rfl⟩ := trodAll_nil r1
  obtain rfl : args = #[v0, v1] := by cases args; simp_all
  obtain ⟨fu0, hf0⟩ := h0
  obtain ⟨A0, n0, c0, u0, rfl, ok0, rd0⟩ := walArgs.recs_arg (base := base) (show Value.okWide Tryz.prog W .any base 59 v0 from hval 0 59 v0 rfl rfl) (Within.of_all hz' (j := 0) rfl rfl) hf0
  obtain ⟨z1, rfl⟩ := okWide_int Tryz.underlying3 (show Value.okWide Tryz.prog W .any base 3 v1 from hval 1 3 v1 rfl rfl)
  have hT : Abs.SRel Abs.phiNil (Abs.stTabs tabs3) W := walTabs.tables hL
  have htl : ∀ t ∈ tabs3, t.1 < 4096 := fun t ht => (law7.tabs_ok t ht).1
  obtain ⟨bd, hc⟩ := body
  obtain ⟨l0, k0, sv0, on0, pt0, V0, P0⟩ := walArgs.put_recs .nil ok0 rd0
  have m0 : Abs.On l0 k0 l0 k0 := Abs.On.refl _ _
  have hw := Abs.law_of_ev (Sm := law7.SmW) (args := [sv0, .int .i64 z1]) law7.mixed law7.smW_ok law7.numOk Tryz.func9 hc (by kernel_rfl) (Abs.srel_args htl hT pt0.len pt0.ok) (fun b x hb => Abs.stArgs_const htl hb) (.cons (V0.mono m0.le) (.cons (.int _ _) (.nil _)))
    (walFiles_ev law7.noWO ⟨by kernel_rfl, by kernel_rfl, by kernel_rfl, by kernel_rfl, by kernel_rfl, by kernel_rfl, by kernel_rfl⟩ (by kernel_rfl) (g := Abs.sumTrue tabs3) (by kernel_rfl) (fun s' hk => law7.says hk) (Abs.stArgs_wf htl) ⟨_, law7.p10 _⟩ (P0.mono (m0.old htl)) z1)
  refine hw.mono fun e W' ⟨he, hm⟩ => ⟨_, he, ?_⟩
  refine law_post walArgs.laidOut (by rw [Tryz.params9]; decide +kernel) rfl (by kernel_rfl) Tryz.underlying4 (fun ds hl => ?_) hW0 hm
  rw [Tryz.params9] at hl
  obtain ⟨d0, d1, rfl⟩ := len2 hl
  exact ⟨rfl, rfl, rfl⟩
theorem said : Rows.WalFilesSaid :=
  OpenClaim.holds_of_cond 9 Tryz.f9 rfl rfl rfl rfl rfl rfl rfl ⟨rfl, rfl, rfl, rfl, rfl⟩ rfl rfl rfl rfl rfl (by kernel_rfl) Tryz.func9 facts
    (of_decide_eq_true (by kernel_rfl)) (by unfold Func.isWrapper; first | (rw [if_pos (by decide +kernel)]; kernel_rfl) | (rw [if_neg (by decide +kernel)]; exact ⟨rfl, rfl⟩))
    (fun os started H enc _ F => by rw [OpenClaim.pre_eq_preRow]; exact lifted os started H enc F)
end Go.Proofs.YtbakhdgiimjnkaaGreatDoor.walFiles
