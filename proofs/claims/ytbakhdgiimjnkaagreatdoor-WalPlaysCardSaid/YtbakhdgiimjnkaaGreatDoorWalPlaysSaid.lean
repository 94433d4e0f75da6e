/-
  Over the given program, the row WalPlays holds: for every input that the row speaks of, the law returns true and leaves its arguments as they were. No condition beyond the given row's own (its list of package variables as the card ties it).
-/
import Derived.Test.YtbakhdgiimjnkaaGreatDoorRows
import Derived.Test.YtbakhdgiimjnkaaGreatDoorWalSm
import Derived.Test.YtbakhdgiimjnkaaGreatDoorWPlays
import Derived.Test.YtbakhdgiimjnkaaGreatDoorWalTabs
import Derived.Test.YtbakhdgiimjnkaaGreatDoorWalArgs2
import Derived.Test.YtbakhdgiimjnkaaGreatDoorWalPlaysWit
import Derived.Test.YtbakhdgiimjnkaaGreatDoorWalPlaysFacts
import Derived.LaidMore
import Derived.Test.YtbakhdgiimjnkaaGreatDoorArA
import Derived.Deep.DeepHandedRow
import Derived.Deep.DeepWitnessRowRef
set_option linter.unusedVariables false
set_option linter.unusedSimpArgs false
namespace Go.Proofs.YtbakhdgiimjnkaaGreatDoor.walPlays
open Go.ChangeShapes Go.WideShapes Go.ChangeAt Go.RowKit

theorem body : ∃ c, (Tryz.f14).body = some c := ⟨_, rfl⟩
set_option maxRecDepth 100000 in
theorem lifted (os : Os) (started : os.Started) (H : Type) (enc : TypeId × Value → H) (F : Stop.Interp) :
    ReturnsInHanded {} Tryz.checked os 14 .any ((OpenSpec.ofChange Rows.walPlaysSpec).preRow enc Tryz.prog Tryz.f14 Rows.walPlaysRow.domain false Rows.walPlaysRow.laid) (((OpenSpec.ofChange Rows.walPlaysSpec).at F).post enc Tryz.prog Tryz.f14 false true false false) := by
  refine returnsInHanded_of_row (C := Tryz.checked) (s := OpenSpec.ofChange Rows.walPlaysSpec) walArgs.own started (by kernel_rfl) Tryz.func14 (witness os H enc) ?_
  intro W base args ds gs before hval hW _ _ hz hL _ _
  have hW0 := hW
  obtain ⟨p, q, hA, hV, _, _, _⟩ := hW
  obtain ⟨rfl, rfl⟩ := trodVars_none hV
  have hz' : (DataW.weightsEach Tryz.prog Tryz.f14.params.toList ds).all (· ≤ reachBytes) = true := by
    have h := hz
    rw [show (OpenSpec.ofChange Rows.walPlaysSpec).bare.plain.varTypes Tryz.checked.prog = [] from rfl, List.append_nil, List.append_nil] at h
    exact h
  rw [Tryz.params14] at hA hval hz'
  obtain ⟨v0, vs0, d0, ds0, p0, q0, hargs, rfl, rfl, h0, r0⟩ := trodAll_cons hA
  obtain ⟨v1, vs1, d1, ds1, p1, q1, rfl, rfl, rfl, h1, r1⟩ := trodAll_cons r0
  obtain ⟨v2, vs2, d2, ds2, p2, q2, rfl, rfl, rfl, h2, r2⟩ := trodAll_cons r1
  obtain ⟨rfl, rfl, rfl⟩ := trodAll_nil r2
  obtain rfl : args = #[v0, v1, v2] := by cases args; simp_all
  obtain ⟨z0, rfl⟩ := okWide_int Tryz.underlying3 (show Value.okWide Tryz.prog W .any base 3 v0 from hval 0 3 v0 rfl rfl)
  obtain ⟨z1, rfl⟩ := okWide_int Tryz.underlying3 (show Value.okWide Tryz.prog W .any base 3 v1 from hval 1 3 v1 rfl rfl)
  obtain ⟨fu2, hf2⟩ := h2
  obtain ⟨A2, n2, c2, u2, rfl, ok2, rd2⟩ := walArgs.acts_arg (base := base) (show Value.okWide Tryz.prog W .any base 76 v2 from hval 2 76 v2 rfl rfl) (Within.of_all hz' (j := 2) rfl rfl) hf2
  have hT : Abs.SRel Abs.phiNil (Abs.stTabs tabs3) W := walTabs.tables hL
  have htl : ∀ t ∈ tabs3, t.1 < 4096 := fun t ht => (law7.tabs_ok t ht).1
  obtain ⟨bd, hc⟩ := body
  obtain ⟨l2, k2, sv2, xs2, on2, pt2, V2, P2, N2⟩ := walArgs.put_acts .nil ok2 rd2
  have m2 : Abs.On l2 k2 l2 k2 := Abs.On.refl _ _
  have hw := Abs.law_of_ev (Sm := law7.SmW) (args := [.int .i64 z0, .int .i64 z1, sv2]) law7.mixed law7.smW_ok law7.numOk Tryz.func14 hc (by kernel_rfl) (Abs.srel_args htl hT pt2.len pt2.ok) (fun b x hb => Abs.stArgs_const htl hb) (.cons (.int _ _) (.cons (.int _ _) (.cons (V2.mono m2.le) (.nil _))))
    (walPlays_ev law7.noWO (by kernel_rfl) (by kernel_rfl) (by kernel_rfl) (g := Abs.sumTrue tabs3) (by kernel_rfl) (fun s' hk => law7.says hk) (Abs.stArgs_wf htl) ⟨_, law7.p10 _⟩ (fun c y hy l e => by subst e; cases Abs.stArgs_const htl hy) (walArgs.acts_mono (m2.old htl) P2) N2 z0 z1)
  refine hw.mono fun e W' ⟨he, hm⟩ => ⟨_, he, ?_⟩
  refine law_post walArgs.laidOut (by rw [Tryz.params14]; decide +kernel) rfl (by kernel_rfl) Tryz.underlying4 (fun ds hl => ?_) hW0 hm
  rw [Tryz.params14] at hl
  obtain ⟨d0, d1, d2, rfl⟩ := len3 hl
  exact ⟨rfl, rfl, rfl⟩
theorem said : Rows.WalPlaysSaid :=
  OpenClaim.holds_of_cond 14 Tryz.f14 rfl rfl rfl rfl rfl rfl rfl ⟨rfl, rfl, rfl, rfl, rfl⟩ rfl rfl rfl rfl rfl (by kernel_rfl) Tryz.func14 facts
    (of_decide_eq_true (by kernel_rfl)) (by unfold Func.isWrapper; first | (rw [if_pos (by decide +kernel)]; kernel_rfl) | (rw [if_neg (by decide +kernel)]; exact ⟨rfl, rfl⟩))
    (fun os started H enc _ F => by rw [OpenClaim.pre_eq_preRow]; exact lifted os started H enc F)
end Go.Proofs.YtbakhdgiimjnkaaGreatDoor.walPlays
