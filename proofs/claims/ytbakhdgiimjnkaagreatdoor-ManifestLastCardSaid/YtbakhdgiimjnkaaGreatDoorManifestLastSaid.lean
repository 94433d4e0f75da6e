/-
  Over the given program, the row ManifestLast holds: for every input that the row speaks of, the law returns true and leaves its arguments as they were. No condition beyond the given row's own (its list of package variables as the card ties it).
-/
import Derived.Test.YtbakhdgiimjnkaaGreatDoorRows
import Derived.Test.YtbakhdgiimjnkaaGreatDoorManSm
import Derived.Test.YtbakhdgiimjnkaaGreatDoorManLastEv
import Derived.Test.YtbakhdgiimjnkaaGreatDoorManifestKnownTabs
import Derived.Test.YtbakhdgiimjnkaaGreatDoorManArgs2
import Derived.Test.YtbakhdgiimjnkaaGreatDoorManifestLastWit
import Derived.Test.YtbakhdgiimjnkaaGreatDoorManifestLastFacts
import Derived.LaidMore
import Derived.Test.YtbakhdgiimjnkaaGreatDoorArA
import Derived.Deep.DeepHandedRow
import Derived.Deep.DeepWitnessRowRef
namespace Go.Proofs.YtbakhdgiimjnkaaGreatDoor.manifestLast
open Go.ChangeShapes Go.WideShapes Go.ChangeAt Go.RowKit

theorem body : ∃ c, (Tryz.f6).body = some c := ⟨_, rfl⟩
set_option maxRecDepth 100000 in
theorem lifted (os : Os) (started : os.Started) (H : Type) (enc : TypeId × Value → H) (F : Stop.Interp) :
    ReturnsInHanded {} Tryz.checked os 6 .any ((OpenSpec.ofChange Rows.manifestLastSpec).preRow enc Tryz.prog Tryz.f6 Rows.manifestLastRow.domain false Rows.manifestLastRow.laid) (((OpenSpec.ofChange Rows.manifestLastSpec).at F).post enc Tryz.prog Tryz.f6 false true false false) := by
  refine returnsInHanded_of_row (C := Tryz.checked) (s := OpenSpec.ofChange Rows.manifestLastSpec) manArgs.own started (by kernel_rfl) Tryz.func6 (witness os H enc) ?_
  intro W base args ds gs before hval hW _ _ hz hL _ _
  have hW0 := hW
  obtain ⟨p, q, hA, hV, _, _, _⟩ := hW
  obtain ⟨rfl, rfl⟩ := trodVars_none hV
  have hz' : (DataW.weightsEach Tryz.prog Tryz.f6.params.toList ds).all (· ≤ reachBytes) = true := by
    have h := hz
    rw [show (OpenSpec.ofChange Rows.manifestLastSpec).bare.plain.varTypes Tryz.checked.prog = [] from rfl, List.append_nil, List.append_nil] at h
    exact h
  rw [Tryz.params6] at hA hval hz'
  obtain ⟨v0, vs0, d0, ds0, p0, q0, hargs, rfl, rfl, h0, r0⟩ := trodAll_cons hA
  obtain ⟨v1, vs1, d1, ds1, p1, q1, rfl, rfl, rfl, h1, r1⟩ := trodAll_cons r0
  obtain ⟨rfl, rfl, rfl⟩ := trodAll_nil r1
  obtain rfl : args = #[v0, v1] := by cases args; simp_all
  obtain ⟨fu0, hf0⟩ := h0
  obtain ⟨A0, n0, c0, u0, rfl, ok0, rd0, len0, sq0, flen0⟩ := manArgs.vers_arg (base := base) (show Value.okWide Tryz.prog W .any base 51 v0 from hval 0 51 v0 rfl rfl) (Within.of_all hz' (j := 0) rfl rfl) hf0
  obtain ⟨fu1, hf1⟩ := h1
  obtain ⟨A1, n1, c1, u1, rfl, hn1, ok1, rd1⟩ := manArgs.ints_arg (base := base) (show Value.okWide Tryz.prog W .any base 45 v1 from hval 1 45 v1 rfl rfl) (Within.of_all hz' (j := 1) rfl rfl) hf1
  have hT : Abs.SRel Abs.phiNil (Abs.stTabs tabs3) W := manifestKnown.tables hL
  have htl : ∀ t ∈ tabs3, t.1 < 4096 := fun t ht => (law11.tabs_ok t ht).1
  obtain ⟨bd, hc⟩ := body
  obtain ⟨l0, k0, sv0, on0, pt0, V0, P0⟩ := manArgs.put_vers .nil ok0 rd0
  obtain ⟨l1, k1, sv1, on1, pt1, V1, P1⟩ := manArgs.put_ints pt0 ok1 hn1 rd1
  have m0 : Abs.On l0 k0 l1 k1 := on1
  have m1 : Abs.On l1 k1 l1 k1 := Abs.On.refl _ _
  have hw := Abs.law_of_ev (Sm := law11.SmN) (args := [sv0, sv1]) law11.mixed law11.smN_ok law11.numOk Tryz.func6 hc (by kernel_rfl) (Abs.srel_args htl hT pt1.len pt1.ok) (fun b x hb => Abs.stArgs_const htl hb) (.cons (V0.mono m0.le) (.cons (V1.mono m1.le) (.nil _)))
    (manifestLast_ev (by kernel_rfl) (g := Abs.sumTrue tabs3) (by kernel_rfl) (by kernel_rfl) (by kernel_rfl) law11.noMan (fun s' hk => law11.says hk) (Abs.stArgs_wf htl) (manArgs.vers_mono (m0.old htl) P0) sq0 flen0 len0 (P1.mono fun b x _ hx => m1.old htl b x hx))
  refine hw.mono fun e W' ⟨he, hm⟩ => ⟨_, he, ?_⟩
  refine law_post manArgs.laidOut (by rw [Tryz.params6]; decide +kernel) rfl (by kernel_rfl) Tryz.underlying4 (fun ds hl => ?_) hW0 hm
  rw [Tryz.params6] at hl
  obtain ⟨d0, d1, rfl⟩ := len2 hl
  exact ⟨rfl, rfl, rfl⟩
theorem said : Rows.ManifestLastSaid :=
  OpenClaim.holds_of_cond 6 Tryz.f6 rfl rfl rfl rfl rfl rfl rfl ⟨rfl, rfl, rfl, rfl, rfl⟩ rfl rfl rfl rfl rfl (by kernel_rfl) Tryz.func6 facts
    (of_decide_eq_true (by kernel_rfl)) (by unfold Func.isWrapper; first | (rw [if_pos (by decide +kernel)]; kernel_rfl) | (rw [if_neg (by decide +kernel)]; exact ⟨rfl, rfl⟩))
    (fun os started H enc _ F => by rw [OpenClaim.pre_eq_preRow]; exact lifted os started H enc F)
end Go.Proofs.YtbakhdgiimjnkaaGreatDoor.manifestLast
