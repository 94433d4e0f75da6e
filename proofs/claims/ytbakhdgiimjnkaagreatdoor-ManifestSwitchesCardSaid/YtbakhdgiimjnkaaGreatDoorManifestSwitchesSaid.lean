/-
  Over the given program, the row ManifestSwitches holds: for every input that the row speaks of, the law returns true and leaves its arguments as they were. No condition beyond the given row's own (its list of package variables as the card ties it).
-/
import Derived.Test.YtbakhdgiimjnkaaGreatDoorRows
import Derived.Test.YtbakhdgiimjnkaaGreatDoorManSm
import Derived.Test.YtbakhdgiimjnkaaGreatDoorManSwEv
import Derived.Test.YtbakhdgiimjnkaaGreatDoorManifestKnownTabs
import Derived.Test.YtbakhdgiimjnkaaGreatDoorManArgs
import Derived.Test.YtbakhdgiimjnkaaGreatDoorManifestSwitchesWit
import Derived.Test.YtbakhdgiimjnkaaGreatDoorManifestSwitchesFacts
import Derived.LaidMore
import Derived.Test.YtbakhdgiimjnkaaGreatDoorArA
import Derived.Deep.DeepHandedRow
import Derived.Deep.DeepWitnessRowRef
namespace Go.Proofs.YtbakhdgiimjnkaaGreatDoor.manifestSwitches
open Go.ChangeShapes Go.WideShapes Go.ChangeAt Go.RowKit

theorem body : ∃ c, (Tryz.f7).body = some c := ⟨_, rfl⟩
set_option maxRecDepth 100000 in
theorem lifted (os : Os) (started : os.Started) (H : Type) (enc : TypeId × Value → H) (F : Stop.Interp) :
    ReturnsInHanded {} Tryz.checked os 7 .any ((OpenSpec.ofChange Rows.manifestSwitchesSpec).preRow enc Tryz.prog Tryz.f7 Rows.manifestSwitchesRow.domain false Rows.manifestSwitchesRow.laid) (((OpenSpec.ofChange Rows.manifestSwitchesSpec).at F).post enc Tryz.prog Tryz.f7 false true false false) := by
  refine returnsInHanded_of_row (C := Tryz.checked) (s := OpenSpec.ofChange Rows.manifestSwitchesSpec) manArgs.own started (by kernel_rfl) Tryz.func7 (witness os H enc) ?_
  intro W base args ds gs before hval hW _ _ hz hL _ _
  have hW0 := hW
  obtain ⟨p, q, hA, hV, _, _, _⟩ := hW
  obtain ⟨rfl, rfl⟩ := trodVars_none hV
  have hz' : (DataW.weightsEach Tryz.prog Tryz.f7.params.toList ds).all (· ≤ reachBytes) = true := by
    have h := hz
    rw [show (OpenSpec.ofChange Rows.manifestSwitchesSpec).bare.plain.varTypes Tryz.checked.prog = [] from rfl, List.append_nil, List.append_nil] at h
    exact h
  rw [Tryz.params7] at hA hval hz'
  obtain ⟨v0, vs0, d0, ds0, p0, q0, hargs, rfl, rfl, h0, r0⟩ := trodAll_cons hA
  obtain ⟨v1, vs1, d1, ds1, p1, q1, rfl, rfl, rfl, h1, r1⟩ := trodAll_cons r0
  obtain ⟨v2, vs2, d2, ds2, p2, q2, rfl, rfl, rfl, h2, r2⟩ := trodAll_cons r1
  obtain ⟨v3, vs3, d3, ds3, p3, q3, rfl, rfl, rfl, h3, r3⟩ := trodAll_cons r2
  obtain ⟨v4, vs4, d4, ds4, p4, q4, rfl, rfl, rfl, h4, r4⟩ := trodAll_cons r3
  obtain ⟨rfl, rfl, rfl⟩ := trodAll_nil r4
  obtain rfl : args = #[v0, v1, v2, v3, v4] := by cases args; simp_all
  obtain ⟨fu0, hf0⟩ := h0
  obtain ⟨A0, n0, c0, u0, rfl, hn0, ok0, rd0, len0, sq0⟩ := manArgs.ver_arg (base := base) (show Value.okWide Tryz.prog W .any base 26 v0 from hval 0 26 v0 rfl rfl) (Within.of_all hz' (j := 0) rfl rfl) hf0
  obtain ⟨fu1, hf1⟩ := h1
  obtain ⟨A1, n1, c1, u1, rfl, hn1, ok1, rd1, len1, sq1⟩ := manArgs.ver_arg (base := base) (show Value.okWide Tryz.prog W .any base 26 v1 from hval 1 26 v1 rfl rfl) (Within.of_all hz' (j := 1) rfl rfl) hf1
  obtain ⟨z2, rfl⟩ := okWide_int Tryz.underlying3 (show Value.okWide Tryz.prog W .any base 3 v2 from hval 2 3 v2 rfl rfl)
  obtain ⟨fu3, hf3⟩ := h3
  obtain ⟨A3, n3, c3, u3, rfl, hn3, ok3, rd3⟩ := manArgs.ints_arg (base := base) (show Value.okWide Tryz.prog W .any base 45 v3 from hval 3 45 v3 rfl rfl) (Within.of_all hz' (j := 3) rfl rfl) hf3
  obtain ⟨fu4, hf4⟩ := h4
  obtain ⟨A4, n4, c4, u4, rfl, hn4, ok4, rd4⟩ := manArgs.ints_arg (base := base) (show Value.okWide Tryz.prog W .any base 45 v4 from hval 4 45 v4 rfl rfl) (Within.of_all hz' (j := 4) rfl rfl) hf4
  have hT : Abs.SRel Abs.phiNil (Abs.stTabs tabs3) W := manifestKnown.tables hL
  have htl : ∀ t ∈ tabs3, t.1 < 4096 := fun t ht => (law11.tabs_ok t ht).1
  obtain ⟨bd, hc⟩ := body
  obtain ⟨l0, k0, sv0, on0, pt0, V0, P0⟩ := manArgs.put_ver .nil ok0 hn0 rd0
  obtain ⟨l1, k1, sv1, on1, pt1, V1, P1⟩ := manArgs.put_ver pt0 ok1 hn1 rd1
  obtain ⟨l3, k3, sv3, on3, pt3, V3, P3⟩ := manArgs.put_ints pt1 ok3 hn3 rd3
  obtain ⟨l4, k4, sv4, on4, pt4, V4, P4⟩ := manArgs.put_ints pt3 ok4 hn4 rd4
  have m0 : Abs.On l0 k0 l4 k4 := ((on1).trans on3).trans on4
  have m1 : Abs.On l1 k1 l4 k4 := (on3).trans on4
  have m3 : Abs.On l3 k3 l4 k4 := on4
  have m4 : Abs.On l4 k4 l4 k4 := Abs.On.refl _ _
  have hw := Abs.law_of_ev (Sm := law11.SmN) (args := [verV sv0 u0, verV sv1 u1, .int .i64 z2, sv3, sv4]) law11.mixed law11.smN_ok law11.numOk Tryz.func7 hc (by kernel_rfl) (Abs.srel_args htl hT pt4.len pt4.ok) (fun b x hb => Abs.stArgs_const htl hb) (.cons (manArgs.ver_rel (V0.mono m0.le)) (.cons (manArgs.ver_rel (V1.mono m1.le)) (.cons (.int _ _) (.cons (V3.mono m3.le) (.cons (V4.mono m4.le) (.nil _))))))
    (manifestSwitches_ev (by kernel_rfl) (g := Abs.sumTrue tabs3) (by kernel_rfl) (by kernel_rfl) (by kernel_rfl) law11.noMan (fun s' hk => law11.says hk) (Abs.stArgs_wf htl) (P0.mono (m0.old htl)) (P1.mono (m1.old htl)) sq0 sq1 len0 len1 z2 (P3.mono fun b x _ hx => m3.old htl b x hx) (P4.mono fun b x _ hx => m4.old htl b x hx))
  refine hw.mono fun e W' ⟨he, hm⟩ => ⟨_, he, ?_⟩
  refine law_post manArgs.laidOut (by rw [Tryz.params7]; decide +kernel) rfl (by kernel_rfl) Tryz.underlying4 (fun ds hl => ?_) hW0 hm
  rw [Tryz.params7] at hl
  obtain ⟨d0, d1, d2, d3, d4, rfl⟩ := len5 hl
  exact ⟨rfl, rfl, rfl⟩
theorem said : Rows.ManifestSwitchesSaid :=
  OpenClaim.holds_of_cond 7 Tryz.f7 rfl rfl rfl rfl rfl rfl rfl ⟨rfl, rfl, rfl, rfl, rfl⟩ rfl rfl rfl rfl rfl (by kernel_rfl) Tryz.func7 facts
    (of_decide_eq_true (by kernel_rfl)) (by unfold Func.isWrapper; first | (rw [if_pos (by decide +kernel)]; kernel_rfl) | (rw [if_neg (by decide +kernel)]; exact ⟨rfl, rfl⟩))
    (fun os started H enc _ F => by rw [OpenClaim.pre_eq_preRow]; exact lifted os started H enc F)
end Go.Proofs.YtbakhdgiimjnkaaGreatDoor.manifestSwitches
