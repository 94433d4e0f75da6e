/-
  Over the given program, the row WalCorrupt holds: for every input that the row speaks of, the law returns true and leaves its arguments as they were. No condition beyond the given row's own (its list of package variables as the card ties it).
-/
import Derived.Test.YtbakhdgiimjnkaaGreatDoorRows
import Derived.Test.YtbakhdgiimjnkaaGreatDoorWalSm
import Derived.Test.YtbakhdgiimjnkaaGreatDoorWCorrupt
import Derived.Test.YtbakhdgiimjnkaaGreatDoorWalTabs
import Derived.Test.YtbakhdgiimjnkaaGreatDoorWalArgs3
import Derived.Test.YtbakhdgiimjnkaaGreatDoorWalCorruptWit
import Derived.Test.YtbakhdgiimjnkaaGreatDoorWalCorruptFacts
import Derived.LaidMore
import Derived.Test.YtbakhdgiimjnkaaGreatDoorArA
import Derived.Deep.DeepHandedRow
import Derived.Deep.DeepWitnessRowRef
set_option linter.unusedVariables false
set_option linter.unusedSimpArgs false
namespace Go.Proofs.YtbakhdgiimjnkaaGreatDoor.walCorrupt
open Go.ChangeShapes Go.WideShapes Go.ChangeAt Go.RowKit

theorem body : ∃ c, (Tryz.f10).body = some c := ⟨_, rfl⟩
set_option maxRecDepth 100000 in
theorem lifted (os : Os) (started : os.Started) (H : Type) (enc : TypeId × Value → H) (F : Stop.Interp) :
    ReturnsInHanded {} Tryz.checked os 10 .any ((OpenSpec.ofChange Rows.walCorruptSpec).preRow enc Tryz.prog Tryz.f10 Rows.walCorruptRow.domain false Rows.walCorruptRow.laid) (((OpenSpec.ofChange Rows.walCorruptSpec).at F).post enc Tryz.prog Tryz.f10 false true false false) := by
  refine returnsInHanded_of_row (C := Tryz.checked) (s := OpenSpec.ofChange Rows.walCorruptSpec) walArgs.own started (by kernel_rfl) Tryz.func10 (witness os H enc) ?_
  intro W base args ds gs before hval hW _ _ hz hL _ _
  have hW0 := hW
  obtain ⟨p, q, hA, hV, _, _, _⟩ := hW
  obtain ⟨rfl, rfl⟩ := trodVars_none hV
  have hz' : (DataW.weightsEach Tryz.prog Tryz.f10.params.toList ds).all (· ≤ reachBytes) = true := by
    have h := hz
    rw [show (OpenSpec.ofChange Rows.walCorruptSpec).bare.plain.varTypes Tryz.checked.prog = [] from rfl, List.append_nil, List.append_nil] at h
    exact h
  rw [Tryz.params10] at hA hval hz'
  obtain ⟨v0, vs0, d0, ds0, p0, q0, hargs, rfl, rfl, h0, r0⟩ := trodAll_cons hA
  obtain ⟨v1, vs1, d1, ds1, p1, q1, rfl, rfl, rfl, h1, r1⟩ := trodAll_cons r0
  obtain ⟨v2, vs2, d2, ds2, p2, q2, rfl, rfl, rfl, h2, r2⟩ := trodAll_cons r1
  obtain ⟨v3, vs3, d3, ds3, p3, q3, rfl, rfl, rfl, h3, r3⟩ := trodAll_cons r2
  obtain ⟨rfl, rfl, rfl⟩ := trodAll_nil r3
  obtain rfl : args = #[v0, v1, v2, v3] := by cases args; simp_all
  obtain ⟨fu0, hf0⟩ := h0
  obtain ⟨A0, n0, c0, u0, rfl, ok0, rd0⟩ := walArgs.recs_arg (base := base) (show Value.okWide Tryz.prog W .any base 59 v0 from hval 0 59 v0 rfl rfl) (Within.of_all hz' (j := 0) rfl rfl) hf0
  obtain ⟨z1, rfl⟩ := okWide_int Tryz.underlying3 (show Value.okWide Tryz.prog W .any base 3 v1 from hval 1 3 v1 rfl rfl)
  obtain ⟨z2, rfl⟩ := okWide_int Tryz.underlying5 (show Value.okWide Tryz.prog W .any base 5 v2 from hval 2 5 v2 rfl rfl)
  obtain ⟨fu2, hf2⟩ := h2
  obtain ⟨y2, ee2, _, hy2⟩ := DataW.trod_int Tryz.underlying5 hf2
  simp [Value.cells] at ee2
  subst ee2
  obtain ⟨bl2, bh2⟩ := bd_u8 hy2
  obtain ⟨w2, rfl⟩ : ∃ m : Nat, z2 = (m : Int) := ⟨z2.toNat, by omega⟩
  obtain ⟨fu3, hf3⟩ := h3
  obtain ⟨u3, rfl, ok3⟩ := walArgs.bytes_arg (base := base) (show Value.okWide Tryz.prog W .any base 28 v3 from hval 3 28 v3 rfl rfl) (Within.of_all hz' (j := 3) rfl rfl) hf3
  have hT : Abs.SRel Abs.phiNil (Abs.stTabs tabs3) W := walTabs.tables hL
  have htl : ∀ t ∈ tabs3, t.1 < 4096 := fun t ht => (law7.tabs_ok t ht).1
  obtain ⟨bd, hc⟩ := body
  obtain ⟨l0, k0, sv0, on0, pt0, V0, P0⟩ := walArgs.put_recs .nil ok0 rd0
  obtain ⟨l3, k3, sv3, on3, pt3, V3, P3⟩ := walArgs.put_bytes pt0 ok3
  have m0 : Abs.On l0 k0 l3 k3 := on3
  have m3 : Abs.On l3 k3 l3 k3 := Abs.On.refl _ _
  have hw := Abs.law_of_ev (Sm := law7.SmW) (args := [sv0, .int .i64 z1, .int .u8 (w2 : Int), sv3]) law7.mixed law7.smW_ok law7.numOk Tryz.func10 hc (by kernel_rfl) (Abs.srel_args htl hT pt3.len pt3.ok) (fun b x hb => Abs.stArgs_const htl hb) (.cons (V0.mono m0.le) (.cons (.int _ _) (.cons (.int _ _) (.cons (V3.mono m3.le) (.nil _)))))
    (walCorrupt_ev law7.noWO ⟨by kernel_rfl, by kernel_rfl, by kernel_rfl, by kernel_rfl, by kernel_rfl, by kernel_rfl, by kernel_rfl⟩ (by kernel_rfl) (by kernel_rfl) (g := Abs.sumTrue tabs3) (by kernel_rfl) (fun s' hk => law7.says hk) (Abs.stArgs_wf htl) ⟨_, law7.p10 _⟩ (P0.mono (m0.old htl)) (P3.mono (m3.old htl)) (by omega))
  refine hw.mono fun e W' ⟨he, hm⟩ => ⟨_, he, ?_⟩
  refine law_post walArgs.laidOut (by rw [Tryz.params10]; decide +kernel) rfl (by kernel_rfl) Tryz.underlying4 (fun ds hl => ?_) hW0 hm
  rw [Tryz.params10] at hl
  obtain ⟨d0, d1, d2, d3, rfl⟩ := len4 hl
  exact ⟨rfl, rfl, rfl⟩
theorem said : Rows.WalCorruptSaid :=
  OpenClaim.holds_of_cond 10 Tryz.f10 rfl rfl rfl rfl rfl rfl rfl ⟨rfl, rfl, rfl, rfl, rfl⟩ rfl rfl rfl rfl rfl (by kernel_rfl) Tryz.func10 facts
    (of_decide_eq_true (by kernel_rfl)) (by unfold Func.isWrapper; first | (rw [if_pos (by decide +kernel)]; kernel_rfl) | (rw [if_neg (by decide +kernel)]; exact ⟨rfl, rfl⟩))
    (fun os started H enc _ F => by rw [OpenClaim.pre_eq_preRow]; exact lifted os started H enc F)
end Go.Proofs.YtbakhdgiimjnkaaGreatDoor.walCorrupt
