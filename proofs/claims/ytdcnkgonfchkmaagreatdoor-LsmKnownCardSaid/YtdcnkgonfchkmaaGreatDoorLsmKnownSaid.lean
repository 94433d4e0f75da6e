/-
  Over the given program, the row LsmKnown holds: the law returns true. Its run is closed: the evaluator of the texts Abs.. answers true, and the evaluator is proved sound against the model. No condition beyond the given row's own (its list of package variables as the card ties it).
-/
import Derived.Test.YtdcnkgonfchkmaaGreatDoorRows
import Derived.Test.YtdcnkgonfchkmaaGreatDoorLsmKnownRan
import Derived.Test.YtdcnkgonfchkmaaGreatDoorSumL
import Derived.Test.YtdcnkgonfchkmaaGreatDoorAbsArgs
import Derived.Test.YtdcnkgonfchkmaaGreatDoorLsmKnownWit
import Derived.Test.YtdcnkgonfchkmaaGreatDoorLsmKnownFacts
import Derived.LaidMore
import Derived.Test.YtdcnkgonfchkmaaGreatDoorRow
import Derived.Deep.DeepHandedRow
import Derived.Deep.DeepWitnessRowRef
namespace Go.Proofs.YtdcnkgonfchkmaaGreatDoor.lsmKnown
open Go.ChangeShapes Go.WideShapes Go.ChangeAt Go.RowKit

theorem own : ownKnob Tryz.prog.godebug = none := by kernel_rfl
theorem laidOut : laidOutB Tryz.prog = true := by kernel_rfl
theorem body : ∃ c, (Tryz.f3).body = some c := ⟨_, rfl⟩
theorem saysTrue_eq (r : Abs.Rs Abs.Ans) : saysTrueQ r = Abs.saysTrue r := rfl
theorem bodyA : ∃ c, (Tryz.f4).body = some c := ⟨_, rfl⟩
theorem ranA' : Abs.saysTrue (Abs.run Tryz.prog SmL 1000000000 (.inv (.fn (.func 4) #[]) [] (Abs.stTabs []))) = true := by
  have h := ranA
  rw [Abs.runQ_eq, saysTrue_eq] at h
  exact h
theorem smL2_ok : Abs.SmOk Tryz.prog SmL2 := by
  obtain ⟨c, hc⟩ := bodyA
  exact Abs.smOk_calls smL_ok (Abs.sumTrue_says (fun t ht => by cases ht) (fun W hW => Abs.true_of_tabs mixed smL_ok numOk Tryz.func4 hc (by kernel_rfl) ranA' W hW) (enters_of Tryz.func4 (by kernel_rfl) hc))
theorem ran : Abs.saysTrue (Abs.run Tryz.prog SmL2 1000000000 (.inv (.fn (.func 3) #[]) [] Abs.stNil)) = true := by
  have h := ranQ
  rw [Abs.runQ_eq, saysTrue_eq] at h
  exact h
theorem walk (W : World) : Calls Tryz.prog 3 #[] W (TrueMod W) := by
  obtain ⟨c, hc⟩ := body
  refine (Abs.true_of_run mixed smL2_ok numOk Tryz.func3 hc (by kernel_rfl) ran W).mono fun e w' h => ?_
  obtain ⟨h1, h2, h3, h4, h5, h6⟩ := h
  exact ⟨h1, h3, h4, h5, h2, fun k hk _ => h6 k hk⟩

set_option maxRecDepth 100000 in
theorem lifted (os : Os) (started : os.Started) (H : Type) (enc : TypeId × Value → H) (F : Stop.Interp) :
    ReturnsInHanded {} Tryz.checked os 3 .any ((OpenSpec.ofChange Rows.lsmKnownSpec).preRow enc Tryz.prog Tryz.f3 Rows.lsmKnownRow.domain false Rows.lsmKnownRow.laid) (((OpenSpec.ofChange Rows.lsmKnownSpec).at F).post enc Tryz.prog Tryz.f3 false true false false) := by
  refine returnsInHanded_of_row (C := Tryz.checked) (s := OpenSpec.ofChange Rows.lsmKnownSpec) own started (by kernel_rfl) Tryz.func3 (witness os H enc) ?_
  intro W base args ds gs before hval hW _ _ _ hL _ _
  have hA := hW
  obtain ⟨p, q, hA, _, _, _, _⟩ := hA
  rw [Tryz.params3] at hA
  obtain ⟨h0, _, _⟩ := trodAll_nil hA
  obtain rfl : args = #[] := by cases args; simp_all
  refine (walk W).mono fun e W' ⟨he, hm⟩ => ⟨_, he, ?_⟩
  refine law_post laidOut (by rw [Tryz.params3]; intro t ht; cases ht) rfl (by kernel_rfl) Tryz.underlying4 (fun ds hl => ?_) hW hm
  rw [Tryz.params3] at hl
  obtain rfl := len0 hl
  exact ⟨rfl, rfl, rfl⟩

theorem said : Rows.LsmKnownSaid :=
  OpenClaim.holds_of_cond 3 Tryz.f3 rfl rfl rfl rfl rfl rfl rfl ⟨rfl, rfl, rfl, rfl, rfl⟩ rfl rfl rfl rfl rfl (by kernel_rfl) Tryz.func3 facts
    (of_decide_eq_true (by kernel_rfl)) (by unfold Func.isWrapper; first | (rw [if_pos (by decide +kernel)]; kernel_rfl) | (rw [if_neg (by decide +kernel)]; exact ⟨rfl, rfl⟩))
    (fun os started H enc _ F => by rw [OpenClaim.pre_eq_preRow]; exact lifted os started H enc F)
end Go.Proofs.YtdcnkgonfchkmaaGreatDoor.lsmKnown
