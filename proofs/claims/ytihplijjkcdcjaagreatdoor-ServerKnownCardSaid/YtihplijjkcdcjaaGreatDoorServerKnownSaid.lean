/-
  Over the given program, the row ServerKnown holds: the law returns true. Its run is closed: the evaluator of the texts Abs.. answers true, and the evaluator is proved sound against the model. No condition beyond the given row's own (its list of package variables as the card ties it).
-/
import Derived.Test.YtihplijjkcdcjaaGreatDoorRows
import Derived.Test.YtihplijjkcdcjaaGreatDoorServerKnownRan
import Derived.Test.YtihplijjkcdcjaaGreatDoorCutSm
import Derived.Test.YtihplijjkcdcjaaGreatDoorTbA
import Derived.Test.YtihplijjkcdcjaaGreatDoorAbsArgs
import Derived.Test.YtihplijjkcdcjaaGreatDoorServerKnownWit
import Derived.Test.YtihplijjkcdcjaaGreatDoorServerKnownFacts
import Derived.LaidMore
import Derived.Test.YtihplijjkcdcjaaGreatDoorArA
import Derived.Deep.DeepHandedRow
import Derived.Deep.DeepWitnessRowRef
set_option linter.unusedVariables false
set_option linter.unusedSimpArgs false
namespace Go.Proofs.YtihplijjkcdcjaaGreatDoor.serverKnown
open Go.ChangeShapes Go.WideShapes Go.ChangeAt Go.RowKit

theorem own : ownKnob Tryz.prog.godebug = none := by kernel_rfl
theorem laidOut : laidOutB Tryz.prog = true := by kernel_rfl
theorem body : ∃ c, (Tryz.f3).body = some c := ⟨_, rfl⟩
theorem saysTrue_eq (r : Abs.Rs Abs.Ans) : saysTrueQ r = Abs.saysTrue r := rfl
theorem ran (m : Int) : Abs.saysTrue (Abs.run Tryz.prog SmC23 1000000000 (.inv (.fn (.func 3) #[]) [] (Abs.stTabs (tabs4 m)))) = true := by
  have h := ranQ m
  rw [Abs.runQ_eq, saysTrue_eq] at h
  exact h
theorem walk (W : World) (hL : laidMetH Tryz.prog Rows.serverKnownRow.laid W) (hS : W.ShapedOpen Tryz.prog) : Calls Tryz.prog 3 #[] W (TrueMod W) := by
  obtain ⟨c, hc⟩ := body
  obtain ⟨m, hm⟩ := Tryz.laysM185.s1_3 W hS
  refine (Abs.true_of_tabs mixed smC23_ok numOk Tryz.func3 hc (by kernel_rfl) (ran m) W (tables hL hm)).mono fun e w' h => ?_
  obtain ⟨h1, h2, h3, h4, h5, h6⟩ := h
  exact ⟨h1, h3, h4, h5, h2, fun k hk _ => h6 k hk⟩

set_option maxRecDepth 100000 in
theorem lifted (os : Os) (started : os.Started) (H : Type) (enc : TypeId × Value → H) (F : Stop.Interp) :
    ReturnsInHanded {} Tryz.checked os 3 .any ((OpenSpec.ofChange Rows.serverKnownSpec).preRow enc Tryz.prog Tryz.f3 Rows.serverKnownRow.domain false Rows.serverKnownRow.laid) (((OpenSpec.ofChange Rows.serverKnownSpec).at F).post enc Tryz.prog Tryz.f3 false true false false) := by
  refine returnsInHanded_of_row (C := Tryz.checked) (s := OpenSpec.ofChange Rows.serverKnownSpec) own started (by kernel_rfl) Tryz.func3 (witness os H enc) ?_
  intro W base args ds gs before hval hW _ _ _ hL hSh _
  have hA := hW
  obtain ⟨p, q, hA, _, _, _, _⟩ := hA
  rw [Tryz.params3] at hA
  obtain ⟨h0, _, _⟩ := trodAll_nil hA
  obtain rfl : args = #[] := by cases args; simp_all
  refine (walk W hL hSh).mono fun e W' ⟨he, hm⟩ => ⟨_, he, ?_⟩
  refine law_post laidOut (by rw [Tryz.params3]; intro t ht; cases ht) rfl (by kernel_rfl) Tryz.underlying4 (fun ds hl => ?_) hW hm
  rw [Tryz.params3] at hl
  obtain rfl := len0 hl
  exact ⟨rfl, rfl, rfl⟩

theorem said : Rows.ServerKnownSaid :=
  OpenClaim.holds_of_cond 3 Tryz.f3 rfl rfl rfl rfl rfl rfl rfl ⟨rfl, rfl, rfl, rfl, rfl⟩ rfl rfl rfl rfl rfl (by kernel_rfl) Tryz.func3 facts
    (of_decide_eq_true (by kernel_rfl)) (by unfold Func.isWrapper; first | (rw [if_pos (by decide +kernel)]; kernel_rfl) | (rw [if_neg (by decide +kernel)]; exact ⟨rfl, rfl⟩))
    (fun os started H enc _ F => by rw [OpenClaim.pre_eq_preRow]; exact lifted os started H enc F)
end Go.Proofs.YtihplijjkcdcjaaGreatDoor.serverKnown
