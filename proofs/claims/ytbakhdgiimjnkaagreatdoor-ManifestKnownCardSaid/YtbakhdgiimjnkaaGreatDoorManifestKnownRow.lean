/-
  Over the given program, the statement ManifestKnown holds (its tied card): the law returns true. Its run is closed: the evaluator of the texts Abs.. answers true, and the evaluator is proved sound against the model. No condition beyond the given row's own (its list of package variables as the card ties it).
-/
import Derived.Test.YtbakhdgiimjnkaaGreatDoorCards
import Derived.Test.YtbakhdgiimjnkaaGreatDoorTie
import Derived.Test.YtbakhdgiimjnkaaGreatDoorManifestKnownRan
import Derived.Test.YtbakhdgiimjnkaaGreatDoorManifestKnownWit
import Derived.Test.YtbakhdgiimjnkaaGreatDoorManifestKnownTabs
import Derived.LaidMore
import Derived.Test.YtbakhdgiimjnkaaGreatDoorRow
import Derived.Deep.DeepHandedRow
import Derived.Deep.DeepWitnessRowRef
namespace Go.Proofs.YtbakhdgiimjnkaaGreatDoor.manifestKnown
open Go.ChangeShapes Go.WideShapes Go.ChangeAt Go.RowKit

theorem own : ownKnob Tryz.prog.godebug = none := by kernel_rfl
theorem laidOut : laidOutB Tryz.prog = true := by kernel_rfl
theorem walk (W : World) (hL : laidMetH Tryz.prog Rows.manifestKnownRow.laid W) : Calls Tryz.prog 3 #[] W (TrueMod W) := by
  obtain ⟨c, hc⟩ := body
  refine (Abs.true_of_tabs mixed smK_ok numOk Tryz.func3 hc rfl ran W (tables hL)).mono fun e w' h => ?_
  obtain ⟨h1, h2, h3, h4, h5, h6⟩ := h
  exact ⟨h1, h3, h4, h5, h2, fun k hk _ => h6 k hk⟩

set_option maxRecDepth 100000 in
theorem lifted (os : Os) (started : os.Started) (H : Type) (enc : TypeId × Value → H) (F : Stop.Interp) :
    ReturnsInHanded {} Tryz.checked os 3 .any ((OpenSpec.ofChange Rows.manifestKnownSpec).preRow enc Tryz.prog Tryz.f3 Rows.manifestKnownRow.domain false Rows.manifestKnownRow.laid) (((OpenSpec.ofChange Rows.manifestKnownSpec).at F).post enc Tryz.prog Tryz.f3 false true false false) := by
  refine returnsInHanded_of_row (C := Tryz.checked) (s := OpenSpec.ofChange Rows.manifestKnownSpec) own started (by kernel_rfl) Tryz.func3 (witness os H enc) ?_
  intro W base args ds gs before hval hW _ _ _ hL _ _
  have hA := hW
  obtain ⟨p, q, hA, _, _, _, _⟩ := hA
  rw [Tryz.params3] at hA
  obtain ⟨h0, _, _⟩ := trodAll_nil hA
  obtain rfl : args = #[] := by cases args; simp_all
  refine (walk W hL).mono fun e W' ⟨he, hm⟩ => ⟨_, he, ?_⟩
  refine law_post laidOut (by rw [Tryz.params3]; intro t ht; cases ht) rfl (by kernel_rfl) Tryz.underlying4 (fun ds hl => ?_) hW hm
  rw [Tryz.params3] at hl
  obtain rfl := len0 hl
  exact ⟨rfl, rfl, rfl⟩

theorem said : Rows.ManifestKnownSaid :=
  OpenClaim.holds_of_cond 3 Tryz.f3 rfl rfl rfl rfl rfl rfl rfl ⟨rfl, rfl, rfl, rfl, rfl⟩ rfl rfl rfl rfl rfl (by kernel_rfl) Tryz.func3 (by kernel_rfl)
    (of_decide_eq_true (by kernel_rfl)) (by unfold Func.isWrapper; first | (rw [if_pos (by decide +kernel)]; kernel_rfl) | (rw [if_neg (by decide +kernel)]; exact ⟨rfl, rfl⟩))
    (fun os started H enc _ F => by rw [OpenClaim.pre_eq_preRow]; exact lifted os started H enc F)
theorem plain (f : FuncId) (fn : Func) (hf : Tryz.pinned.checked.prog.funcNamed "rolodex/rolodexlaw11.ManifestKnown" = some f) (hfn : Tryz.pinned.checked.prog.funcs[f]? = some fn) :
    true = Tryz.pinned.checked.prog.looks [] ∧ ∀ (j : Nat) t, fn.params[j]? = some t → Tryz.pinned.checked.prog.wantsStandIn t = false := by
  obtain rfl : f = 3 := Option.some.inj ((show Tryz.prog.funcNamed "rolodex/rolodexlaw11.ManifestKnown" = some 3 by kernel_rfl).symm.trans hf) |>.symm
  obtain rfl : fn = Tryz.f3 := (Option.some.inj (Tryz.func3.symm.trans hfn)).symm
  refine ⟨by kernel_rfl, fun j t ht => ?_⟩
  rw [Tryz.params3] at ht
  simp at ht
/-- THE CARD. -/
theorem proved : Rows.ManifestKnownCardSaid :=
  Claim7.holds_tied_plain_at .later [] _ _ _ _ said (fun _ h => by cases h) (by kernel_rfl) (fun _ h => by cases h) manifestKnown_row_tie rfl ⟨rfl, rfl⟩ (by kernel_rfl) rfl plain (by kernel_rfl)
end Go.Proofs.YtbakhdgiimjnkaaGreatDoor.manifestKnown
