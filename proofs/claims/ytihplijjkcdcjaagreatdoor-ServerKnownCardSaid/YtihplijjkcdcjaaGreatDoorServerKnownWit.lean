/-
  An input that fits, for the row ServerKnown: a world in which the listed variables lie as the card ties them. No condition.
-/
import Derived.Test.YtihplijjkcdcjaaGreatDoorServerKnownWitA
import Derived.Test.YtihplijjkcdcjaaGreatDoorServerKnownWitB
set_option linter.unusedVariables false
set_option linter.unusedSimpArgs false
namespace Go.Proofs.YtihplijjkcdcjaaGreatDoor.serverKnown
open Go.ChangeShapes Go.WideShapes Go.ChangeAt Go.RowKit
theorem wc (os : Os) {H : Type} (enc : TypeId × Value → H) : DataW.whole enc Tryz.prog ((laidWorld os).forCall (fun _ _ => 0) ⟨#[], #[], []⟩).memory Tryz.f3.params.toList Rows.serverKnownSpec.vars false (#[] : Array Value).toList 8 = some ([], [], []) := by kernel_rfl
theorem we (os : Os) : (((laidWorld os).forCall (fun _ _ => 0) ⟨#[], #[], []⟩).heap.toList.drop Tryz.prog.globals.size).take ((begin Tryz.prog (fun _ _ => 0) default).world.heap.size - Tryz.prog.globals.size) = (begin Tryz.prog (fun _ _ => 0) default).world.heap.toList.drop Tryz.prog.globals.size := by kernel_rfl
theorem wh (os : Os) : Input.okWideB Tryz.prog ((laidWorld os).forCall (fun _ _ => 0) ⟨#[], #[], []⟩) 3 ⟨#[], #[], []⟩ = true := by kernel_rfl
theorem wg (os : Os) {H : Type} (enc : TypeId × Value → H) : (OpenSpec.ofChange Rows.serverKnownSpec).bare.sizedB enc Tryz.prog Tryz.f3 false ((laidWorld os).forCall (fun _ _ => 0) ⟨#[], #[], []⟩).memory (#[] : Array Value) 8 = true := by kernel_rfl
theorem laid_met (os : Os) : laidMet Tryz.prog Rows.serverKnownRow.laid ((laidWorld os).forCall (fun _ _ => 0) ⟨#[], #[], []⟩).memory :=
  laidMet_of_run' 8 (wa os) (wb os)
set_option maxRecDepth 100000 in
theorem witness (os : Os) (H : Type) (enc : TypeId × Value → H) :
    ∃ (w : World) (tape : Tape) (i : Input), w.os = os ∧ (w.forCall tape i).Shaped Tryz.checked.prog ∧ i.vars = [] ∧ Input.okWide Tryz.checked.prog (w.forCall tape i) .any w.heap.size 3 i ∧
      (OpenSpec.ofChange Rows.serverKnownSpec).preRow enc Tryz.checked.prog Tryz.f3 Rows.serverKnownRow.domain false Rows.serverKnownRow.laid (w.forCall tape i).memory i.args ∧ ({ modest := false } : Assume).holds Tryz.checked.prog (lone (Frame.enter Tryz.checked.prog 3 i.args .normal) [] (w.forCall tape i)) :=
  witness_row_atRef (enc := enc) (C := Tryz.checked) false (laidWorld os) #[] rfl (wd os) (we os) (wh os)
      (OpenSpec.preRow_of_cond 8 (wc os enc) rfl (fun k hk => by cases hk) (wg os enc) (laid_met os))
end Go.Proofs.YtihplijjkcdcjaaGreatDoor.serverKnown
