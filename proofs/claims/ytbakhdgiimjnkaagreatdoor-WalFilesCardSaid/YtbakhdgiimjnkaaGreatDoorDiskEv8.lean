/-
  simdisk: Crash, at the evaluator.
-/
import Derived.Test.YtbakhdgiimjnkaaGreatDoorDkB
import Derived.Test.YtbakhdgiimjnkaaGreatDoorEvCut
import Derived.Test.YtbakhdgiimjnkaaGreatDoorEvSet
set_option linter.unusedVariables false
set_option linter.unusedSimpArgs false
namespace Go.Proofs.YtbakhdgiimjnkaaGreatDoor
open Abs
set_option maxHeartbeats 16000000
set_option maxRecDepth 20000
set_option linter.unusedSimpArgs false
attribute [local irreducible] Abs.Ev Abs.EvF Abs.EvO Abs.EvA Abs.Seq Abs.Blk Abs.Body Abs.Scp Abs.EvG Abs.EvAg Abs.Nx
attribute [local go_sem] Tryz.underlying3 Ty.sz3 Ty.by3 Ty.ag3 Ty.ze3 Tryz.underlying4 Ty.sz4 Ty.by4 Ty.ag4 Ty.ze4 Tryz.underlying5 Ty.sz5 Ty.by5 Ty.ag5 Ty.ze5 Tryz.underlying9 Ty.sz9 Ty.by9 Ty.ag9 Ty.ze9 Tryz.underlying28 Ty.sz28 Ty.by28 Ty.ag28 Ty.ze28 Tryz.underlying34 Ty.sz34 Ty.by34 Ty.ag34 Ty.ze34 Tryz.underlying46 Ty.sz46 Ty.by46 Ty.ag46 Ty.ze46 Tryz.underlying88 Ty.sz88 Ty.by88 Ty.ag88 Ty.ze88 Tryz.underlying89 Ty.sz89 Ty.by89 Ty.ag89 Ty.ze89 Tryz.underlying96 Ty.sz96 Ty.by96 Ty.ag96 Ty.ze96 Tryz.underlying98 Ty.sz98 Ty.by98 Ty.ag98 Ty.ze98 Tryz.underlying101 Ty.sz101 Ty.by101 Ty.ag101 Ty.ze101 Tryz.underlying103 Ty.sz103 Ty.by103 Ty.ag103 Ty.ze103
section
variable {Sm : Summ} {Q : Ans → Prop}
theorem chgC_put (c : Chg) (x y z : Value) : chgC c ++ List.drop 3 [x, y, z] = chgC c := List.append_nil _
theorem IntsB.lt {s : St} (hwf : s.wf) {v : Value} {l : List Int} (h : IntsB s v l) {x : Nat} (hx : inBlk v x) : x < s.next := by
  obtain ⟨⟨a, c, rfl⟩, h1⟩ := h
  obtain ⟨o', m', c', e⟩ := hx
  cases e
  obtain ⟨w, hw, _, _⟩ := src_parts h1
  cases hg : s.heap.get x with
  | none => rw [hg] at hw; cases hw
  | some y => exact hwf x y hg
attribute [local go_sem] List.set_cons_zero List.set_cons_succ chgC_one chgC_put keyS
end
end Go.Proofs.YtbakhdgiimjnkaaGreatDoor
