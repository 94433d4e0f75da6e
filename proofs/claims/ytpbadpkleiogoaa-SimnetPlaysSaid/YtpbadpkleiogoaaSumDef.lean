/-
  What the evaluator's summaries compute. Definitions only.
-/
import Derived.Test.YtpbadpkleiogoaaAbsA
set_option linter.unusedVariables false
set_option linter.unusedSimpArgs false
namespace Go.Proofs.Ytpbadpkleiogoaa.Abs
noncomputable section
set_option linter.unusedVariables false
/-- keys, sorted -/
def insB (x : List UInt8) : List (List UInt8) → List (List UInt8)
  | [] => [x]
  | y :: l => ifb (bLess y x) (y :: insB x l) (x :: y :: l)
def sortB : List (List UInt8) → List (List UInt8)
  | [] => []
  | x :: l => insB x (sortB l)
def Summ.add (Sm : Summ) (f : FuncId) (g : List Value → St → Rs (Value × St)) : Summ := fun k => ifb (Nat.beq k f) (some g) (Sm k)
def constIs (o : Option AObj) (l : List Value) : Bool :=
  match o with
  | some (.const l' _) => sameAll l' l
  | _ => false
/-- a closed call that says true, over tables: what is asked in its place -/
def sumTrue (tabs : List (Nat × List Value × TypeId)) (args : List Value) (s : St) : Rs (Value × St) :=
  match args with
  | [] => ifb (tabs.all fun t => constIs (s.heap.get t.1) t.2.1) (.ok (.bool true, s)) (.no 150 "")
  | _ => .no 150 ""
end
end Go.Proofs.Ytpbadpkleiogoaa.Abs
namespace Go.Proofs.Ytpbadpkleiogoaa
open Abs
noncomputable section
set_option linter.unusedVariables false
/-- a closed run that says true -/
def saysTrueQ (r : Rs Ans) : Bool :=
  match r with
  | .ok (.val (.bool true) _) => true
  | _ => false
end
end Go.Proofs.Ytpbadpkleiogoaa
