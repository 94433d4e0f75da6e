/-
  What the evaluator's summary of bytes.Index computes. Definitions only.
-/
import Derived.Test.YthidnkhhndbidaaGreatDoorCutDef
namespace Go.Proofs.YthidnkhhndbidaaGreatDoor.Abs
noncomputable section
set_option linter.unusedVariables false
def onByte (v : Value) (k : Nat → Option (List Nat)) : Option (List Nat) :=
  match v with
  | .int .u8 (.ofNat b) => ifb (Nat.blt b 256) (natK b k) none
  | _ => none
def nats8 (l : List Value) : Option (List Nat) := List.rec (some []) (fun v _ ih => onByte v fun b => Option.rec none (fun l => some (b :: l)) ih) l
def preN (x : List Nat) : List Nat → Bool := List.rec (fun _ => true) (fun a _ ih y => List.rec false (fun b y _ => ifb (Nat.beq a b) (ih y) false) y) x
def findN (y x : List Nat) : Nat → Option Nat := List.rec (fun i => ifb (preN y []) (some i) none) (fun b l ih i => ifb (preN y (b :: l)) (some i) (ih (Nat.succ i))) x
def sumIdx2 (s : St) (x y : Value) : Rs (Value × St) :=
  (srcCells s.heap 1 x).bind fun p => (Rs.of 180 (nats8 p.2)).bind fun xs => (srcCells s.heap 1 y).bind fun q => (Rs.of 180 (nats8 q.2)).bind fun ys => .ok (optI (findN ys xs 0), s)
/-- the first place of bytes in bytes; g: the variable whose number is not known -/
def sumIdx (g : Nat) (args : List Value) (s : St) : Rs (Value × St) :=
  match args with
  | [.slice (some a) n c, .slice (some b) m d] => ifb (Nat.blt 0 n) (ifb (Nat.blt 0 m) (ifb (Nat.ble n 1073741824) (ifb (Nat.ble m 1073741824) ((Rs.of 180 (baseM g s.heap)).bind fun _ => sumIdx2 s (.slice (some a) n c) (.slice (some b) m d)) (.no 180 "")) (.no 180 "")) (.no 180 "")) (.no 180 "")
  | _ => .no 180 ""
end
end Go.Proofs.YthidnkhhndbidaaGreatDoor.Abs
