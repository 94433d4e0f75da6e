/-
  What the evaluator's summary of sha's rounds computes. Definitions only.
-/
import Derived.Test.YthidnkhhndbidaaGreatDoorSumDef
namespace Go.Proofs.YthidnkhhndbidaaGreatDoor
open Abs
noncomputable section
set_option linter.unusedVariables false
def rr (x n m : Nat) : Nat := Nat.lor (Nat.mod (Nat.shiftLeft x m) 4294967296) (Nat.shiftRight x n)
def add32 (a b : Nat) : Nat := Nat.mod (Nat.add a b) 4294967296
def sh0 (x : Nat) : Nat := Nat.xor (Nat.xor (rr x 7 25) (rr x 18 14)) (Nat.shiftRight x 3)
def sh1 (x : Nat) : Nat := Nat.xor (Nat.xor (rr x 17 15) (rr x 19 13)) (Nat.shiftRight x 10)
def shE (x : Nat) : Nat := Nat.xor (Nat.xor (rr x 6 26) (rr x 11 21)) (rr x 25 7)
def shA (x : Nat) : Nat := Nat.xor (Nat.xor (rr x 2 30) (rr x 13 19)) (rr x 22 10)
def shCh (e f g : Nat) : Nat := Nat.xor (Nat.land e f) (Nat.land (Nat.xor 4294967295 e) g)
def shMj (a b c : Nat) : Nat := Nat.xor (Nat.xor (Nat.land a b) (Nat.land a c)) (Nat.land b c)
def shT (k w e f g h : Nat) : Nat := add32 (add32 (add32 (add32 h (shE e)) (shCh e f g)) k) w
def shU (a b c : Nat) : Nat := add32 (shA a) (shMj a b c)
def shN (w0 w1 w9 w14 : Nat) : Nat := add32 (add32 (add32 w0 (sh0 w1)) w9) (sh1 w14)
def shaR (ks : List Nat) : Nat → Nat → Nat → Nat → Nat → Nat → Nat → Nat → Nat → Nat → Nat → Nat → Nat → Nat → Nat → Nat → Nat → Nat → Nat → Nat → Nat → Nat → Nat → Nat → List Nat :=
  List.rec (fun _ _ _ _ _ _ _ _ _ _ _ _ _ _ _ _ a b c d e f g h => [a, b, c, d, e, f, g, h])
    (fun k _ ih w0 w1 w2 w3 w4 w5 w6 w7 w8 w9 w10 w11 w12 w13 w14 w15 a b c d e f g h =>
      natK (shN w0 w1 w9 w14) fun w16 => natK (shT k w0 e f g h) fun t => natK (add32 t (shU a b c)) fun x => natK (add32 d t) fun y =>
        ih w1 w2 w3 w4 w5 w6 w7 w8 w9 w10 w11 w12 w13 w14 w15 w16 x a b c y e f g) ks
def onU8 {α : Type} (v : Value) (k : Nat → Option α) : Option α :=
  match v with
  | .int .u8 (.ofNat b) => ifb (Nat.blt b 256) (natK b k) none
  | _ => none
def onU32 {α : Type} (v : Value) (k : Nat → Option α) : Option α :=
  match v with
  | .int .u32 (.ofNat b) => ifb (Nat.blt b 4294967296) (natK b k) none
  | _ => none
def tkU8 {α : Type} (l : List Value) (k : Nat → List Value → Option α) : Option α := List.rec none (fun v l _ => onU8 v fun b => k b l) l
def be32 (a b c d : Nat) : Nat := Nat.lor (Nat.lor (Nat.lor (Nat.mod (Nat.shiftLeft a 24) 4294967296) (Nat.mod (Nat.shiftLeft b 16) 4294967296)) (Nat.mod (Nat.shiftLeft c 8) 4294967296)) d
/-- so many words, four bytes each -/
def words (n : Nat) : List Value → Option (List Nat) :=
  Nat.rec (fun _ => some []) (fun _ ih l => tkU8 l fun a l => tkU8 l fun b l => tkU8 l fun c l => tkU8 l fun d l => natK (be32 a b c d) fun w => Option.rec none (fun ws => some (w :: ws)) (ih l)) n
def u32s (l : List Value) : Option (List Nat) := List.rec (some []) (fun v _ ih => onU32 v fun x => Option.rec none (fun ws => some (x :: ws)) ih) l
def cut1 {α : Type} (l : List Nat) (k : Nat → List Nat → Option α) : Option α := List.rec none (fun x l _ => k x l) l
def cut8 {α : Type} (l : List Nat) (k : Nat → Nat → Nat → Nat → Nat → Nat → Nat → Nat → List Nat → Option α) : Option α :=
  cut1 l fun a l => cut1 l fun b l => cut1 l fun c l => cut1 l fun d l => cut1 l fun e l => cut1 l fun f l => cut1 l fun g l => cut1 l fun h l => k a b c d e f g h l
def end0 {α : Type} (l : List Nat) (x : Option α) : Option α := List.rec x (fun _ _ _ => none) l
def shaBlock (ks ws vs : List Nat) : Option (List Nat) :=
  cut8 ws fun w0 w1 w2 w3 w4 w5 w6 w7 ws => cut8 ws fun w8 w9 w10 w11 w12 w13 w14 w15 ws => end0 ws (cut8 vs fun a b c d e f g h vs => end0 vs
    (some (shaR ks w0 w1 w2 w3 w4 w5 w6 w7 w8 w9 w10 w11 w12 w13 w14 w15 a b c d e f g h)))
def addAll (l : List Nat) : List Nat → List Value := List.rec (fun _ => []) (fun x _ ih m => List.rec [] (fun y m _ => natK (add32 x y) fun z => .int .u32 (Int.ofNat z) :: ih m) m) l
def sumTake3 (s : St) (sb : Nat) (e : TypeId) (z : Nat) (bs ks vs : List Value) : Rs (Value × St) :=
  (Rs.of 160 (words 16 bs)).bind fun ws => (Rs.of 160 (u32s ks)).bind fun ks => (Rs.of 160 (u32s vs)).bind fun vs => ifb (Nat.beq (lenN ks) 64) ((Rs.of 160 (shaBlock ks ws vs)).bind fun r =>
    s.put sb (.cells (addAll vs r) e z false (0, 0)) fun s => s.parts fun h n => natK (Nat.add n 2) fun n => .ok (undefV, ⟨h, n⟩)) (.no 160 "")
def sumTake2 (s : St) (sb : Nat) (kb : Nat) (x : Value) (o : Option AObj) : Rs (Value × St) :=
  match o with
  | some (.cells vs e z false (0, 0)) => (objCells (s.heap.get kb)).bind fun ks => (srcCells s.heap 1 x).bind fun q => sumTake3 s sb e z q.2 ks vs
  | _ => .no 160 ""
/-- a block taken in -/
def sumTake (args : List Value) (s : St) : Rs (Value × St) :=
  match args with
  | [.pointer (some ⟨sb, 0, none⟩), .slice (some ⟨b, o, none⟩) 64 c, .pointer (some ⟨kb, 0, none⟩)] => sumTake2 s sb kb (.slice (some ⟨b, o, none⟩) 64 c) (s.heap.get sb)
  | _ => .no 160 ""
end
end Go.Proofs.YthidnkhhndbidaaGreatDoor
