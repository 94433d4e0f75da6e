/-
  What the evaluator's summaries compute. Definitions only.
-/
import Derived.Test.YtbakhdgiimjnkaaGreatDoorAbsA
set_option linter.unusedVariables false
set_option linter.unusedSimpArgs false
namespace Go.Proofs.YtbakhdgiimjnkaaGreatDoor.Abs
noncomputable section
set_option linter.unusedVariables false
/-- keys, sorted -/
def insB (x : List UInt8) : List (List UInt8) → List (List UInt8)
  | [] => [x]
  | y :: l => ifb (bLess y x) (y :: insB x l) (x :: y :: l)
def sortB : List (List UInt8) → List (List UInt8)
  | [] => []
  | x :: l => insB x (sortB l)
def strOfV (v : Value) : Rs (List UInt8) :=
  match v with
  | .string s => .ok s.data.toList
  | _ => .no 140 ""
def memB (x : List UInt8) : List (List UInt8) → Bool
  | [] => false
  | y :: l => ifb (bEq x y) true (memB x l)
def nodupB : List (List UInt8) → Bool
  | [] => true
  | x :: l => ifb (memB x l) false (nodupB l)
def bornB (clock : Nat) : List MapEntry → List Nat → Bool
  | [], _ => true
  | e :: es, seen => ifb (Nat.blt e.born clock) (ifb (seen.any fun x => Nat.beq x e.born) false (bornB clock es (e.born :: seen))) false
def shortB : List (List UInt8) → Bool
  | [] => true
  | x :: l => ifb (Nat.ble (lenN x) 1048576) (shortB l) false
def valsOf (l : List (List UInt8)) : List Value := l.map mkStr
def sumSorted2 (e : TypeId) (s : St) (l : List (List UInt8)) : Rs (Value × St) :=
  match l with
  | [] => .ok (.slice none 0 0, s)
  | x :: l => s.new (.cells (valsOf (x :: l)) e 1 true (0, 0)) fun n s => .ok (.slice (some ⟨n, 0, none⟩) (lenN (x :: l)) open_, s)
def sumSorted1 (e : TypeId) (s : St) (o : Option AObj) : Rs (Value × St) :=
  match o with
  | some (.map es clock) => ifb (Nat.ble (lenN es) 1048576) (ifb (bornB clock es []) ((mapR (fun x => strOfV x.key) es).bind fun ks => ifb (nodupB ks) (ifb (shortB ks) (sumSorted2 e s (sortB ks)) (.no 140 "")) (.no 140 "")) (.no 140 "")) (.no 140 "")
  | _ => .no 140 ""
def sumSorted0 (e : TypeId) (s : St) (o : Option AObj) : Rs (Value × St) :=
  match o with
  | some (.cells (.map (some r) :: _) _ _ false _) => sumSorted1 e s (s.heap.get r)
  | _ => .no 140 ""
/-- the keys of a map, sorted: slices.Sorted of what maps.Keys handed back -/
def sumSorted (g : FuncId) (e : TypeId) (args : List Value) (s : St) : Rs (Value × St) :=
  match args with
  | [.func (.func f) ⟨[]⟩ ⟨[.pointer (some ⟨b, 0, none⟩)]⟩] => ifb (Nat.beq f g) (sumSorted0 e s (s.heap.get b)) (.no 140 "")
  | _ => .no 140 ""
def Summ.add (Sm : Summ) (f : FuncId) (g : List Value → St → Rs (Value × St)) : Summ := fun k => ifb (Nat.beq k f) (some g) (Sm k)
def constIs (o : Option AObj) (l : List Value) : Bool :=
  match o with
  | some (.const l' _) => sameAll l' l
  | _ => false
/-- a closed call that says true, over tables: what is asked in its place -/
def sumTrue (tabs : List (Nat × List Value × TypeId)) (args : List Value) (s : St) : Rs (Value × St) :=
  match args with
  | [] => ifb (tabs.all fun t => constIs (s.heap.get t.1) t.2.1) (.ok (.bool true, s)) (.no 150 "")
  | _ => .no 150 ""
def fileLen (h : Tr AObj) (v : Value) : Option Nat :=
  match v with
  | .pointer (some ⟨b, o, none⟩) => (match h.get b with
    | some (.cells l _ _ _ _) => (match nth l o with
      | some (.slice _ n _) => some n
      | _ => none)
    | _ => none)
  | _ => none
def fileSum (h : Tr AObj) (es : List MapEntry) : Option Nat := List.rec (some 0) (fun e _ ih => Option.rec none (fun n => Option.rec none (fun m => natK (Nat.add n m) some) ih) (fileLen h e.val)) es
def keyStr1 (v : Value) (ih : Option (List (List UInt8))) : Option (List (List UInt8)) :=
  match v with
  | .string s => Option.rec none (fun l => some (s.data.toList :: l)) ih
  | _ => none
def keyStrs (es : List MapEntry) : Option (List (List UInt8)) := List.rec (some []) (fun e _ ih => keyStr1 e.key ih) es
def sumTotal2 (s : St) (r : Nat) : Rs (Value × St) :=
  match s.heap.get r with
  | some (.map es clock) => ifb (bornB clock es []) ((Rs.of 143 (keyStrs es)).bind fun ks => ifb (nodupB ks) ((Rs.of 143 (fileSum s.heap es)).bind fun n => ifb (Nat.ble n 1073741824) (.ok (.int .i64 (Int.ofNat n), s)) (.no 143 "")) (.no 143 "")) (.no 143 "")
  | _ => .no 143 ""
def sumTotal (args : List Value) (s : St) : Rs (Value × St) :=
  match args with
  | [.pointer (some ⟨b, o, none⟩)] => (match s.heap.get b with
    | some (.cells l _ _ _ _) => (match nth l (o + 1) with
      | some (.map (some r)) => sumTotal2 s r
      | _ => .no 143 "")
    | _ => .no 143 "")
  | _ => .no 143 ""
end
end Go.Proofs.YtbakhdgiimjnkaaGreatDoor.Abs
namespace Go.Proofs.YtbakhdgiimjnkaaGreatDoor
open Abs
noncomputable section
set_option linter.unusedVariables false
def crcBit (c : Nat) : Nat := ifb (Nat.beq (Nat.land c 1) 1) (Nat.xor (Nat.shiftRight c 1) 2197175160) (Nat.shiftRight c 1)
def crcBits (c : Nat) (j : Nat) : Nat := Nat.rec c (fun _ ih => natK ih crcBit) j
def crcByte (c b : Nat) : Nat := crcBits (Nat.xor c b) 8
def crcStep (v : Value) (c : Nat) (k : Nat → Option Nat) : Option Nat :=
  match v with
  | .int .u8 (.ofNat b) => ifb (Nat.blt b 256) (natK (crcByte c b) k) none
  | _ => none
def crcGo (l : List Value) : Nat → Option Nat := List.rec (fun c => some c) (fun v _ ih c => crcStep v c ih) l
def sumCrc2 (h : Tr AObj) (s : St) (x : Value) (c : Nat) : Rs (Value × St) :=
  (srcCells h 1 x).bind fun q => (Rs.of 140 (crcGo q.2 (Nat.xor 4294967295 c))).bind fun r => .ok (.int .u32 (.ofNat (Nat.xor 4294967295 r)), s)
def sumCrc (args : List Value) (s : St) : Rs (Value × St) :=
  match args with
  | [.int .u32 (.ofNat c), .slice (some a) n k] => ifb (Nat.blt c 4294967296) (ifb (Nat.ble n 1073741824) (sumCrc2 s.heap s (.slice (some a) n k) c) (.no 141 "")) (.no 141 "")
  | _ => .no 141 ""
def inSet (cs : List UInt8) (c : UInt8) : Bool := List.rec false (fun x _ ih => ifb (Nat.beq x.toNat c.toNat) true ih) cs
def dropIn (cs : List UInt8) (l : List UInt8) : List UInt8 := List.rec [] (fun c l ih => ifb (inSet cs c) ih (c :: l)) l
def trimR (cs l : List UInt8) : List UInt8 := (dropIn cs l.reverse).reverse
def allLow (cs : List UInt8) : Bool := List.rec true (fun x _ ih => ifb (Nat.blt x.toNat 128) ih false) cs
def sumTrim (args : List Value) (s : St) : Rs (Value × St) :=
  match args with
  | [.string x, .string cs] => ifb (allLow cs.data.toList && Nat.blt 1 (lenN cs.data.toList) && Nat.blt 0 (lenN x.data.toList) && Nat.ble (lenN x.data.toList) 1073741824 && Nat.ble (lenN cs.data.toList) 1073741824)
      (natK (s.next + 2) fun n => .ok (mkStr (dropIn cs.data.toList (trimR cs.data.toList x.data.toList)), ⟨s.heap, n⟩)) (.no 142 "")
  | _ => .no 142 ""
def zeroes (c : Nat) : List UInt8 := Nat.rec [] (fun _ ih => 48 :: ih) c
def sumRep (args : List Value) (s : St) : Rs (Value × St) :=
  match args with
  | [.string a, .int .i64 (.ofNat c)] => ifb (bEq a.data.toList [48]) (ifb (Nat.ble c 5) (.ok (mkStr (zeroes c), s)) (.no 146 "")) (.no 146 "")
  | _ => .no 146 ""
/-- a closed run that says true -/
def saysTrueQ (r : Rs Ans) : Bool :=
  match r with
  | .ok (.val (.bool true) _) => true
  | _ => false
end
end Go.Proofs.YtbakhdgiimjnkaaGreatDoor
