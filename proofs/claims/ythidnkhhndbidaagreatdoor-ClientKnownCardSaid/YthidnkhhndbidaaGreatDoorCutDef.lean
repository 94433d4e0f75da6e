/-
  A closed run is cut: what one call does at one state is told by the blocks that it looks at and what it leaves of them. Definitions only.
-/
import Derived.Test.YthidnkhhndbidaaGreatDoorSumDef
namespace Go.Proofs.YthidnkhhndbidaaGreatDoor.Abs
noncomputable section
set_option linter.unusedVariables false
def vSameL (f : Value → Value → Bool) (x : List Value) : List Value → Bool :=
  List.rec (fun y => List.rec true (fun _ _ _ => false) y) (fun a _ ih y => List.rec false (fun b y _ => ifb (f a b) (ih y) false) y) x
def adSame (a b : Option Addr) : Bool :=
  match a, b with
  | none, none => true
  | some ⟨b, o, none⟩, some ⟨c, p, none⟩ => ifb (Nat.beq b c) (Nat.beq o p) false
  | _, _ => false
def refSame (a b : Option Nat) : Bool :=
  match a, b with
  | none, none => true
  | some b, some c => Nat.beq b c
  | _, _ => false
def bSame (a b : Bool) : Bool := Bool.rec (Bool.rec true false b) b a
def vInt (j : IntKind) (x : Int) (b : Value) : Bool :=
  match b with
  | .int k y => ifb (kEq j k) (iBeq x y) false
  | _ => false
def vStr (x : ByteArray) (b : Value) : Bool :=
  match b with
  | .string y => bEq x.data.toList y.data.toList
  | _ => false
def vBool (x : Bool) (b : Value) : Bool :=
  match b with
  | .bool y => bSame x y
  | _ => false
def vPtr (x : Option Addr) (b : Value) : Bool :=
  match b with
  | .pointer y => adSame x y
  | _ => false
def vSlc (x : Option Addr) (n c : Nat) (b : Value) : Bool :=
  match b with
  | .slice y m d => ifb (adSame x y) (ifb (Nat.beq n m) (Nat.beq c d) false) false
  | _ => false
def vMap (x : Option Nat) (b : Value) : Bool :=
  match b with
  | .map y => refSame x y
  | _ => false
def vNilF (b : Value) : Bool :=
  match b with
  | .nilFunc => true
  | _ => false
def vNilI (b : Value) : Bool :=
  match b with
  | .nilIface => true
  | _ => false
def vAgg (f : Value → Value → Bool) (x : List Value) (b : Value) : Bool :=
  match b with
  | .agg y => vSameL f x y.toList
  | _ => false
def vTup (f : Value → Value → Bool) (x : List Value) (b : Value) : Bool :=
  match b with
  | .tuple y => vSameL f x y.toList
  | _ => false
def vIfc (f : Value → Value → Bool) (t : TypeId) (x : Value) (b : Value) : Bool :=
  match b with
  | .iface u y => ifb (Nat.beq t u) (f x y) false
  | _ => false
def vSame1 (f : Value → Value → Bool) (a b : Value) : Bool :=
  match a with
  | .int j x => vInt j x b
  | .string x => vStr x b
  | .bool x => vBool x b
  | .pointer x => vPtr x b
  | .slice x n c => vSlc x n c b
  | .map x => vMap x b
  | .nilFunc => vNilF b
  | .nilIface => vNilI b
  | .agg x => vAgg f x.toList b
  | .tuple x => vTup f x.toList b
  | .iface t x => vIfc f t x b
  | _ => false
/-- are two values the same, to the last bit? -/
def vSame : Value → Value → Bool := vSame1 (vSame1 (vSame1 fun _ _ => false))
def eSame (a b : MapEntry) : Bool :=
  match a, b with
  | ⟨k, v, n⟩, ⟨j, u, m⟩ => ifb (vSame k j) (ifb (vSame v u) (Nat.beq n m) false) false
def eSameL (x : List MapEntry) : List MapEntry → Bool :=
  List.rec (fun y => List.rec true (fun _ _ _ => false) y) (fun a _ ih y => List.rec false (fun b y _ => ifb (eSame a b) (ih y) false) y) x
def pSame (a b : Nat × Nat) : Bool :=
  match a, b with
  | ⟨i, j⟩, ⟨k, l⟩ => ifb (Nat.beq i k) (Nat.beq j l) false
def oCells (l : List Value) (e : TypeId) (s : Nat) (o : Bool) (fz : Nat × Nat) (b : AObj) : Bool :=
  match b with
  | .cells l' e' s' o' fz' => ifb (Nat.beq e e') (ifb (Nat.beq s s') (ifb (bSame o o') (ifb (pSame fz fz') (vSameL vSame l l') false) false) false) false
  | _ => false
def oConst (l : List Value) (e : TypeId) (b : AObj) : Bool :=
  match b with
  | .const l' e' => ifb (Nat.beq e e') (vSameL vSame l l') false
  | _ => false
def oMap (es : List MapEntry) (c : Nat) (b : AObj) : Bool :=
  match b with
  | .map es' c' => ifb (Nat.beq c c') (eSameL es es') false
  | _ => false
def oSame (a b : AObj) : Bool :=
  match a with
  | .cells l e s o fz => oCells l e s o fz b
  | .const l e => oConst l e b
  | .map es c => oMap es c b
  | _ => false
def oIs (o : Option AObj) (x : AObj) : Bool := Option.rec false (fun y => oSame y x) o
def footOk (h : Tr AObj) (l : List (Nat × AObj)) : Bool := List.rec true (fun p _ ih => ifb (oIs (h.get p.1) p.2) ih false) l
def outOk (h : Tr AObj) (l : List (Nat × Option AObj)) : Bool := List.rec true (fun p _ ih => ifb (Option.rec true (fun x => oIs (h.get p.1) x) p.2) ih false) l
def putAllO (l : List (Nat × Option AObj)) : Tr AObj → Tr AObj := List.rec (fun h => h) (fun p _ ih h => (Tr.put p.2 h p.1).force ih) l
/-- what one call does at one state: its arguments, the next block's name, the blocks that stay, those that turn (and what they were), those that are left behind (or forgotten), the answer, the next block's name behind it -/
structure Cut where
  args : List Value
  n0 : Nat
  same : List (Nat × AObj)
  turned : List (Nat × AObj)
  out : List (Nat × Option AObj)
  res : Value
  n1 : Nat
def somes (l : List (Nat × AObj)) : List (Nat × Option AObj) := l.map fun p => (p.1, some p.2)
/-- the state that is looked at, over tables that are there anyway -/
def Cut.st (c : Cut) (B : Tr AObj) : St := ⟨putAllO (somes c.turned) (putAllO (somes c.same) B), c.n0⟩
def memN (l : List (Nat × Option AObj)) (b : Nat) : Bool := List.rec false (fun p _ ih => ifb (Nat.beq p.1 b) true ih) l
/-- is it what the call does? -/
def Cut.good (c : Cut) (r : Rs Ans) : Bool :=
  match r with
  | .ok (.val v s) => ifb (vSame v c.res) (ifb (Nat.ble s.next c.n1) (ifb (footOk s.heap c.same) (ifb (outOk s.heap c.out) (c.turned.all fun p => memN c.out p.1) false) false) false) false
  | _ => false
def Cut.says (c : Cut) (args : List Value) (s : St) : Rs (Value × St) :=
  ifb (vSameL vSame args c.args) (ifb (footOk s.heap c.same) (ifb (footOk s.heap c.turned) ((putAllO c.out s.heap).force fun h => .ok (c.res, ⟨h, c.n1⟩)) (.no 170 "")) (.no 170 "")) (.no 170 "")
/-- some calls of one function, by the next block's name -/
def pickCut (l : List Cut) (args : List Value) (s : St) : Rs (Value × St) := List.rec (.no 170 "") (fun c _ ih => ifb (Nat.beq s.next c.n0) (c.says args s) ih) l
def sumCuts (base : Tr AObj → Option (Tr AObj)) (l : List Cut) (args : List Value) (s : St) : Rs (Value × St) := Option.rec (.no 170 "") (fun _ => pickCut l args s) (base s.heap)
/-- no table; one whose number is not known -/
def base0 : Tr AObj → Option (Tr AObj) := fun _ => some .nil
def baseM2 (g : Nat) (o : Option AObj) : Option (Tr AObj) :=
  match o with
  | some (.const [.int .i64 m] e) => some (Tr.nil.set g (.const [.int .i64 m] e))
  | _ => none
def baseM (g : Nat) (h : Tr AObj) : Option (Tr AObj) := baseM2 g (h.get g)
/-- bytes' cells, out of one number -/
def u8s (len n : Nat) : List Value := Nat.rec (fun _ => []) (fun _ ih n => natK (Nat.mod n 256) fun b => natK (Nat.div n 256) fun m => .int .u8 (.ofNat b) :: ih m) len n
def strs (len n : Nat) : Value := .string ⟨⟨Nat.rec (fun _ => []) (fun _ ih n => natK (Nat.mod n 256) fun b => natK (Nat.div n 256) fun m => UInt8.ofNat b :: ih m) len n⟩⟩
/-! ### short words -/
def vi (n : Nat) : Value := .int .i64 (.ofNat n)
def vj (n : Nat) : Value := .int .i64 (.negSucc n)
def vb (n : Nat) : Value := .int .u8 (.ofNat n)
def vw (n : Nat) : Value := .int .u32 (.ofNat n)
def vu (n : Nat) : Value := .int .u64 (.ofNat n)
def vp (b o : Nat) : Value := .pointer (some ⟨b, o, none⟩)
def vl (b o n c : Nat) : Value := .slice (some ⟨b, o, none⟩) n c
def vo (b o n : Nat) : Value := .slice (some ⟨b, o, none⟩) n open_
def vm (r : Nat) : Value := .map (some r)
def vT : Value := .bool true
def vF : Value := .bool false
def p0 : Value := .pointer none
def l0 : Value := .slice none 0 0
def m0 : Value := .map none
def e0 : Value := .string ⟨⟨[]⟩⟩
def cO (l : List Value) (e s : Nat) : AObj := .cells l e s true (0, 0)
def cC (l : List Value) (e s : Nat) : AObj := .cells l e s false (0, 0)
def en (k v : Value) (n : Nat) : MapEntry := ⟨k, v, n⟩
end
end Go.Proofs.YthidnkhhndbidaaGreatDoor.Abs
