/-
  The evaluator and what is proved of it (several texts in one).
-/
import Derived.Test.YtihplijjkcdcjaaGreatDoorAbsA
set_option linter.unusedVariables false
set_option linter.unusedSimpArgs false
/-
  What the evaluator's summaries compute. Definitions only.
-/
namespace Go.Proofs.YtihplijjkcdcjaaGreatDoor.Abs
noncomputable section
set_option linter.unusedVariables false
/-- keys, sorted -/
def insB (x : List UInt8) : List (List UInt8) → List (List UInt8)
  | [] => [x]
  | y :: l => ifb (bLess y x) (y :: insB x l) (x :: y :: l)
def sortB : List (List UInt8) → List (List UInt8)
  | [] => []
  | x :: l => insB x (sortB l)
def strOfV (v : Value) : Rs (List UInt8) :=
  match v with
  | .string s => .ok s.data.toList
  | _ => .no 140 ""
def memB (x : List UInt8) : List (List UInt8) → Bool
  | [] => false
  | y :: l => ifb (bEq x y) true (memB x l)
def nodupB : List (List UInt8) → Bool
  | [] => true
  | x :: l => ifb (memB x l) false (nodupB l)
def bornB (clock : Nat) : List MapEntry → List Nat → Bool
  | [], _ => true
  | e :: es, seen => ifb (Nat.blt e.born clock) (ifb (seen.any fun x => Nat.beq x e.born) false (bornB clock es (e.born :: seen))) false
def shortB : List (List UInt8) → Bool
  | [] => true
  | x :: l => ifb (Nat.ble (lenN x) 1048576) (shortB l) false
def valsOf (l : List (List UInt8)) : List Value := l.map mkStr
def sumSorted2 (e : TypeId) (s : St) (l : List (List UInt8)) : Rs (Value × St) :=
  match l with
  | [] => .ok (.slice none 0 0, s)
  | x :: l => s.new (.cells (valsOf (x :: l)) e 1 true (0, 0)) fun n s => .ok (.slice (some ⟨n, 0, none⟩) (lenN (x :: l)) open_, s)
def sumSorted1 (e : TypeId) (s : St) (o : Option AObj) : Rs (Value × St) :=
  match o with
  | some (.map es clock) => ifb (Nat.ble (lenN es) 1048576) (ifb (bornB clock es []) ((mapR (fun x => strOfV x.key) es).bind fun ks => ifb (nodupB ks) (ifb (shortB ks) (sumSorted2 e s (sortB ks)) (.no 140 "")) (.no 140 "")) (.no 140 "")) (.no 140 "")
  | _ => .no 140 ""
def sumSorted0 (e : TypeId) (s : St) (o : Option AObj) : Rs (Value × St) :=
  match o with
  | some (.cells (.map (some r) :: _) _ _ false _) => sumSorted1 e s (s.heap.get r)
  | _ => .no 140 ""
/-- the keys of a map, sorted: slices.Sorted of what maps.Keys handed back -/
def sumSorted (g : FuncId) (e : TypeId) (args : List Value) (s : St) : Rs (Value × St) :=
  match args with
  | [.func (.func f) ⟨[]⟩ ⟨[.pointer (some ⟨b, 0, none⟩)]⟩] => ifb (Nat.beq f g) (sumSorted0 e s (s.heap.get b)) (.no 140 "")
  | _ => .no 140 ""
def Summ.add (Sm : Summ) (f : FuncId) (g : List Value → St → Rs (Value × St)) : Summ := fun k => ifb (Nat.beq k f) (some g) (Sm k)
def fileLen (h : Tr AObj) (v : Value) : Option Nat :=
  match v with
  | .pointer (some ⟨b, o, none⟩) => (match h.get b with
    | some (.cells l _ _ _ _) => (match nth l o with
      | some (.slice _ n _) => some n
      | _ => none)
    | _ => none)
  | _ => none
def fileSum (h : Tr AObj) (es : List MapEntry) : Option Nat := List.rec (some 0) (fun e _ ih => Option.rec none (fun n => Option.rec none (fun m => natK (Nat.add n m) some) ih) (fileLen h e.val)) es
def keyStr1 (v : Value) (ih : Option (List (List UInt8))) : Option (List (List UInt8)) :=
  match v with
  | .string s => Option.rec none (fun l => some (s.data.toList :: l)) ih
  | _ => none
def keyStrs (es : List MapEntry) : Option (List (List UInt8)) := List.rec (some []) (fun e _ ih => keyStr1 e.key ih) es
def sumTotal2 (s : St) (r : Nat) : Rs (Value × St) :=
  match s.heap.get r with
  | some (.map es clock) => ifb (bornB clock es []) ((Rs.of 143 (keyStrs es)).bind fun ks => ifb (nodupB ks) ((Rs.of 143 (fileSum s.heap es)).bind fun n => ifb (Nat.ble n 1073741824) (.ok (.int .i64 (Int.ofNat n), s)) (.no 143 "")) (.no 143 "")) (.no 143 "")
  | _ => .no 143 ""
def sumTotal (args : List Value) (s : St) : Rs (Value × St) :=
  match args with
  | [.pointer (some ⟨b, o, none⟩)] => (match s.heap.get b with
    | some (.cells l _ _ _ _) => (match nth l (o + 1) with
      | some (.map (some r)) => sumTotal2 s r
      | _ => .no 143 "")
    | _ => .no 143 "")
  | _ => .no 143 ""
end
end Go.Proofs.YtihplijjkcdcjaaGreatDoor.Abs
namespace Go.Proofs.YtihplijjkcdcjaaGreatDoor
open Abs
noncomputable section
set_option linter.unusedVariables false
def crcBit (c : Nat) : Nat := ifb (Nat.beq (Nat.land c 1) 1) (Nat.xor (Nat.shiftRight c 1) 2197175160) (Nat.shiftRight c 1)
def crcBits (c : Nat) (j : Nat) : Nat := Nat.rec c (fun _ ih => natK ih crcBit) j
def crcByte (c b : Nat) : Nat := crcBits (Nat.xor c b) 8
def crcStep (v : Value) (c : Nat) (k : Nat → Option Nat) : Option Nat :=
  match v with
  | .int .u8 (.ofNat b) => ifb (Nat.blt b 256) (natK (crcByte c b) k) none
  | _ => none
def crcGo (l : List Value) : Nat → Option Nat := List.rec (fun c => some c) (fun v _ ih c => crcStep v c ih) l
def sumCrc2 (h : Tr AObj) (s : St) (x : Value) (c : Nat) : Rs (Value × St) :=
  (srcCells h 1 x).bind fun q => (Rs.of 140 (crcGo q.2 (Nat.xor 4294967295 c))).bind fun r => .ok (.int .u32 (.ofNat (Nat.xor 4294967295 r)), s)
def sumCrc (args : List Value) (s : St) : Rs (Value × St) :=
  match args with
  | [.int .u32 (.ofNat c), .slice (some a) n k] => ifb (Nat.blt c 4294967296) (ifb (Nat.ble n 1073741824) (sumCrc2 s.heap s (.slice (some a) n k) c) (.no 141 "")) (.no 141 "")
  | _ => .no 141 ""
def inSet (cs : List UInt8) (c : UInt8) : Bool := List.rec false (fun x _ ih => ifb (Nat.beq x.toNat c.toNat) true ih) cs
def dropIn (cs : List UInt8) (l : List UInt8) : List UInt8 := List.rec [] (fun c l ih => ifb (inSet cs c) ih (c :: l)) l
def trimR (cs l : List UInt8) : List UInt8 := (dropIn cs l.reverse).reverse
def allLow (cs : List UInt8) : Bool := List.rec true (fun x _ ih => ifb (Nat.blt x.toNat 128) ih false) cs
def sumTrim (args : List Value) (s : St) : Rs (Value × St) :=
  match args with
  | [.string x, .string cs] => ifb (allLow cs.data.toList && Nat.blt 1 (lenN cs.data.toList) && Nat.blt 0 (lenN x.data.toList) && Nat.ble (lenN x.data.toList) 1073741824 && Nat.ble (lenN cs.data.toList) 1073741824)
      (natK (s.next + 2) fun n => .ok (mkStr (dropIn cs.data.toList (trimR cs.data.toList x.data.toList)), ⟨s.heap, n⟩)) (.no 142 "")
  | _ => .no 142 ""
/-- a closed run that says true -/
def saysTrueQ (r : Rs Ans) : Bool :=
  match r with
  | .ok (.val (.bool true) _) => true
  | _ => false
end
end Go.Proofs.YtihplijjkcdcjaaGreatDoor

/-
  THE EVALUATOR, LAID OUT FOR SPEED: the same function; where a case is taken apart, what stands in the cases holds nothing from outside.
-/
namespace Go.Proofs.YtihplijjkcdcjaaGreatDoor.Abs
noncomputable section
set_option linter.unusedVariables false

def evQ (x : Operand) : Ac → Rs Value :=
  match x with
  | .tmp t => fun a => Ac.parts a fun ts _ _ => Rs.of 11 (ts.get t)
  | .const v => fun _ => ifb (constOk v) (.ok v) (.no 12 "")
  | .global g => fun _ => ifb (Nat.blt g 4096) (.ok (.pointer (some ⟨g, 0, none⟩))) (.no 14 "")
  | .func f => fun _ => .ok (.func (.func f) #[] #[])
theorem evQ_eq (a : Ac) : (fun x => evQ x a) = a.ev := by
  funext x
  cases a
  cases x <;> rfl
def binQ (op : BinOp) : IntKind → Int → Int → Rs Value :=
  match op with
  | .add => fun k a b => intR k (iAdd k a b)
  | .sub => fun k a b => intR k (iSub k a b)
  | .mul => fun k a b => intR k (iMul k a b)
  | .quo => fun k a b => ifb (iBeq b 0) (.no 20 "") (intR k (iQuo k a b))
  | .rem => fun k a b => ifb (iBeq b 0) (.no 20 "") (intR k (iRem a b))
  | .and => fun k a b => intR k (iBit2 .and Nat.land k a b)
  | .or => fun k a b => intR k (iBit2 .or Nat.lor k a b)
  | .xor => fun k a b => intR k (iBit2 .xor Nat.xor k a b)
  | .andNot => fun k a b => intR k (iBits .andNot k a b)
  | .eql => fun _ a b => .ok (.bool (iBeq a b))
  | .neq => fun _ a b => .ok (.bool (!iBeq a b))
  | .lss => fun _ a b => .ok (.bool (iBlt a b))
  | .leq => fun _ a b => .ok (.bool (iBle a b))
  | .gtr => fun _ a b => .ok (.bool (iBlt b a))
  | .geq => fun _ a b => .ok (.bool (iBle b a))
  | _ => fun _ _ _ => .no 21 ""
def bin3Q (op : BinOp) : IntKind → IntKind → Int → Int → Rs Value :=
  match op with
  | .shl => fun k _ a b => aShift .shl k a b
  | .shr => fun k _ a b => aShift .shr k a b
  | op => fun k k' a b => ifb (kEq k k') (binQ op k a b) (.no 28 "")
def bin2Q (y : Value) : BinOp → IntKind → Int → Rs Value :=
  match y with
  | .int k' b => fun op k a => bin3Q op k k' a b
  | _ => fun _ _ _ => .no 34 ""
theorem bin2Q_eq (y : Value) (op : BinOp) (k : IntKind) (a : Int) : bin2Q y op k a = aBinInt op k a y := by
  cases y <;> first | rfl | (cases op <;> rfl)
def aBinQ (P : Program) (x : Value) : Tr AObj → BinOp → TypeId → Bool → Value → Rs Value :=
  match x with
  | .int k a => fun _ op _ _ y => bin2Q y op k a
  | .string a => fun _ op _ _ y => aBinStr op a.data.toList y
  | x => fun h op t c y => aBinEq P h op t c x y
theorem aBinQ_eq (P : Program) (x : Value) (h : Tr AObj) (op : BinOp) (t : TypeId) (c : Bool) (y : Value) : aBinQ P x h op t c y = aBin P h op t c x y := by
  cases x <;> first | rfl | exact bin2Q_eq _ _ _ _
section
variable (P : Program)
def pOpQ (op : Op) : Tr AObj → (Operand → Rs Value) → Rs Value :=
  match op with
  | .move x => fun _ ρ => ρ x
  | .assign x => fun _ ρ => ρ x
  | .pick c a b => fun _ ρ => (ρ c).bind (pPick ρ a b)
  | .binOp op t x y _ => fun h ρ => (ρ x).bind fun a => (ρ y).bind (aBinQ P a h op t (isC x || isC y))
  | .unOp op _ x => fun _ ρ => (ρ x).bind (aUn op)
  | .convert s d x => fun h ρ => (ρ x).bind (pConv P h s d)
  | .makeInterface t x => fun _ ρ => (ρ x).bind (pIface P t)
  | .makeFunc fn f c => fun _ ρ => ifb (notYield fn) (pFunc fn f c ρ) (.no 65 "")
  | .fieldAddr s x f => fun _ ρ => (ρ x).bind (pFieldAddr P s f)
  | .field t x f => fun _ ρ => (ρ x).bind (pField P t f)
  | .indexAddr t x i => fun _ ρ => (ρ x).bind fun a => (ρ i).bind (pIndexAddr P t a)
  | .index t x i => fun _ ρ => (ρ x).bind fun a => (ρ i).bind (pIndex P t a)
  | .extract t i => fun _ ρ => (ρ t).bind (pExtract i)
  | .nilCheck x => fun _ ρ => (ρ x).bind pNilCheck
  | .build t parts => fun _ ρ => pBuild P t parts ρ
  | .typeAssert x _ t ok => fun _ ρ => (ρ x).bind (pAssert P t ok)
  | .load t x => fun h ρ => (ρ x).bind (pLoad P h t)
  | .slice t x lo hi mx => fun h ρ => pSlice P h t x lo hi mx ρ
  | .sliceToArrayPointer t x => fun _ ρ => (ρ x).bind (pArray P t)
  | .lookup t m k ok => fun h ρ => (ρ m).bind fun m => (ρ k).bind (pLookup P h t ok m)
  | .call c => fun h ρ => pCall P h c ρ
  | _ => fun _ _ => .no 62 ""
theorem pOpQ_eq (op : Op) (h : Tr AObj) (ρ : Operand → Rs Value) : pOpQ P op h ρ = pOp P h op ρ := by
  cases op with
  | binOp op t x y u =>
    show (ρ x).bind (fun a => (ρ y).bind (aBinQ P a h op t (isC x || isC y))) = (ρ x).bind fun a => (ρ y).bind (aBin P h op t (isC x || isC y) a)
    congr 1
    funext a
    congr 1
    funext b
    exact aBinQ_eq P a h op t _ b
  | _ => rfl
def goOnQ (s : St) (k : Kn) (v : Rs Value) : Rs Ans := v.bind fun v => k v [] s
def doOpQ (op : Op) : (Rq → Rs Ans) → Option Nat → (Operand → Rs Value) → St → Kn → Rs Ans :=
  match op with
  | .call c => fun ih _ ρ s k => goCall P ih ρ s k c
  | .alloc t => fun _ _ ρ s k => goNew s k (aOp P (.alloc t) ρ)
  | .box t x => fun _ _ ρ s k => goNew s k (aOp P (.box t x) ρ)
  | .buildSlice t n ps => fun _ _ ρ s k => goNew s k (aOp P (.buildSlice t n ps) ρ)
  | .makeMap t r => fun _ _ ρ s k => goNew s k (aOp P (.makeMap t r) ρ)
  | .makeSlice t l c => fun _ _ ρ s k => goNew s k (aOp P (.makeSlice t l c) ρ)
  | .convert t d x => fun _ _ ρ s k => (match cvOf P t d with
    | .new => goNew s k (aOp P (.convert t d x) ρ)
    | .same => (ρ x).bind fun x => eBytes s x (goOn2 k)
    | .plain => goOnQ s k ((ρ x).bind (pConv P s.heap t d)))
  | .store t p x => fun _ _ ρ s k => (ρ p).bind fun p => (ρ x).bind fun x => eStore P s t p x (goOn2 k)
  | .mapUpdate t m q x => fun _ _ ρ s k => (ρ m).bind fun m => (ρ q).bind fun q => (ρ x).bind fun x => eMapPut P s t m q x (goOn2 k)
  | .insert t m q x => fun _ _ ρ s k => (ρ m).bind fun m => (ρ q).bind fun q => (ρ x).bind fun x => eMapPut P s t m q x (goOn2 k)
  | .range t x => fun _ _ ρ s k => (ρ x).bind fun x => eRange P s t x (goOn2 k)
  | .next it b => fun _ _ ρ s k => (ρ it).bind fun it => eNext s b it (goOn2 k)
  | .entry it => fun _ _ ρ s k => (ρ it).bind fun it => eEntry s it (goOn2 k)
  | .mapEntry t m q => fun _ _ ρ s k => (ρ m).bind fun m => (ρ q).bind fun q => eMapEntry P s t m q (goOn2 k)
  | .entryStore _ m b x => fun _ _ ρ s k => (ρ m).bind fun m => (ρ b).bind fun b => (ρ x).bind fun x => eEntryStore s m b x (goOn2 k)
  | .defer c => fun _ rd ρ s k => goDefer rd ρ s k c
  | op => fun _ _ ρ s k => goOnQ s k (pOpQ P op s.heap ρ)
theorem doOpQ_eq (ih : Rq → Rs Ans) (rd : Option Nat) (o : Oper) (ρ : Operand → Rs Value) (s : St) (k : Kn) : doOpQ P o.op ih rd ρ s k = doOp P ih rd o ρ s k := by
  obtain ⟨d, op, ty, pos, af, g⟩ := o
  have key : ∀ op, goOnQ s k (pOpQ P op s.heap ρ) = goOn ⟨d, op, ty, pos, af, g⟩ s k (pOp P s.heap op ρ) := fun op => by rw [pOpQ_eq]; rfl
  cases op <;> first | rfl | exact key _
def putQ (d : Option Tmp) : Ac → Value → (Ac → Rs Ans) → Rs Ans :=
  match d with
  | none => fun a _ k => k a
  | some t => fun a v k => Ac.parts a fun ts n ds => ifb (Nat.blt t n) (forceV v fun v => (ts.set t v).force fun ts => k ⟨ts, n, ds⟩) (.no 13 "")
theorem putQ_eq (d : Option Tmp) (a : Ac) (v : Value) (k : Ac → Rs Ans) : putQ d a v k = a.put d v k := by cases d <;> rfl
def goPutQ (d : Option Tmp) (a : Ac) (k : Ac → St → Rs Ans) (v : Value) (ds : List Deferred) (s : St) : Rs Ans :=
  List.rec (putQ d a v fun a => k a s) (fun x r _ => Ac.parts a fun ts n ds => putQ d ⟨ts, n, x :: (r ++ ds)⟩ v fun a => k a s) ds
theorem goPutQ_eq (o : Oper) (a : Ac) (k : Ac → St → Rs Ans) (v : Value) (ds : List Deferred) (s : St) : goPutQ o.dst a k v ds s = goPut o a k v ds s := by
  cases ds with
  | nil => exact putQ_eq _ _ _ _
  | cons x r =>
    show (Ac.parts a fun ts n ds => putQ o.dst ⟨ts, n, x :: (r ++ ds)⟩ v fun a => k a s) = Ac.parts a fun ts n ds => Ac.put ⟨ts, n, x :: (r ++ ds)⟩ o.dst v fun a => k a s
    congr 1
    funext ts n ds
    exact putQ_eq _ _ _ _
def oneQ (o : Oper) (g : Option (Nat × Bool)) : (Rq → Rs Ans) → Option Nat → Array Oper → Ac → St → (Ac → St → Rs Ans) → Rs Ans :=
  match g with
  | none => fun ih rd ops a s k => doOpQ P o.op ih rd (fun x => evQ x a) s (goPutQ o.dst a k)
  | some _ => fun ih rd ops a s k => (wantedA ops o a).bind fun w => ifb w (doOpQ P o.op ih rd (fun x => evQ x a) s (goPutQ o.dst a k)) (putQ o.dst a undefV fun a => k a s)
def onRunQ (l : List Oper) : (Rq → Rs Ans) → FuncId → Option Nat → Array Oper → Ac → St → Rs Ans :=
  match l with
  | [] => fun _ _ _ _ a s => .ok (.at .normal a s)
  | o :: l => fun ih fn rd ops a s => oneQ P o o.guard ih rd ops a s fun a s => ih (.run fn rd ops l a s)
theorem onRunQ_eq (ih : Rq → Rs Ans) (fn : FuncId) (rd : Option Nat) (ops : Array Oper) (l : List Oper) (a : Ac) (s : St) : onRunQ P l ih fn rd ops a s = onRun P ih fn rd ops l a s := by
  cases l with
  | nil => rfl
  | cons o l =>
    have e1 : ∀ k : Ac → St → Rs Ans, doOpQ P o.op ih rd (fun x => evQ x a) s (goPutQ o.dst a k) = doOp P ih rd o a.ev s (goPut o a k) := fun k => by
      rw [doOpQ_eq, evQ_eq]
      congr 1
      funext v ds s
      exact goPutQ_eq _ _ _ _ _ _
    show oneQ P o o.guard ih rd ops a s (fun a s => ih (.run fn rd ops l a s)) = (wantedA ops o a).bind fun w => ifb w (doOp P ih rd o a.ev s (goPut o a fun a s => ih (.run fn rd ops l a s))) (a.put o.dst undefV fun a => ih (.run fn rd ops l a s))
    cases hg : o.guard with
    | none =>
      have hw : wantedA ops o a = .ok true := by unfold wantedA; rw [hg]
      rw [hw]
      exact e1 _
    | some g =>
      show (wantedA ops o a).bind _ = _
      congr 1
      funext w
      rw [e1, putQ_eq]
def onCodeQ (c : Code) : (Rq → Rs Ans) → FuncId → Option Nat → Ac → St → Rs Ans :=
  match c with
  | .skip => fun _ _ _ a s => .ok (.at .normal a s)
  | .label _ => fun _ _ _ a s => .ok (.at .normal a s)
  | .seq x y => fun ih fn rd a s => onSeq ih fn rd y (ih (.code fn rd x a s))
  | .cond c x y => fun ih fn rd a s => (evQ c a).bind (onCond ih fn rd x y a s)
  | .block id b => fun ih fn rd a s => onBlock id (ih (.code fn rd b a s))
  | .loop b => fun ih fn rd a s => onSeq ih fn rd (.loop b) (ih (.code fn rd b a s))
  | .scope b => fun ih fn rd a s => onScope (ih (.code fn rd b a s))
  | .exit id => fun _ _ _ a s => .ok (.at (.jump (.exit id)) a s)
  | .ret => fun _ _ _ a s => .ok (.at (.jump .ret) a s)
  | .goto _ => fun _ _ _ _ _ => .no 112 ""
  | .refuse _ => fun _ _ _ _ _ => .no 113 ""
  | .region _ ops draw => fun ih fn rd a s => onRegion P ih fn rd ops draw a s
  | .rangeFunc f params assign body => fun ih fn rd a s => (a.ev f).bind (onRange ih fn rd params assign body a s)
theorem onCodeQ_eq (ih : Rq → Rs Ans) (fn : FuncId) (rd : Option Nat) (c : Code) (a : Ac) (s : St) : onCodeQ P c ih fn rd a s = onCode P ih fn rd c a s := by
  cases c with
  | cond c x y =>
    show (evQ c a).bind _ = (a.ev c).bind _
    rw [← evQ_eq]
  | _ => rfl
def stepQ (q : Rq) : Summ → (Rq → Rs Ans) → Rs Ans :=
  match q with
  | .code fn rd c a s => fun _ ih => onCodeQ P c ih fn rd a s
  | .run fn rd ops l a s => fun _ ih => onRunQ P l ih fn rd ops a s
  | .steps fn rd ops l base a s => fun _ ih => onSteps P ih fn rd ops l base a s
  | .inv t args s => fun Sm ih => onInv P Sm ih t args s
  | .dfr l s => fun Sm ih => onDfrs Sm ih l s
theorem stepQ_eq (Sm : Summ) (ih : Rq → Rs Ans) (q : Rq) : stepQ P q Sm ih = step P Sm ih q := by
  cases q with
  | code fn rd c a s => exact onCodeQ_eq P ih fn rd c a s
  | run fn rd ops l a s => exact onRunQ_eq P ih fn rd ops l a s
  | _ => rfl
def runQ (Sm : Summ) (n : Nat) : Rq → Rs Ans := Nat.rec (fun _ => .no 0 "fuel") (fun _ ih q => stepQ P q Sm ih) n
theorem runQ_eq (Sm : Summ) (n : Nat) : runQ P Sm n = run P Sm n := by
  induction n with
  | zero => rfl
  | succ n ih =>
    funext q
    show stepQ P q Sm (runQ P Sm n) = step P Sm (run P Sm n) q
    rw [stepQ_eq, ih]
end
end
end Go.Proofs.YtihplijjkcdcjaaGreatDoor.Abs

/-
  The evaluator's summaries: one or the other. A definition.
-/
namespace Go.Proofs.YtihplijjkcdcjaaGreatDoor.Abs
noncomputable def orSum (f g : List Value → St → Rs (Value × St)) (args : List Value) (s : St) : Rs (Value × St) := Rs.rec (fun r => .ok r) (fun _ _ => g args s) (f args s)
theorem orSum_ok {f g : List Value → St → Rs (Value × St)} {args : List Value} {s : St} {r : Value × St} (h : orSum f g args s = .ok r) : f args s = .ok r ∨ g args s = .ok r := by
  unfold orSum at h
  cases hf : f args s with
  | ok a => rw [hf] at h; exact .inl h
  | no c m => rw [hf] at h; exact .inr h
end Go.Proofs.YtihplijjkcdcjaaGreatDoor.Abs

/-
  What the evaluator's summary of sha's rounds computes. Definitions only.
-/
namespace Go.Proofs.YtihplijjkcdcjaaGreatDoor
open Abs
noncomputable section
set_option linter.unusedVariables false
def rr (x n m : Nat) : Nat := Nat.lor (Nat.mod (Nat.shiftLeft x m) 4294967296) (Nat.shiftRight x n)
def add32 (a b : Nat) : Nat := Nat.mod (Nat.add a b) 4294967296
def sh0 (x : Nat) : Nat := Nat.xor (Nat.xor (rr x 7 25) (rr x 18 14)) (Nat.shiftRight x 3)
def sh1 (x : Nat) : Nat := Nat.xor (Nat.xor (rr x 17 15) (rr x 19 13)) (Nat.shiftRight x 10)
def shE (x : Nat) : Nat := Nat.xor (Nat.xor (rr x 6 26) (rr x 11 21)) (rr x 25 7)
def shA (x : Nat) : Nat := Nat.xor (Nat.xor (rr x 2 30) (rr x 13 19)) (rr x 22 10)
def shCh (e f g : Nat) : Nat := Nat.xor (Nat.land e f) (Nat.land (Nat.xor 4294967295 e) g)
def shMj (a b c : Nat) : Nat := Nat.xor (Nat.xor (Nat.land a b) (Nat.land a c)) (Nat.land b c)
def shT (k w e f g h : Nat) : Nat := add32 (add32 (add32 (add32 h (shE e)) (shCh e f g)) k) w
def shU (a b c : Nat) : Nat := add32 (shA a) (shMj a b c)
def shN (w0 w1 w9 w14 : Nat) : Nat := add32 (add32 (add32 w0 (sh0 w1)) w9) (sh1 w14)
def shaR (ks : List Nat) : Nat → Nat → Nat → Nat → Nat → Nat → Nat → Nat → Nat → Nat → Nat → Nat → Nat → Nat → Nat → Nat → Nat → Nat → Nat → Nat → Nat → Nat → Nat → Nat → List Nat :=
  List.rec (fun _ _ _ _ _ _ _ _ _ _ _ _ _ _ _ _ a b c d e f g h => [a, b, c, d, e, f, g, h])
    (fun k _ ih w0 w1 w2 w3 w4 w5 w6 w7 w8 w9 w10 w11 w12 w13 w14 w15 a b c d e f g h =>
      natK (shN w0 w1 w9 w14) fun w16 => natK (shT k w0 e f g h) fun t => natK (add32 t (shU a b c)) fun x => natK (add32 d t) fun y =>
        ih w1 w2 w3 w4 w5 w6 w7 w8 w9 w10 w11 w12 w13 w14 w15 w16 x a b c y e f g) ks
def onU8 {α : Type} (v : Value) (k : Nat → Option α) : Option α :=
  match v with
  | .int .u8 (.ofNat b) => ifb (Nat.blt b 256) (natK b k) none
  | _ => none
def onU32 {α : Type} (v : Value) (k : Nat → Option α) : Option α :=
  match v with
  | .int .u32 (.ofNat b) => ifb (Nat.blt b 4294967296) (natK b k) none
  | _ => none
def tkU8 {α : Type} (l : List Value) (k : Nat → List Value → Option α) : Option α := List.rec none (fun v l _ => onU8 v fun b => k b l) l
def be32 (a b c d : Nat) : Nat := Nat.lor (Nat.lor (Nat.lor (Nat.mod (Nat.shiftLeft a 24) 4294967296) (Nat.mod (Nat.shiftLeft b 16) 4294967296)) (Nat.mod (Nat.shiftLeft c 8) 4294967296)) d
/-- so many words, four bytes each -/
def words (n : Nat) : List Value → Option (List Nat) :=
  Nat.rec (fun _ => some []) (fun _ ih l => tkU8 l fun a l => tkU8 l fun b l => tkU8 l fun c l => tkU8 l fun d l => natK (be32 a b c d) fun w => Option.rec none (fun ws => some (w :: ws)) (ih l)) n
def u32s (l : List Value) : Option (List Nat) := List.rec (some []) (fun v _ ih => onU32 v fun x => Option.rec none (fun ws => some (x :: ws)) ih) l
def cut1 {α : Type} (l : List Nat) (k : Nat → List Nat → Option α) : Option α := List.rec none (fun x l _ => k x l) l
def cut8 {α : Type} (l : List Nat) (k : Nat → Nat → Nat → Nat → Nat → Nat → Nat → Nat → List Nat → Option α) : Option α :=
  cut1 l fun a l => cut1 l fun b l => cut1 l fun c l => cut1 l fun d l => cut1 l fun e l => cut1 l fun f l => cut1 l fun g l => cut1 l fun h l => k a b c d e f g h l
def end0 {α : Type} (l : List Nat) (x : Option α) : Option α := List.rec x (fun _ _ _ => none) l
def shaBlock (ks ws vs : List Nat) : Option (List Nat) :=
  cut8 ws fun w0 w1 w2 w3 w4 w5 w6 w7 ws => cut8 ws fun w8 w9 w10 w11 w12 w13 w14 w15 ws => end0 ws (cut8 vs fun a b c d e f g h vs => end0 vs
    (some (shaR ks w0 w1 w2 w3 w4 w5 w6 w7 w8 w9 w10 w11 w12 w13 w14 w15 a b c d e f g h)))
def addAll (l : List Nat) : List Nat → List Value := List.rec (fun _ => []) (fun x _ ih m => List.rec [] (fun y m _ => natK (add32 x y) fun z => .int .u32 (Int.ofNat z) :: ih m) m) l
def sumTake3 (s : St) (sb : Nat) (e : TypeId) (z : Nat) (bs ks vs : List Value) : Rs (Value × St) :=
  (Rs.of 160 (words 16 bs)).bind fun ws => (Rs.of 160 (u32s ks)).bind fun ks => (Rs.of 160 (u32s vs)).bind fun vs => ifb (Nat.beq (lenN ks) 64) ((Rs.of 160 (shaBlock ks ws vs)).bind fun r =>
    s.put sb (.cells (addAll vs r) e z false (0, 0)) fun s => s.parts fun h n => natK (Nat.add n 2) fun n => .ok (undefV, ⟨h, n⟩)) (.no 160 "")
def sumTake2 (s : St) (sb : Nat) (kb : Nat) (x : Value) (o : Option AObj) : Rs (Value × St) :=
  match o with
  | some (.cells vs e z false (0, 0)) => (objCells (s.heap.get kb)).bind fun ks => (srcCells s.heap 1 x).bind fun q => sumTake3 s sb e z q.2 ks vs
  | _ => .no 160 ""
/-- a block taken in -/
def sumTake (args : List Value) (s : St) : Rs (Value × St) :=
  match args with
  | [.pointer (some ⟨sb, 0, none⟩), .slice (some ⟨b, o, none⟩) 64 c, .pointer (some ⟨kb, 0, none⟩)] => sumTake2 s sb kb (.slice (some ⟨b, o, none⟩) 64 c) (s.heap.get sb)
  | _ => .no 160 ""
end
end Go.Proofs.YtihplijjkcdcjaaGreatDoor

/-
  A closed run is cut: what one call does at one state is told by the blocks that it looks at and what it leaves of them. Definitions only.
-/
namespace Go.Proofs.YtihplijjkcdcjaaGreatDoor.Abs
noncomputable section
set_option linter.unusedVariables false
def vSameL (f : Value → Value → Bool) (x : List Value) : List Value → Bool :=
  List.rec (fun y => List.rec true (fun _ _ _ => false) y) (fun a _ ih y => List.rec false (fun b y _ => ifb (f a b) (ih y) false) y) x
def adSame (a b : Option Addr) : Bool :=
  match a, b with
  | none, none => true
  | some ⟨b, o, none⟩, some ⟨c, p, none⟩ => ifb (Nat.beq b c) (Nat.beq o p) false
  | _, _ => false
def refSame (a b : Option Nat) : Bool :=
  match a, b with
  | none, none => true
  | some b, some c => Nat.beq b c
  | _, _ => false
def bSame (a b : Bool) : Bool := Bool.rec (Bool.rec true false b) b a
def vInt (j : IntKind) (x : Int) (b : Value) : Bool :=
  match b with
  | .int k y => ifb (kEq j k) (iBeq x y) false
  | _ => false
def vStr (x : ByteArray) (b : Value) : Bool :=
  match b with
  | .string y => bEq x.data.toList y.data.toList
  | _ => false
def vBool (x : Bool) (b : Value) : Bool :=
  match b with
  | .bool y => bSame x y
  | _ => false
def vPtr (x : Option Addr) (b : Value) : Bool :=
  match b with
  | .pointer y => adSame x y
  | _ => false
def vSlc (x : Option Addr) (n c : Nat) (b : Value) : Bool :=
  match b with
  | .slice y m d => ifb (adSame x y) (ifb (Nat.beq n m) (Nat.beq c d) false) false
  | _ => false
def vMap (x : Option Nat) (b : Value) : Bool :=
  match b with
  | .map y => refSame x y
  | _ => false
def vNilF (b : Value) : Bool :=
  match b with
  | .nilFunc => true
  | _ => false
def vNilI (b : Value) : Bool :=
  match b with
  | .nilIface => true
  | _ => false
def vAgg (f : Value → Value → Bool) (x : List Value) (b : Value) : Bool :=
  match b with
  | .agg y => vSameL f x y.toList
  | _ => false
def vTup (f : Value → Value → Bool) (x : List Value) (b : Value) : Bool :=
  match b with
  | .tuple y => vSameL f x y.toList
  | _ => false
def vIfc (f : Value → Value → Bool) (t : TypeId) (x : Value) (b : Value) : Bool :=
  match b with
  | .iface u y => ifb (Nat.beq t u) (f x y) false
  | _ => false
def vSame1 (f : Value → Value → Bool) (a b : Value) : Bool :=
  match a with
  | .int j x => vInt j x b
  | .string x => vStr x b
  | .bool x => vBool x b
  | .pointer x => vPtr x b
  | .slice x n c => vSlc x n c b
  | .map x => vMap x b
  | .nilFunc => vNilF b
  | .nilIface => vNilI b
  | .agg x => vAgg f x.toList b
  | .tuple x => vTup f x.toList b
  | .iface t x => vIfc f t x b
  | _ => false
/-- are two values the same, to the last bit? -/
def vSame : Value → Value → Bool := vSame1 (vSame1 (vSame1 fun _ _ => false))
def eSame (a b : MapEntry) : Bool :=
  match a, b with
  | ⟨k, v, n⟩, ⟨j, u, m⟩ => ifb (vSame k j) (ifb (vSame v u) (Nat.beq n m) false) false
def eSameL (x : List MapEntry) : List MapEntry → Bool :=
  List.rec (fun y => List.rec true (fun _ _ _ => false) y) (fun a _ ih y => List.rec false (fun b y _ => ifb (eSame a b) (ih y) false) y) x
def pSame (a b : Nat × Nat) : Bool :=
  match a, b with
  | ⟨i, j⟩, ⟨k, l⟩ => ifb (Nat.beq i k) (Nat.beq j l) false
def oCells (l : List Value) (e : TypeId) (s : Nat) (o : Bool) (fz : Nat × Nat) (b : AObj) : Bool :=
  match b with
  | .cells l' e' s' o' fz' => ifb (Nat.beq e e') (ifb (Nat.beq s s') (ifb (bSame o o') (ifb (pSame fz fz') (vSameL vSame l l') false) false) false) false
  | _ => false
def oConst (l : List Value) (e : TypeId) (b : AObj) : Bool :=
  match b with
  | .const l' e' => ifb (Nat.beq e e') (vSameL vSame l l') false
  | _ => false
def oMap (es : List MapEntry) (c : Nat) (b : AObj) : Bool :=
  match b with
  | .map es' c' => ifb (Nat.beq c c') (eSameL es es') false
  | _ => false
def oSame (a b : AObj) : Bool :=
  match a with
  | .cells l e s o fz => oCells l e s o fz b
  | .const l e => oConst l e b
  | .map es c => oMap es c b
  | _ => false
def oIs (o : Option AObj) (x : AObj) : Bool := Option.rec false (fun y => oSame y x) o
def footOk (h : Tr AObj) (l : List (Nat × AObj)) : Bool := List.rec true (fun p _ ih => ifb (oIs (h.get p.1) p.2) ih false) l
def outOk (h : Tr AObj) (l : List (Nat × Option AObj)) : Bool := List.rec true (fun p _ ih => ifb (Option.rec true (fun x => oIs (h.get p.1) x) p.2) ih false) l
def putAllO (l : List (Nat × Option AObj)) : Tr AObj → Tr AObj := List.rec (fun h => h) (fun p _ ih h => (Tr.put p.2 h p.1).force ih) l
/-- what one call does at one state: its arguments, the next block's name, the blocks that stay, those that turn (and what they were), those that are left behind (or forgotten), the answer, the next block's name behind it -/
structure Cut where
  args : List Value
  n0 : Nat
  same : List (Nat × AObj)
  turned : List (Nat × AObj)
  out : List (Nat × Option AObj)
  res : Value
  n1 : Nat
def somes (l : List (Nat × AObj)) : List (Nat × Option AObj) := l.map fun p => (p.1, some p.2)
/-- the state that is looked at, over tables that are there anyway -/
def Cut.st (c : Cut) (B : Tr AObj) : St := ⟨putAllO (somes c.turned) (putAllO (somes c.same) B), c.n0⟩
def memN (l : List (Nat × Option AObj)) (b : Nat) : Bool := List.rec false (fun p _ ih => ifb (Nat.beq p.1 b) true ih) l
/-- is it what the call does? -/
def Cut.good (c : Cut) (r : Rs Ans) : Bool :=
  match r with
  | .ok (.val v s) => ifb (vSame v c.res) (ifb (Nat.ble s.next c.n1) (ifb (footOk s.heap c.same) (ifb (outOk s.heap c.out) (c.turned.all fun p => memN c.out p.1) false) false) false) false
  | _ => false
def Cut.says (c : Cut) (args : List Value) (s : St) : Rs (Value × St) :=
  ifb (vSameL vSame args c.args) (ifb (footOk s.heap c.same) (ifb (footOk s.heap c.turned) ((putAllO c.out s.heap).force fun h => .ok (c.res, ⟨h, c.n1⟩)) (.no 170 "")) (.no 170 "")) (.no 170 "")
/-- some calls of one function, by the next block's name -/
def pickCut (l : List Cut) (args : List Value) (s : St) : Rs (Value × St) := List.rec (.no 170 "") (fun c _ ih => ifb (Nat.beq s.next c.n0) (c.says args s) ih) l
def sumCuts (base : Tr AObj → Option (Tr AObj)) (l : List Cut) (args : List Value) (s : St) : Rs (Value × St) := Option.rec (.no 170 "") (fun _ => pickCut l args s) (base s.heap)
/-- no table; one whose number is not known -/
def base0 : Tr AObj → Option (Tr AObj) := fun _ => some .nil
def baseM2 (g : Nat) (o : Option AObj) : Option (Tr AObj) :=
  match o with
  | some (.const [.int .i64 m] e) => some (Tr.nil.set g (.const [.int .i64 m] e))
  | _ => none
def baseM (g : Nat) (h : Tr AObj) : Option (Tr AObj) := baseM2 g (h.get g)
/-- bytes' cells, out of one number -/
def u8s (len n : Nat) : List Value := Nat.rec (fun _ => []) (fun _ ih n => natK (Nat.mod n 256) fun b => natK (Nat.div n 256) fun m => .int .u8 (.ofNat b) :: ih m) len n
def strs (len n : Nat) : Value := .string ⟨⟨Nat.rec (fun _ => []) (fun _ ih n => natK (Nat.mod n 256) fun b => natK (Nat.div n 256) fun m => UInt8.ofNat b :: ih m) len n⟩⟩
/-! ### short words -/
def vi (n : Nat) : Value := .int .i64 (.ofNat n)
def vj (n : Nat) : Value := .int .i64 (.negSucc n)
def vb (n : Nat) : Value := .int .u8 (.ofNat n)
def vw (n : Nat) : Value := .int .u32 (.ofNat n)
def vu (n : Nat) : Value := .int .u64 (.ofNat n)
def vp (b o : Nat) : Value := .pointer (some ⟨b, o, none⟩)
def vl (b o n c : Nat) : Value := .slice (some ⟨b, o, none⟩) n c
def vo (b o n : Nat) : Value := .slice (some ⟨b, o, none⟩) n open_
def vm (r : Nat) : Value := .map (some r)
def vT : Value := .bool true
def vF : Value := .bool false
def p0 : Value := .pointer none
def l0 : Value := .slice none 0 0
def m0 : Value := .map none
def e0 : Value := .string ⟨⟨[]⟩⟩
def cO (l : List Value) (e s : Nat) : AObj := .cells l e s true (0, 0)
def cC (l : List Value) (e s : Nat) : AObj := .cells l e s false (0, 0)
def en (k v : Value) (n : Nat) : MapEntry := ⟨k, v, n⟩
end
end Go.Proofs.YtihplijjkcdcjaaGreatDoor.Abs

/-
  What the evaluator's summary of bytes.Index computes. Definitions only.
-/
namespace Go.Proofs.YtihplijjkcdcjaaGreatDoor.Abs
noncomputable section
set_option linter.unusedVariables false
def onByte (v : Value) (k : Nat → Option (List Nat)) : Option (List Nat) :=
  match v with
  | .int .u8 (.ofNat b) => ifb (Nat.blt b 256) (natK b k) none
  | _ => none
def nats8 (l : List Value) : Option (List Nat) := List.rec (some []) (fun v _ ih => onByte v fun b => Option.rec none (fun l => some (b :: l)) ih) l
def preN (x : List Nat) : List Nat → Bool := List.rec (fun _ => true) (fun a _ ih y => List.rec false (fun b y _ => ifb (Nat.beq a b) (ih y) false) y) x
def findN (y x : List Nat) : Nat → Option Nat := List.rec (fun i => ifb (preN y []) (some i) none) (fun b l ih i => ifb (preN y (b :: l)) (some i) (ih (Nat.succ i))) x
def sumIdx2 (s : St) (x y : Value) : Rs (Value × St) :=
  (srcCells s.heap 1 x).bind fun p => (Rs.of 180 (nats8 p.2)).bind fun xs => (srcCells s.heap 1 y).bind fun q => (Rs.of 180 (nats8 q.2)).bind fun ys => .ok (optI (findN ys xs 0), s)
/-- the first place of bytes in bytes; g: the variable whose number is not known -/
def sumIdx (g : Nat) (args : List Value) (s : St) : Rs (Value × St) :=
  match args with
  | [.slice (some a) n c, .slice (some b) m d] => ifb (Nat.blt 0 n) (ifb (Nat.blt 0 m) (ifb (Nat.ble n 1073741824) (ifb (Nat.ble m 1073741824) ((Rs.of 180 (baseM g s.heap)).bind fun _ => sumIdx2 s (.slice (some a) n c) (.slice (some b) m d)) (.no 180 "")) (.no 180 "")) (.no 180 "")) (.no 180 "")
  | _ => .no 180 ""
end
end Go.Proofs.YtihplijjkcdcjaaGreatDoor.Abs

/-
  A cut of a closed run, as the evaluator runs it. A definition.
-/
namespace Go.Proofs.YtihplijjkcdcjaaGreatDoor.Abs
noncomputable def Cut.runs (P : Program) (Sm : Summ) (f : FuncId) (B : Tr AObj) (c : Cut) : Rs Ans :=
  (putAllO (somes c.turned) (putAllO (somes c.same) B)).force fun h => natK c.n0 fun n => runQ P Sm 1000000000 (.inv (.fn (.func f) #[]) c.args ⟨h, n⟩)
theorem Cut.runs_eq (P : Program) (Sm : Summ) (f : FuncId) (B : Tr AObj) (c : Cut) : c.runs P Sm f B = run P Sm 1000000000 (.inv (.fn (.func f) #[]) c.args (c.st B)) := by
  unfold Cut.runs
  rw [Tr.force_eq, natK_eq, runQ_eq]
  rfl
end Go.Proofs.YtihplijjkcdcjaaGreatDoor.Abs

/-
  At this program: the evaluator's summaries below the cuts (check sums, strings.Trim, sha's rounds, sorted keys). A definition.
-/
namespace Go.Proofs.YtihplijjkcdcjaaGreatDoor
open Abs
noncomputable def SmZ : Abs.Summ := fun _ => none
noncomputable def sumKeys : List Value → St → Rs (Value × St) := orSum (sumSorted 235 9) (orSum (sumSorted 147 9) (sumSorted 367 9))
noncomputable def SmB : Abs.Summ := (((((SmZ.add 69 sumKeys).add 183 (sumIdx 0)).add 382 sumTotal).add 376 sumCrc).add 185 sumTrim).add 278 sumTake
end Go.Proofs.YtihplijjkcdcjaaGreatDoor

