/-
  THE EVALUATOR, LAID OUT FOR SPEED: the same function; where a case is taken apart, what stands in the cases holds nothing from outside.
-/
import Derived.Test.YtbakhdgiimjnkaaGreatDoorAbsA
set_option linter.unusedVariables false
set_option linter.unusedSimpArgs false
namespace Go.Proofs.YtbakhdgiimjnkaaGreatDoor.Abs
noncomputable section
set_option linter.unusedVariables false

def evQ (x : Operand) : Ac → Rs Value :=
  match x with
  | .tmp t => fun a => Ac.parts a fun ts _ _ => Rs.of 11 (ts.get t)
  | .const v => fun _ => ifb (constOk v) (.ok v) (.no 12 "")
  | .global g => fun _ => ifb (Nat.blt g 4096) (.ok (.pointer (some ⟨g, 0, none⟩))) (.no 14 "")
  | .func f => fun _ => .ok (.func (.func f) #[] #[])
theorem evQ_eq (a : Ac) : (fun x => evQ x a) = a.ev := by
  funext x
  cases a
  cases x <;> rfl
def binQ (op : BinOp) : IntKind → Int → Int → Rs Value :=
  match op with
  | .add => fun k a b => intR k (iAdd k a b)
  | .sub => fun k a b => intR k (iSub k a b)
  | .mul => fun k a b => intR k (iMul k a b)
  | .quo => fun k a b => ifb (iBeq b 0) (.no 20 "") (intR k (iQuo k a b))
  | .rem => fun k a b => ifb (iBeq b 0) (.no 20 "") (intR k (iRem a b))
  | .and => fun k a b => intR k (iBit2 .and Nat.land k a b)
  | .or => fun k a b => intR k (iBit2 .or Nat.lor k a b)
  | .xor => fun k a b => intR k (iBit2 .xor Nat.xor k a b)
  | .andNot => fun k a b => intR k (iBits .andNot k a b)
  | .eql => fun _ a b => .ok (.bool (iBeq a b))
  | .neq => fun _ a b => .ok (.bool (!iBeq a b))
  | .lss => fun _ a b => .ok (.bool (iBlt a b))
  | .leq => fun _ a b => .ok (.bool (iBle a b))
  | .gtr => fun _ a b => .ok (.bool (iBlt b a))
  | .geq => fun _ a b => .ok (.bool (iBle b a))
  | _ => fun _ _ _ => .no 21 ""
def bin3Q (op : BinOp) : IntKind → IntKind → Int → Int → Rs Value :=
  match op with
  | .shl => fun k _ a b => aShift .shl k a b
  | .shr => fun k _ a b => aShift .shr k a b
  | op => fun k k' a b => ifb (kEq k k') (binQ op k a b) (.no 28 "")
def bin2Q (y : Value) : BinOp → IntKind → Int → Rs Value :=
  match y with
  | .int k' b => fun op k a => bin3Q op k k' a b
  | _ => fun _ _ _ => .no 34 ""
theorem bin2Q_eq (y : Value) (op : BinOp) (k : IntKind) (a : Int) : bin2Q y op k a = aBinInt op k a y := by
  cases y <;> first | rfl | (cases op <;> rfl)
def aBinQ (P : Program) (x : Value) : Tr AObj → BinOp → TypeId → Bool → Value → Rs Value :=
  match x with
  | .int k a => fun _ op _ _ y => bin2Q y op k a
  | .string a => fun _ op _ _ y => aBinStr op a.data.toList y
  | x => fun h op t c y => aBinEq P h op t c x y
theorem aBinQ_eq (P : Program) (x : Value) (h : Tr AObj) (op : BinOp) (t : TypeId) (c : Bool) (y : Value) : aBinQ P x h op t c y = aBin P h op t c x y := by
  cases x <;> first | rfl | exact bin2Q_eq _ _ _ _
section
variable (P : Program)
def pOpQ (op : Op) : Tr AObj → (Operand → Rs Value) → Rs Value :=
  match op with
  | .move x => fun _ ρ => ρ x
  | .assign x => fun _ ρ => ρ x
  | .pick c a b => fun _ ρ => (ρ c).bind (pPick ρ a b)
  | .binOp op t x y _ => fun h ρ => (ρ x).bind fun a => (ρ y).bind (aBinQ P a h op t (isC x || isC y))
  | .unOp op _ x => fun _ ρ => (ρ x).bind (aUn op)
  | .convert s d x => fun h ρ => (ρ x).bind (pConv P h s d)
  | .makeInterface t x => fun _ ρ => (ρ x).bind (pIface P t)
  | .makeFunc fn f c => fun _ ρ => ifb (notYield fn) (pFunc fn f c ρ) (.no 65 "")
  | .fieldAddr s x f => fun _ ρ => (ρ x).bind (pFieldAddr P s f)
  | .field t x f => fun _ ρ => (ρ x).bind (pField P t f)
  | .indexAddr t x i => fun _ ρ => (ρ x).bind fun a => (ρ i).bind (pIndexAddr P t a)
  | .index t x i => fun _ ρ => (ρ x).bind fun a => (ρ i).bind (pIndex P t a)
  | .extract t i => fun _ ρ => (ρ t).bind (pExtract i)
  | .nilCheck x => fun _ ρ => (ρ x).bind pNilCheck
  | .build t parts => fun _ ρ => pBuild P t parts ρ
  | .typeAssert x _ t ok => fun _ ρ => (ρ x).bind (pAssert P t ok)
  | .load t x => fun h ρ => (ρ x).bind (pLoad P h t)
  | .slice t x lo hi mx => fun h ρ => pSlice P h t x lo hi mx ρ
  | .sliceToArrayPointer t x => fun _ ρ => (ρ x).bind (pArray P t)
  | .lookup t m k ok => fun h ρ => (ρ m).bind fun m => (ρ k).bind (pLookup P h t ok m)
  | .call c => fun h ρ => pCall P h c ρ
  | _ => fun _ _ => .no 62 ""
theorem pOpQ_eq (op : Op) (h : Tr AObj) (ρ : Operand → Rs Value) : pOpQ P op h ρ = pOp P h op ρ := by
  cases op with
  | binOp op t x y u =>
    show (ρ x).bind (fun a => (ρ y).bind (aBinQ P a h op t (isC x || isC y))) = (ρ x).bind fun a => (ρ y).bind (aBin P h op t (isC x || isC y) a)
    congr 1
    funext a
    congr 1
    funext b
    exact aBinQ_eq P a h op t _ b
  | _ => rfl
def goOnQ (s : St) (k : Kn) (v : Rs Value) : Rs Ans := v.bind fun v => k v [] s
def doOpQ (op : Op) : (Rq → Rs Ans) → Option Nat → (Operand → Rs Value) → St → Kn → Rs Ans :=
  match op with
  | .call c => fun ih _ ρ s k => goCall P ih ρ s k c
  | .alloc t => fun _ _ ρ s k => goNew s k (aOp P (.alloc t) ρ)
  | .box t x => fun _ _ ρ s k => goNew s k (aOp P (.box t x) ρ)
  | .buildSlice t n ps => fun _ _ ρ s k => goNew s k (aOp P (.buildSlice t n ps) ρ)
  | .makeMap t r => fun _ _ ρ s k => goNew s k (aOp P (.makeMap t r) ρ)
  | .makeSlice t l c => fun _ _ ρ s k => goNew s k (aOp P (.makeSlice t l c) ρ)
  | .convert t d x => fun _ _ ρ s k => (match cvOf P t d with
    | .new => goNew s k (aOp P (.convert t d x) ρ)
    | .same => (ρ x).bind fun x => eBytes s x (goOn2 k)
    | .plain => goOnQ s k ((ρ x).bind (pConv P s.heap t d)))
  | .store t p x => fun _ _ ρ s k => (ρ p).bind fun p => (ρ x).bind fun x => eStore P s t p x (goOn2 k)
  | .mapUpdate t m q x => fun _ _ ρ s k => (ρ m).bind fun m => (ρ q).bind fun q => (ρ x).bind fun x => eMapPut P s t m q x (goOn2 k)
  | .insert t m q x => fun _ _ ρ s k => (ρ m).bind fun m => (ρ q).bind fun q => (ρ x).bind fun x => eMapPut P s t m q x (goOn2 k)
  | .range t x => fun _ _ ρ s k => (ρ x).bind fun x => eRange P s t x (goOn2 k)
  | .next it b => fun _ _ ρ s k => (ρ it).bind fun it => eNext s b it (goOn2 k)
  | .entry it => fun _ _ ρ s k => (ρ it).bind fun it => eEntry s it (goOn2 k)
  | .mapEntry t m q => fun _ _ ρ s k => (ρ m).bind fun m => (ρ q).bind fun q => eMapEntry P s t m q (goOn2 k)
  | .entryStore _ m b x => fun _ _ ρ s k => (ρ m).bind fun m => (ρ b).bind fun b => (ρ x).bind fun x => eEntryStore s m b x (goOn2 k)
  | .defer c => fun _ rd ρ s k => goDefer rd ρ s k c
  | op => fun _ _ ρ s k => goOnQ s k (pOpQ P op s.heap ρ)
theorem doOpQ_eq (ih : Rq → Rs Ans) (rd : Option Nat) (o : Oper) (ρ : Operand → Rs Value) (s : St) (k : Kn) : doOpQ P o.op ih rd ρ s k = doOp P ih rd o ρ s k := by
  obtain ⟨d, op, ty, pos, af, g⟩ := o
  have key : ∀ op, goOnQ s k (pOpQ P op s.heap ρ) = goOn ⟨d, op, ty, pos, af, g⟩ s k (pOp P s.heap op ρ) := fun op => by rw [pOpQ_eq]; rfl
  cases op <;> first | rfl | exact key _
def putQ (d : Option Tmp) : Ac → Value → (Ac → Rs Ans) → Rs Ans :=
  match d with
  | none => fun a _ k => k a
  | some t => fun a v k => Ac.parts a fun ts n ds => ifb (Nat.blt t n) (forceV v fun v => (ts.set t v).force fun ts => k ⟨ts, n, ds⟩) (.no 13 "")
theorem putQ_eq (d : Option Tmp) (a : Ac) (v : Value) (k : Ac → Rs Ans) : putQ d a v k = a.put d v k := by cases d <;> rfl
def goPutQ (d : Option Tmp) (a : Ac) (k : Ac → St → Rs Ans) (v : Value) (ds : List Deferred) (s : St) : Rs Ans :=
  List.rec (putQ d a v fun a => k a s) (fun x r _ => Ac.parts a fun ts n ds => putQ d ⟨ts, n, x :: (r ++ ds)⟩ v fun a => k a s) ds
theorem goPutQ_eq (o : Oper) (a : Ac) (k : Ac → St → Rs Ans) (v : Value) (ds : List Deferred) (s : St) : goPutQ o.dst a k v ds s = goPut o a k v ds s := by
  cases ds with
  | nil => exact putQ_eq _ _ _ _
  | cons x r =>
    show (Ac.parts a fun ts n ds => putQ o.dst ⟨ts, n, x :: (r ++ ds)⟩ v fun a => k a s) = Ac.parts a fun ts n ds => Ac.put ⟨ts, n, x :: (r ++ ds)⟩ o.dst v fun a => k a s
    congr 1
    funext ts n ds
    exact putQ_eq _ _ _ _
def oneQ (o : Oper) (g : Option (Nat × Bool)) : (Rq → Rs Ans) → Option Nat → Array Oper → Ac → St → (Ac → St → Rs Ans) → Rs Ans :=
  match g with
  | none => fun ih rd ops a s k => doOpQ P o.op ih rd (fun x => evQ x a) s (goPutQ o.dst a k)
  | some _ => fun ih rd ops a s k => (wantedA ops o a).bind fun w => ifb w (doOpQ P o.op ih rd (fun x => evQ x a) s (goPutQ o.dst a k)) (putQ o.dst a undefV fun a => k a s)
def onRunQ (l : List Oper) : (Rq → Rs Ans) → FuncId → Option Nat → Array Oper → Ac → St → Rs Ans :=
  match l with
  | [] => fun _ _ _ _ a s => .ok (.at .normal a s)
  | o :: l => fun ih fn rd ops a s => oneQ P o o.guard ih rd ops a s fun a s => ih (.run fn rd ops l a s)
theorem onRunQ_eq (ih : Rq → Rs Ans) (fn : FuncId) (rd : Option Nat) (ops : Array Oper) (l : List Oper) (a : Ac) (s : St) : onRunQ P l ih fn rd ops a s = onRun P ih fn rd ops l a s := by
  cases l with
  | nil => rfl
  | cons o l =>
    have e1 : ∀ k : Ac → St → Rs Ans, doOpQ P o.op ih rd (fun x => evQ x a) s (goPutQ o.dst a k) = doOp P ih rd o a.ev s (goPut o a k) := fun k => by
      rw [doOpQ_eq, evQ_eq]
      congr 1
      funext v ds s
      exact goPutQ_eq _ _ _ _ _ _
    show oneQ P o o.guard ih rd ops a s (fun a s => ih (.run fn rd ops l a s)) = (wantedA ops o a).bind fun w => ifb w (doOp P ih rd o a.ev s (goPut o a fun a s => ih (.run fn rd ops l a s))) (a.put o.dst undefV fun a => ih (.run fn rd ops l a s))
    cases hg : o.guard with
    | none =>
      have hw : wantedA ops o a = .ok true := by unfold wantedA; rw [hg]
      rw [hw]
      exact e1 _
    | some g =>
      show (wantedA ops o a).bind _ = _
      congr 1
      funext w
      rw [e1, putQ_eq]
def onCodeQ (c : Code) : (Rq → Rs Ans) → FuncId → Option Nat → Ac → St → Rs Ans :=
  match c with
  | .skip => fun _ _ _ a s => .ok (.at .normal a s)
  | .label _ => fun _ _ _ a s => .ok (.at .normal a s)
  | .seq x y => fun ih fn rd a s => onSeq ih fn rd y (ih (.code fn rd x a s))
  | .cond c x y => fun ih fn rd a s => (evQ c a).bind (onCond ih fn rd x y a s)
  | .block id b => fun ih fn rd a s => onBlock id (ih (.code fn rd b a s))
  | .loop b => fun ih fn rd a s => onSeq ih fn rd (.loop b) (ih (.code fn rd b a s))
  | .scope b => fun ih fn rd a s => onScope (ih (.code fn rd b a s))
  | .exit id => fun _ _ _ a s => .ok (.at (.jump (.exit id)) a s)
  | .ret => fun _ _ _ a s => .ok (.at (.jump .ret) a s)
  | .goto _ => fun _ _ _ _ _ => .no 112 ""
  | .refuse _ => fun _ _ _ _ _ => .no 113 ""
  | .region _ ops draw => fun ih fn rd a s => onRegion P ih fn rd ops draw a s
  | .rangeFunc f params assign body => fun ih fn rd a s => (a.ev f).bind (onRange ih fn rd params assign body a s)
theorem onCodeQ_eq (ih : Rq → Rs Ans) (fn : FuncId) (rd : Option Nat) (c : Code) (a : Ac) (s : St) : onCodeQ P c ih fn rd a s = onCode P ih fn rd c a s := by
  cases c with
  | cond c x y =>
    show (evQ c a).bind _ = (a.ev c).bind _
    rw [← evQ_eq]
  | _ => rfl
def stepQ (q : Rq) : Summ → (Rq → Rs Ans) → Rs Ans :=
  match q with
  | .code fn rd c a s => fun _ ih => onCodeQ P c ih fn rd a s
  | .run fn rd ops l a s => fun _ ih => onRunQ P l ih fn rd ops a s
  | .steps fn rd ops l base a s => fun _ ih => onSteps P ih fn rd ops l base a s
  | .inv t args s => fun Sm ih => onInv P Sm ih t args s
  | .dfr l s => fun Sm ih => onDfrs Sm ih l s
theorem stepQ_eq (Sm : Summ) (ih : Rq → Rs Ans) (q : Rq) : stepQ P q Sm ih = step P Sm ih q := by
  cases q with
  | code fn rd c a s => exact onCodeQ_eq P ih fn rd c a s
  | run fn rd ops l a s => exact onRunQ_eq P ih fn rd ops l a s
  | _ => rfl
def runQ (Sm : Summ) (n : Nat) : Rq → Rs Ans := Nat.rec (fun _ => .no 0 "fuel") (fun _ ih q => stepQ P q Sm ih) n
theorem runQ_eq (Sm : Summ) (n : Nat) : runQ P Sm n = run P Sm n := by
  induction n with
  | zero => rfl
  | succ n ih =>
    funext q
    show stepQ P q Sm (runQ P Sm n) = step P Sm (run P Sm n) q
    rw [stepQ_eq, ih]
end
end
end Go.Proofs.YtbakhdgiimjnkaaGreatDoor.Abs
