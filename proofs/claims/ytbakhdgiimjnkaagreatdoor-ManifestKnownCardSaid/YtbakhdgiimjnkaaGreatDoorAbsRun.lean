/-
  The evaluator's steps: operations that turn memory, calls, control. Definitions only.
-/
import Derived.Test.YtbakhdgiimjnkaaGreatDoorAbsEval
import Derived.Orders
namespace Go.Proofs.YtbakhdgiimjnkaaGreatDoor.Abs

inductive Ext where
  | add (k : IntKind) | load (k : IntKind) | store | cas (k : IntKind) | same | clone | index | indexByte | cmp | count | nothing | touch | makeNoZero

def extTable : List (String × Ext) :=
  [("sync/atomic.AddInt64", .add .i64), ("sync/atomic.AddInt32", .add .i32), ("sync/atomic.AddUint64", .add .u64), ("sync/atomic.LoadInt64", .load .i64), ("sync/atomic.LoadUint64", .load .u64), ("sync/atomic.LoadUint32", .load .u32),
   ("sync/atomic.StoreUint32", .store), ("sync/atomic.CompareAndSwapInt32", .cas .i32), ("internal/abi.NoEscape", .same), ("maps.clone", .clone), ("internal/bytealg.Index", .index), ("internal/bytealg.IndexString", .index),
   ("internal/bytealg.IndexByte", .indexByte), ("internal/bytealg.IndexByteString", .indexByte), ("internal/bytealg.abigen_runtime_cmpstring", .cmp), ("internal/bytealg.CountString", .count),
   ("internal/race.Disable", .nothing), ("internal/race.Enable", .nothing), ("internal/race.Acquire", .touch), ("internal/race.ReleaseMerge", .touch), ("internal/bytealg.MakeNoZero", .makeNoZero)]
def extOf (n : String) : Option Ext := extTable.lookup n

noncomputable section
variable {β : Type} (P : Program)

def ptrTo (n : Nat) : Value := .pointer (some ⟨n, 0, none⟩)
def aSliceLit (e : TypeId) (len : Nat) (ps : List (Nat × Value)) : Rs (AObj × (Nat → Value)) :=
  (szT P e).bind fun s => ifb (Nat.ble (len * s) 16777216 && Nat.ble len 16777216) ((zeroT P e).bind fun z => ifb (Nat.beq (lenN (cellsOf z)) s)
    ((fillR (fun i => some (i * s, s)) ps (reps (cellsOf z) len)).bind fun cs => .ok (.cells cs e 0 false (0, 0), fun n => .slice (some ⟨n, 0, none⟩) len len)) (.no 70 "")) (.no 70 "")
def aMakeSlice (e : TypeId) (l c : Nat) : Rs (AObj × (Nat → Value)) :=
  (szT P e).bind fun s => (bytesT P e).bind fun b => (zeroT P e).bind fun z =>
    ifb (Nat.ble l c) (ifb (Nat.ble c 1073741824) (ifb (Nat.ble (c * b) 1073741824) (ifb (Nat.beq (lenN (cellsOf z)) s)
      (natK l fun l => natK c fun c => .ok (.cells (reps (cellsOf z) c) e 0 false (0, 0), fun n => .slice (some ⟨n, 0, none⟩) l c)) (.no 72 "")) (.no 72 "")) (.no 72 "")) (.no 72 "")
def aBytes (us ud : TypeDesc) (a : Value) : Rs (AObj × (Nat → Value)) :=
  match us, ud, a with
  | .string, .slice e, .string s => (undT P e).bind fun
    | .int .u8 => .ok (.cells (byteCells s.data.toList) e 1 true (open_, open_), fun n => .slice (some ⟨n, 0, none⟩) (lenN s.data.toList) open_)
    | _ => .no 73 ""
  | _, _, _ => .no 73 ""
def aMakeMap (t : TypeId) (r : Option Operand) (ρ : Operand → Rs Value) : Rs (AObj × (Nat → Value)) :=
  match r with
  | none => .ok (.map [] 0, fun n => .map (some n))
  | some x => (ρ x).bind fun
    | .int _ _ => (undT P t).bind fun
      | .map _ _ => .ok (.map [] 0, fun n => .map (some n))
      | _ => .no 71 ""
    | _ => .no 71 ""
/-- a new block: what it holds, and the value that names it -/
def aOp (op : Op) (ρ : Operand → Rs Value) : Rs (AObj × (Nat → Value)) :=
  match op with
  | .alloc t => (zeroT P t).bind fun z => .ok (.cells (cellsOf z) t 0 false (0, 0), ptrTo)
  | .box t x => (ρ x).bind fun v => .ok (.cells (cellsOf v) t 0 false (0, 0), ptrTo)
  | .buildSlice t len parts => (mapR (fun p : Nat × Operand => (ρ p.2).bind fun v => .ok (p.1, v)) parts.toList).bind fun ps => (undT P t).bind fun
    | .slice e => aSliceLit P e len ps
    | _ => .no 70 ""
  | .makeMap t r => aMakeMap P t r ρ
  | .makeSlice t l c => (ρ l).bind fun l => (ρ c).bind fun c => (undT P t).bind fun u =>
    match u, l, c with
    | .slice e, .int _ (.ofNat l), .int _ (.ofNat c) => aMakeSlice P e l c
    | _, _, _ => .no 72 ""
  | .convert s d x => (ρ x).bind fun a => (undT P s).bind fun us => (undT P d).bind fun ud => aBytes P us ud a
  | _ => .no 74 ""

/-- the cells of a slice's (a string's) elements -/
def srcCells (h : Tr AObj) (s : Nat) (x : Value) : Rs (Nat × List Value) :=
  match x with
  | .slice none _ _ => .ok (0, [])
  | .slice (some ⟨b, o, none⟩) n _ => match h.get b with
    | some (.cells l _ _ _ _) => (Rs.of 75 (cutN l o (n * s))).bind fun cs => .ok (n, cs)
    | some (.const l _) => (Rs.of 75 (cutN l o (n * s))).bind fun cs => .ok (n, cs)
    | _ => .no 75 ""
  | .string str => ifb (Nat.beq s 1) (.ok (lenN str.data.toList, byteCells str.data.toList)) (.no 75 "")
  | _ => .no 75 ""

def oneB (v : Value) : Bool :=
  match v with
  | .agg _ => false
  | .tuple _ => false
  | _ => true
/-- cells of a block are turned -/
def turn (st : St) (b o : Nat) (vs : List Value) (k : St → Rs β) : Rs β :=
  match st.heap.get b with
  | some (.cells l e s opn fz) => ifb ((Nat.ble fz.2 o || Nat.ble (o + lenN vs) fz.1) && vs.all oneB) ((Rs.of 76 (over l o vs)).bind fun l => st.put b (.cells l e s opn fz) k) (.no 76 "")
  | _ => .no 76 ""

def opened (st : St) (e : TypeId) (s : Nat) (n : Nat) (cs : List Value) (k : Value → St → Rs β) : Rs β :=
  ifb (Nat.beq s 0) (.no 77 "") (st.new (.cells cs e s true (0, 0)) fun b st => k (.slice (some ⟨b, 0, none⟩) n open_) st)

/-- what an append adds -/
def appSrc (h : Tr AObj) (sz : Nat) (z : List Value) (xt : List TypeId) (x : Value) : Rs (Nat × List Value) :=
  match xt with
  | u :: _ => (undT P u).bind fun
    | .int _ => (match x with
      | .int _ (.ofNat m) => ifb (Nat.ble m 1073741824) (natK m fun m => .ok (m, reps z m)) (.no 78 "")
      | _ => .no 78 "")
    | _ => srcCells h sz x
  | [] => srcCells h sz x
def sliceTo (b o n c : Nat) : Value := .slice (some ⟨b, o, none⟩) n c
def appOpen2 (st : St) (e : TypeId) (sz b o n m : Nat) (nw l : List Value) (fz : Nat × Nat) (k : Value → St → Rs β) : Rs β :=
  ifb (Nat.ble (o + (n + m) * sz) (lenN l)) (turn st b (o + n * sz) nw (k (sliceTo b o (n + m) open_)))
    (ifb (Nat.beq fz.1 0 && Nat.beq fz.2 0 || Nat.beq fz.1 open_ && Nat.beq fz.2 open_ || Nat.beq o 0 && Nat.ble fz.2 n) (ifb (nw.all oneB)
      ((Rs.of 79 (cutN l o (n * sz))).bind fun old => st.kill b fun st => st.new (.cells (old ++ nw) e sz true fz) fun b => k (sliceTo b 0 (n + m) open_)) (.no 79 "")) (.no 79 ""))
def appOpen (st : St) (e : TypeId) (sz b o n m : Nat) (nw : List Value) (k : Value → St → Rs β) (ob : Option AObj) : Rs β :=
  match ob with
  | some (.cells l e' s' true fz) => ifb (Nat.beq e e' && Nat.beq sz s' && Nat.beq (o % sz) 0) (appOpen2 st e sz b o n m nw l fz k) (.no 79 "")
  | _ => .no 79 ""
def appTo (st : St) (e : TypeId) (sz m : Nat) (nw : List Value) (s : Value) (k : Value → St → Rs β) : Rs β :=
  match s with
  | .slice none _ _ => opened st e sz m nw k
  | .slice (some ⟨b, o, none⟩) n c => ifb (Nat.blt c open_)
      (ifb (Nat.ble (n + m) c) (turn st b (o + n * sz) nw (k (sliceTo b o (n + m) c))) ((srcCells st.heap sz s).bind fun old => opened st e sz (n + m) (old.2 ++ nw) k))
      (appOpen st e sz b o n m nw k (st.heap.get b))
  | _ => .no 79 ""
/-- are these sizes far from all limits? -/
def appLim (s : Value) (m b : Nat) : Bool :=
  match s with
  | .slice _ n _ => Nat.ble (n + m) 1073741824 && (Nat.ble b 1073741824 && Nat.ble ((n + m) * b) 1073741824)
  | _ => false
def aAppend (st : St) (ts : List TypeId) (s x : Value) (k : Value → St → Rs β) : Rs β :=
  match ts with
  | t :: xt => (undT P t).bind fun
    | .slice e => (szT P e).bind fun sz => (bytesT P e).bind fun b => (zeroT P e).bind fun z => (appSrc P st.heap sz (cellsOf z) xt x).bind fun mx =>
      ifb (appLim s mx.1 b && Nat.beq (lenN (cellsOf z)) sz) (ifb (Nat.beq mx.1 0) (k s st) (appTo st e sz mx.1 mx.2 s k)) (.no 79 "")
    | _ => .no 79 ""
  | [] => .no 79 ""

def sameFlat (a b : Value) : Bool :=
  match a, b with
  | .bool x, .bool y => x == y
  | .int j x, .int k y => ifb (kEq j k) (iBeq x y) false
  | .string x, .string y => bEq x.data.toList y.data.toList
  | _, _ => false
def sameAll (x : List Value) : List Value → Bool :=
  List.rec (fun y => List.rec true (fun _ _ _ => false) y) (fun a _ ih y => List.rec false (fun b y _ => ifb (sameFlat a b) (ih y) false) y) x
/-- keys that are the same to the last bit -/
def sameKey (a b : Value) : Bool :=
  match a, b with
  | .agg x, .agg y => sameAll x.toList y.toList
  | a, b => sameFlat a b
def mapPut (h : Tr AObj) (t : TypeId) (k v : Value) (clock : Nat) (es : List MapEntry) : Rs (List MapEntry × Bool) :=
  List.rec (.ok ([{ key := k, val := v, born := clock }], true)) (fun e es ih => (keyEq P h t k e.key).bind fun b => ifb b (ifb (sameKey k e.key) (.ok ({ e with key := k, val := v } :: es, false)) (.no 81 "")) (ih.bind fun r => .ok (e :: r.1, r.2))) es
def mapDel (h : Tr AObj) (t : TypeId) (k : Value) (es : List MapEntry) : Rs (List MapEntry) :=
  List.rec (.ok []) (fun e es ih => (keyEq P h t k e.key).bind fun b => ifb b (.ok es) (ih.bind fun r => .ok (e :: r))) es
def eStore (st : St) (t : TypeId) (a x : Value) (k : Value → St → Rs β) : Rs β :=
  match a with
  | .pointer (some ⟨b, o, none⟩) => (szT P t).bind fun s => ifb (Nat.beq (lenN (cellsOf x)) s) (turn st b o (cellsOf x) (k undefV)) (.no 80 "")
  | _ => .no 80 ""
def eMapPut2 (st : St) (kt : TypeId) (r : Nat) (key x : Value) (o : Option AObj) (k : Value → St → Rs β) : Rs β :=
  match o with
  | some (.map es clock) => ifb (keyOk P kt key) ((mapPut P st.heap kt key x clock es).bind fun q => natK (ifb q.2 (Nat.succ clock) clock) fun c => st.put r (.map q.1 c) (k undefV)) (.no 81 "")
  | _ => .no 81 ""
def eMapPut (st : St) (t : TypeId) (m key x : Value) (k : Value → St → Rs β) : Rs β := (undT P t).bind fun u =>
  match u, m with
  | .map kt _, .map (some r) => eMapPut2 P st kt r key x (st.heap.get r) k
  | _, _ => .no 81 ""
def eRange (st : St) (t : TypeId) (x : Value) (k : Value → St → Rs β) : Rs β := (undT P t).bind fun u =>
  match u, x with
  | .string, .string s => st.new (.str s 0) fun n => k (.pointer (some ⟨n, 0, none⟩))
  | .map _ _, .map none => st.new (.iter none 0 [] 0) fun n => k (.pointer (some ⟨n, 0, none⟩))
  | .map _ _, .map (some m) => match st.heap.get m with
    | some (.map _ clock) => st.new (.iter (some m) clock [] clock) fun n => k (.pointer (some ⟨n, 0, none⟩))
    | _ => .no 82 ""
  | _, _ => .no 82 ""
def eNextStr (st : St) (r : Nat) (s : ByteArray) (pos : Nat) (k : Value → St → Rs β) : Rs β :=
  ifb (Nat.blt pos (lenN s.data.toList)) (natK (Utf8.decode s pos).2 fun w => natK (Nat.add pos w) fun p => st.put r (.str s p) (k (.tuple #[.bool true, .int .i64 (Int.ofNat pos), .int .i32 (Int.ofNat (Utf8.decode s pos).1)])))
    (k (.tuple #[.bool false]) st)
def eNextMap (st : St) (r m since : Nat) (seen : List Nat) (stepped : Nat) (o : Option AObj) (k : Value → St → Rs β) : Rs β :=
  match o with
  | some (.map es clock) => (match es.filter fun e => !(seen.any fun x => Nat.beq x e.born), seen with
    | [], [] => k (.tuple #[.bool false]) st
    | [], _ :: _ => ifb (es.any (fun e => Nat.blt e.born stepped) || es.isEmpty) (k (.tuple #[.bool false]) st) (.no 83 "")
    | [e], _ => ifb (Nat.blt e.born since && Nat.blt e.born stepped) (st.put r (.iter (some m) since (seen ++ [e.born]) clock) (k (.tuple #[.bool true, e.key, e.val]))) (.no 83 "")
    | _, _ => .no 84 "")
  | _ => .no 83 ""
def eNext2 (st : St) (r : Nat) (isStr : Bool) (o : Option AObj) (k : Value → St → Rs β) : Rs β :=
  match o, isStr with
  | some (.str s pos), true => eNextStr st r s pos k
  | some (.iter none _ _ _), false => k (.tuple #[.bool false]) st
  | some (.iter (some m) since seen stepped), false => eNextMap st r m since seen stepped (st.heap.get m) k
  | _, _ => .no 83 ""
def eNext (st : St) (isStr : Bool) (it : Value) (k : Value → St → Rs β) : Rs β :=
  match it with
  | .pointer (some ⟨r, 0, none⟩) => eNext2 st r isStr (st.heap.get r) k
  | _ => .no 83 ""
def eEntry2 (st : St) (b : Nat) (stepped : Nat) (o : Option AObj) (k : Value → St → Rs β) : Rs β :=
  match o with
  | some (.map es clock) => ifb (Nat.beq clock stepped) (match es.find? (fun e => Nat.beq e.born b) with
    | some e => k (.tuple #[e.key, e.val]) st
    | none => .no 85 "") (.no 85 "")
  | _ => .no 85 ""
def eEntry (st : St) (it : Value) (k : Value → St → Rs β) : Rs β :=
  match it with
  | .pointer (some ⟨r, 0, none⟩) => (match st.heap.get r with
    | some (.iter (some m) _ seen stepped) => (match seen.getLast? with
      | some b => eEntry2 st b stepped (st.heap.get m) k
      | _ => .no 85 "")
    | _ => .no 85 "")
  | _ => .no 85 ""
def eMapEntry (st : St) (t : TypeId) (m key : Value) (k : Value → St → Rs β) : Rs β := (undT P t).bind fun u =>
  match u, m with
  | .map kt e, .map (some r) => match st.heap.get r with
    | some (.map es clock) => ifb (keyOk P kt key) ((findR P st.heap kt key es 0).bind fun
        | some (i, v) => (Rs.of 86 (nth es i)).bind fun e => ifb (sameKey key e.key) (k (.tuple #[v, .int .i64 (Int.ofNat e.born)]) st) (.no 86 "")
        | none => (zeroT P e).bind fun z => natK (Nat.succ clock) fun c => st.put r (.map (es ++ [{ key, val := z, born := clock }]) c) (k (.tuple #[z, .int .i64 (Int.ofNat clock)])))
      (.no 86 "")
    | _ => .no 86 ""
  | _, _ => .no 86 ""
def bornSet (b : Nat) (x : Value) (es : List MapEntry) : Option (List MapEntry) :=
  List.rec none (fun e es ih => ifb (Nat.beq e.born b) (some ({ e with val := x } :: es)) (Option.rec none (fun r => some (e :: r)) ih)) es
def eEntryStore (st : St) (m b x : Value) (k : Value → St → Rs β) : Rs β :=
  match m, b with
  | .map (some r), .int _ (.ofNat b) => match st.heap.get r with
    | some (.map es clock) => (Rs.of 87 (bornSet b x es)).bind fun es => st.put r (.map es clock) (k undefV)
    | _ => .no 87 ""
  | _, _ => .no 87 ""
def eCopy (st : St) (t : TypeId) (d src : Value) (k : Value → St → Rs β) : Rs β := (undT P t).bind fun u =>
  match u, d with
  | .slice e, .slice d dn _ => (szT P e).bind fun s => (srcCells st.heap s src).bind fun q => natK (min q.1 dn) fun m =>
    match d, m with
    | _, 0 => k (.int .i64 0) st
    | some ⟨b, o, none⟩, m + 1 => (Rs.of 88 (takeN q.2 ((m + 1) * s))).bind fun cs => turn st b o cs (k (.int .i64 (Int.ofNat (m + 1))))
    | _, _ => .no 88 ""
  | _, _ => .no 88 ""
def eDelete (st : St) (t : TypeId) (m key : Value) (k : Value → St → Rs β) : Rs β := (undT P t).bind fun u =>
  match u, m with
  | .map kt _, .map none => ifb (keyOk P kt key) (k undefV st) (.no 89 "")
  | .map kt _, .map (some r) => (match st.heap.get r with
    | some (.map es clock) => ifb (keyOk P kt key) ((mapDel P st.heap kt key es).bind fun es => st.put r (.map es clock) (k undefV)) (.no 89 "")
    | _ => .no 89 "")
  | _, _ => .no 89 ""
def eClear (st : St) (t : TypeId) (x : Value) (k : Value → St → Rs β) : Rs β := (undT P t).bind fun u =>
  match u, x with
  | .slice _, .slice none _ _ => k undefV st
  | .slice _, .slice _ 0 _ => k undefV st
  | .slice e, .slice (some ⟨b, o, none⟩) n _ => (zeroT P e).bind fun z => turn st b o (reps (cellsOf z) n) (k undefV)
  | .map _ _, .map (some r) => (match st.heap.get r with
    | some (.map _ clock) => st.put r (.map [] clock) (k undefV)
    | _ => .no 90 "")
  | _, _ => .no 90 ""
def eSliceData (st : St) (x : Value) (k : Value → St → Rs β) : Rs β :=
  match x with
  | .slice none _ _ => k (.pointer none) st
  | .slice (some a) n _ => ifb (Nat.beq n 0) (.no 91 "") (k (.pointer (some a)) st)
  | _ => .no 91 ""
/-- are these a byte's pointer and a block of bytes? -/
def byteT (e : TypeId) : Rs Bool := (undT P e).bind fun
  | .int .u8 => (szT P e).bind fun s => .ok (Nat.beq s 1)
  | _ => .ok false
def ptrByteT (ts : Array TypeId) : Rs Bool := (Rs.of 92 ts.toList.head?).bind fun t => (undT P t).bind fun
  | .pointer u => byteT P u
  | _ => .ok false
def eString (st : St) (ts : Array TypeId) (p n : Value) (k : Value → St → Rs β) : Rs β := (ptrByteT P ts).bind fun tb =>
  match p, n with
  | .pointer none, .int _ (.ofNat 0) => k (mkStr []) st
  | .pointer (some _), .int _ (.ofNat 0) => k (mkStr []) st
  | .pointer (some ⟨b, 0, none⟩), .int _ (.ofNat n) => (match st.heap.get b with
    | some (.cells l e s opn (0, hi)) => (byteT P e).bind fun eb => ifb (tb && eb && Nat.ble n 1073741824) ((Rs.of 92 ((takeN l n).bind cellBytes)).bind fun bs => st.put b (.cells l e s opn (0, max n hi)) (k (mkStr bs))) (.no 92 "")
    | _ => .no 92 "")
  | _, _ => .no 92 ""
def eBuiltin (st : St) (b : Builtin) (ts : Array TypeId) (vs : List Value) (k : Value → St → Rs β) : Rs β :=
  match b with
  | .append => (match vs with | [s, x] => aAppend P st ts.toList s x k | _ => .no 88 "")
  | .copy => (match vs with | [d, s] => (Rs.of 88 ts[0]?).bind fun t => eCopy P st t d s k | _ => .no 88 "")
  | .delete => (match vs with | [m, x] => (Rs.of 89 ts[0]?).bind fun t => eDelete P st t m x k | _ => .no 88 "")
  | .clear => (match vs with | [x] => (Rs.of 90 ts[0]?).bind fun t => eClear P st t x k | _ => .no 88 "")
  | .unsafeSliceData => (match vs with | [x] => eSliceData st x k | _ => .no 91 "")
  | .unsafeString => (match vs with | [p, n] => eString P st ts p n k | _ => .no 92 "")
  | b => (pBuiltin P st.heap b ts vs).bind fun v => k v st

/-- bytes as bytes: the same slice, its block marked -/
def eBytes (st : St) (a : Value) (k : Value → St → Rs β) : Rs β :=
  match a with
  | .slice (some ⟨b, o, none⟩) n c => (match st.heap.get b with
    | some (.cells l e s opn fz) => ifb ((Nat.beq fz.1 0 && Nat.beq fz.2 0 || Nat.beq fz.1 open_) && Nat.blt 0 n) (st.put b (.cells l e s opn (open_, open_)) (k (.slice (some ⟨b, o, none⟩) n c))) (.no 98 "")
    | _ => .no 98 "")
  | _ => .no 98 ""
inductive Cv where
  | new | same | plain
/-- which kind of conversion is it? -/
def cvOf (s d : TypeId) : Cv :=
  match P.underlying s, P.underlying d with
  | some .string, some (.slice _) => .new
  | some (.slice _), some (.slice e) => (match P.underlying e with
    | some (.int .u8) => ifb (Nat.beq s d) .same .plain
    | _ => .plain)
  | _, _ => .plain
def isNew (op : Op) : Bool :=
  match op with
  | .alloc _ | .box _ _ | .buildSlice _ _ _ | .makeMap _ _ | .makeSlice _ _ _ => true
  | .convert s d _ => (match cvOf P s d with | .new => true | _ => false)
  | _ => false

def bytesIn (h : Tr AObj) (x : Value) : Rs (List UInt8) :=
  (srcCells h 1 x).bind fun q => Rs.of 93 (cellBytes q.2)
def findB (c : Nat) : List UInt8 → Nat → Option Nat
  | [], _ => none
  | b :: l, i => ifb (Nat.beq b.toNat c) (some i) (findB c l (i + 1))
def countB (c : Nat) : List UInt8 → Nat
  | [] => 0
  | b :: l => ifb (Nat.beq b.toNat c) (countB c l + 1) (countB c l)
def preB : List UInt8 → List UInt8 → Bool
  | [], _ => true
  | a :: x, b :: y => ifb (Nat.beq a.toNat b.toNat) (preB x y) (false)
  | _ :: _, [] => false
def findS (x : List UInt8) : List UInt8 → Nat → Option Nat
  | [], i => ifb (preB x []) (some i) (none)
  | b :: l, i => ifb (preB x (b :: l)) (some i) (findS x l (i + 1))
def optI (o : Option Nat) : Value := match o with
  | some i => .int .i64 (Int.ofNat i)
  | none => .int .i64 (-1)

def ext (st : St) (rt : Array TypeId) (x : Ext) (args : List Value) (k : Value → St → Rs β) : Rs β :=
  match x, args with
  | .add kd, [.pointer (some ⟨b, o, none⟩), .int _ y] => match st.heap.get b with
    | some (.cells l _ _ _ _) => (Rs.of 94 l[o]?).bind fun
      | .int kd' n => ifb (decide (kd = kd')) (intK (kd.wrap (n + y)) fun m => turn st b o [.int kd m] fun st => k (.int kd m) st) (.no 94 "")
      | _ => .no 94 ""
    | _ => .no 94 ""
  | .load kd, [.pointer (some ⟨b, o, none⟩)] => match st.heap.get b with
    | some (.cells l _ _ _ _) => (Rs.of 94 l[o]?).bind fun
      | .int kd' n => ifb (decide (kd = kd')) (k (.int kd' n) st) (.no 94 "")
      | _ => .no 94 ""
    | _ => .no 94 ""
  | .store, [.pointer (some ⟨b, o, none⟩), v] => turn st b o [v] fun st => k undefV st
  | .cas kd, [.pointer (some ⟨b, o, none⟩), .int _ old, .int kn new] => match st.heap.get b with
    | some (.cells l _ _ _ _) => (Rs.of 94 l[o]?).bind fun
      | .int kd' n => ifb (decide (kd = kd')) ((ifb (n == old) (turn st b o [.int kn new] fun st => k (.bool true) st) (.no 94 ""))) (.no 94 "")
      | _ => .no 94 ""
    | _ => .no 94 ""
  | .same, [v] => k v st
  | .clone, [.iface t (.map (some r))] => match st.heap.get r with
    | some (.map es clock) => st.new (.map es clock) fun n st => k (.iface t (.map (some n))) st
    | _ => .no 95 ""
  | .indexByte, [x, .int .u8 (.ofNat c)] => (bytesIn st.heap x).bind fun l => ifb (Nat.blt c 256) (k (optI (findB c l 0)) st) (.no 97 "")
  | .count, [x, .int .u8 (.ofNat c)] => (bytesIn st.heap x).bind fun l => ifb (Nat.blt c 256) (k (.int .i64 (Int.ofNat (countB c l))) st) (.no 97 "")
  | .cmp, [x, y] => (bytesIn st.heap x).bind fun l => (bytesIn st.heap y).bind fun m => k (.int .i64 (ifb (bLess l m) (-1) (ifb (bEq l m) (0) (1)))) st
  | .nothing, _ => k undefV st
  | .touch, [.pointer (some _)] => k undefV st
  | .makeNoZero, [.int .i64 (.ofNat n)] => (Rs.of 96 rt[0]?).bind fun t => (undT P t).bind fun
    | .slice e => ifb (Nat.ble n 1073741824) (st.new (.cells [] e 1 true (0, 0)) fun b st => k (.slice (some ⟨b, 0, none⟩) n open_) st) (.no 96 "")
    | _ => .no 96 ""
  | _, _ => .no 97 ""

/-- the steps of a region whose order is open -/
inductive PStep where
  | go (i : Nat)
  | again (i : Nat)
  | new (i j : Nat)

inductive Cl where
  | p | r | n | e
def clsOf (op : Op) : Cl :=
  if isNew P op then .n else match op with
  | .load .. | .slice .. | .lookup .. => .r
  | .convert s d _ => (match cvOf P s d with
    | .same => .e
    | _ => .r)
  | .binOp o _ _ _ _ => match o with
    | .eql | .neq => .r
    | _ => .p
  | .call { callee := .builtin b, argTypes, .. } => match b with
    | .len => match (argTypes[0]?).bind P.underlying with
      | some (.map _ _) => .r
      | _ => .p
    | .cap | .min | .max => .p
    | _ => .e
  | .move _ | .assign _ | .pick .. | .unOp .. | .sliceToArrayPointer .. | .makeInterface .. | .makeFunc .. | .fieldAddr .. | .field .. | .indexAddr .. | .index .. | .extract .. | .nilCheck .. | .build .. | .typeAssert .. => .p
  | _ => .e

def tb (m i : Nat) : Bool := Nat.beq (Nat.land (Nat.shiftRight m i) 1) 1
def clN (c : Cl) : Bool := Cl.rec false false true false c
def clE (c : Cl) : Bool := Cl.rec false false false true c
def clR (c : Cl) : Bool := Cl.rec false true false false c
def bindsE (g : Ground) : Bool := Ground.rec true true true true (fun _ => false) (fun _ => false) g
/-- one operation among those of a region: its place, its class, those before it (bits), the gap where it is carried out, the last gap where it may be, a new block's place -/
structure PO where
  i : Nat
  c : Cl
  b : Nat
  x : Nat
  hi : Nat
  j : Nat
/-- those before an operation, by those before the earlier ones -/
def befOf (t : Tr Nat) (es : List Edge) : Nat :=
  List.rec (fun m => m) (fun e _ ih m => ifb (bindsE e.ground) (ih (Nat.lor (Nat.lor m (Nat.shiftLeft 1 e.on)) (Option.rec 0 (fun x => x) (t.get e.on)))) (ih m)) es 0
/-- (place, class, those before) of each operation -/
def infos (ops : List Oper) : Nat → Tr Nat → List (Nat × Cl × Nat) :=
  List.rec (fun _ _ => []) (fun o _ ih i t => natK (befOf t o.after.toList) fun b => (t.set i b).force fun t => (i, clsOf P o.op, b) :: ih (Nat.succ i) t) ops
def countB2 (f : Nat × Nat → Bool) (es : List (Nat × Nat)) : Nat := List.rec 0 (fun e _ ih => ifb (f e) (Nat.succ ih) ih) es
def chainOk (es : List (Nat × Nat)) : Bool :=
  match es with
  | [] => true
  | e :: r => (r.foldl (fun (acc : Nat × Bool) f => (f.1, acc.2 && tb f.2 acc.1)) (e.1, true)).2
/-- the latest gap of a new block (or what hangs on one) that stands before -/
def latest (b : Nat) (ns : List PO) : Nat → Nat := List.rec (fun m => m) (fun p _ ih m => ifb (tb b p.i) (ih (max m p.x)) (ih m)) ns
/-- the places of all: 'ns': those (latest first) whose gap may be later than the first one -/
def places (es : List (Nat × Nat)) (l : List (Nat × Cl × Nat)) : List PO → Nat → List PO :=
  List.rec (fun _ _ => []) (fun a _ ih ns j =>
    let lo := countB2 (fun e => tb a.2.2 e.1) es
    let hi := countB2 (fun e => !tb e.2 a.1) es
    ifb (clE a.2.1) (ih ns j) (ifb (clN a.2.1) (natK hi fun hi => let p : PO := ⟨a.1, a.2.1, a.2.2, hi, hi, a.1⟩; p :: ih (p :: ns) (Nat.succ j))
      (natK (latest a.2.2 ns lo) fun x => let p : PO := ⟨a.1, a.2.1, a.2.2, x, hi, 0⟩; ifb (Nat.beq x lo) (p :: ih ns j) (p :: ih (p :: ns) j)))) l
def hangs (g b : Nat) (ps : List PO) : Bool := List.rec false (fun p _ ih => ifb (clN p.c) (ifb (Nat.beq p.x g) (ifb (tb b p.i) true ih) ih) ih) ps
/-- what is done in gap g: first what hangs on no new block of this gap -/
def gap1 (g : Nat) (ps all : List PO) : List PStep :=
  List.rec [] (fun p _ ih => ifb (clN p.c) ih (ifb (Nat.beq p.x g) (ifb (hangs g p.b all) ih (.go p.i :: ih)) (ifb (clR p.c) (ifb (Nat.blt p.x g) (ifb (Nat.ble g p.hi) (.again p.i :: ih) ih) ih) ih))) ps
def gap2 (g : Nat) (ps all : List PO) : List PStep :=
  List.rec [] (fun p _ ih => ifb (Nat.beq p.x g) (ifb (clN p.c) (.new p.i p.j :: ih) (ifb (hangs g p.b all) (.go p.i :: ih) ih)) ih) ps
def gaps (ps : List PO) (es : List (Nat × Nat)) : Nat → List PStep :=
  List.rec (fun g => gap1 g ps ps ++ gap2 g ps ps) (fun e _ ih g => gap1 g ps ps ++ (gap2 g ps ps ++ (.go e.1 :: ih (Nat.succ g)))) es
/-- one operation, to be looked at: its class, those before it -/
structure PI where
  c : Cl
  b : Nat
/-- of a plan that is looked at: the last effect and those before it, what is done, what was read since, the new blocks since and their places -/
structure Ck where
  prev : Option Nat
  pb : Nat
  done : Nat
  cur : Nat
  cn : Nat
  pre : Bool
def bit (m i : Nat) : Nat := Nat.lor m (Nat.shiftLeft 1 i)
def sub (b d : Nat) : Bool := Nat.beq (Nat.land b d) b
def optB (o : Option Nat) (f : Nat → Bool) : Bool := match o with
  | none => false
  | some x => f x
def optO (o : Option Oper) (f : Oper → Bool) : Bool := match o with
  | none => false
  | some x => f x
def optP (o : Option PI) (f : PI → Bool) : Bool := match o with
  | none => false
  | some x => f x
/-- those before an operation, again -/
def befL (I : List PI) : List Edge → Nat
  | [] => 0
  | e :: es => ifb (bindsE e.ground) (Nat.lor (Nat.lor (befL I es) (match nth I e.on with | none => 0 | some p => p.b)) (Nat.shiftLeft 1 e.on)) (befL I es)
def eqCl (a b : Cl) : Bool := match a, b with
  | .p, .p => true
  | .r, .r => true
  | .n, .n => true
  | .e, .e => true
  | _, _ => false
def isIn (d : Nat) : List Nat → Bool
  | [] => false
  | x :: l => ifb (Nat.beq d x) true (isIn d l)
def allEdges (i : Nat) : List Edge → Bool
  | [] => true
  | e :: es => ifb (bindsE e.ground) (ifb (Nat.blt e.on i) (allEdges i es) false) (allEdges i es)
/-- what writes an operand stands before, or behind; no place is written twice -/
def apartB (look : List Nat) (dst : Option Tmp) (b i : Nat) : List Oper → List PI → Nat → Bool
  | o :: l, p :: ps, j => match o.dst with
    | none => apartB look dst b i l ps (Nat.succ j)
    | some d => ifb (ifb (isIn d look) (ifb (tb b j) true (tb p.b i)) true) (ifb (optB dst fun x => Nat.beq x d) (ifb (Nat.beq i j) (apartB look dst b i l ps (Nat.succ j)) false) (apartB look dst b i l ps (Nat.succ j))) false
  | _, _, _ => true
/-- an operand that is written behind is not written yet -/
def notYet (look : List Nat) (b done : Nat) : List Oper → Nat → Bool
  | o :: l, j => match o.dst with
    | none => notYet look b done l (Nat.succ j)
    | some d => ifb (ifb (isIn d look) (ifb (tb b j) true (!(tb done j))) true) (notYet look b done l (Nat.succ j)) false
  | _, _ => true
def opsOk (ops : Array Oper) (I : List PI) : List Oper → List PI → Nat → Bool
  | [], [], _ => true
  | o :: l, p :: ps, i => ifb (eqCl p.c (clsOf P o.op)) (ifb (Nat.beq p.b (befL I o.after.toList)) (ifb (allEdges i o.after.toList) (ifb (apartB (o.looksAt ops) o.dst p.b i ops.toList I 0) (opsOk ops I l ps (Nat.succ i)) false) false) false) false
  | _, _, _ => false
def closeB (pb : Nat) (e : Option Nat) (cur : Nat) : List PI → Nat → Bool
  | [], _ => true
  | p :: l, i => ifb (clR p.c) (ifb (optB e (tb p.b)) (closeB pb e cur l (Nat.succ i)) (ifb (tb pb i) (closeB pb e cur l (Nat.succ i)) (ifb (tb cur i) (closeB pb e cur l (Nat.succ i)) false))) (closeB pb e cur l (Nat.succ i))
def ckGo (I : List PI) (c : Ck) (i : Nat) (p : PI) (k : Ck → Bool) : Bool :=
  ifb (tb c.done i) false (ifb (sub p.b c.done) (natK (bit c.done i) fun d => match p.c with
    | .p => k ⟨c.prev, c.pb, d, c.cur, c.cn, c.pre⟩
    | .r => ifb c.pre (natK (bit c.cur i) fun u => k ⟨c.prev, c.pb, d, u, c.cn, c.pre⟩) false
    | .n => false
    | .e => ifb (match c.prev with | none => true | some q => tb p.b q) (ifb (sub c.cn p.b) (ifb (closeB c.pb (some i) c.cur I 0) (k ⟨some i, p.b, d, 0, 0, true⟩) false) false) false) false)
def ckStep (ops : Array Oper) (I : List PI) (n : Nat) (c : Ck) (st : PStep) (k : Ck → Bool) : Bool :=
  match st with
  | .go i => optP (nth I i) fun p => ckGo I c i p k
  | .again i => optP (nth I i) fun p => ifb (clR p.c) (ifb (tb c.done i) (ifb c.pre (ifb (optO ops[i]? fun o => notYet (o.looksAt ops) p.b c.done ops.toList 0) (natK (bit c.cur i) fun u => k ⟨c.prev, c.pb, c.done, u, c.cn, c.pre⟩) false) false) false) false
  | .new i j => optP (nth I i) fun p => ifb (clN p.c) (ifb (tb c.done i) false (ifb (sub p.b c.done) (ifb (Nat.blt i n) (ifb (Nat.beq i j)
      (natK (bit c.done i) fun d => natK (bit c.cn i) fun u => k ⟨c.prev, c.pb, d, c.cur, u, false⟩) false) false) false)) false
def ckEnd (I : List PI) (c : Ck) : Bool := ifb (Nat.beq c.done (Nat.sub (Nat.shiftLeft 1 (lenN I)) 1)) (closeB c.pb none c.cur I 0) false
def chk (ops : Array Oper) (I : List PI) (n : Nat) : List PStep → Ck → Bool
  | [], c => ckEnd I c
  | st :: l, c => ckStep ops I n c st (chk ops I n l)
def planIf (ops : Array Oper) (I : List PI) (n : Nat) (l : List PStep) : Option (Nat × List PStep) := ifb (opsOk P ops I ops.toList I 0) (ifb (chk ops I n l ⟨none, 0, 0, 0, 0, true⟩) (some (n, l)) none) none
def plan (ops : Array Oper) : Option (Nat × List PStep) :=
  let l := infos P ops.toList 0 .nil
  let I := l.map fun a => PI.mk a.2.1 a.2.2
  let es := (l.filter fun a => clE a.2.1).map fun a => (a.1, a.2.2)
  let ps := places es l [] 0
  planIf P ops I (ifb (Nat.beq (countB2 (fun _ => true) ((ps.filter fun p => clN p.c).map fun p => (p.i, 0))) 0) 0 (lenN I)) (gaps ps es 0)

def vEq : Value → Value → Bool
  | .bool a, .bool b => a == b
  | .int k a, .int j b => decide (k = j) && a == b
  | .string a, .string b => bEq a.data.toList b.data.toList
  | .pointer none, .pointer none => true
  | .pointer (some ⟨a, o, none⟩), .pointer (some ⟨b, p, none⟩) => Nat.beq a b && Nat.beq o p
  | .slice none n c, .slice none m d => Nat.beq n m && Nat.beq c d
  | .slice (some ⟨a, o, none⟩) n c, .slice (some ⟨b, p, none⟩) m d => Nat.beq a b && Nat.beq o p && Nat.beq n m && Nat.beq c d
  | .map none, .map none => true
  | .map (some a), .map (some b) => Nat.beq a b
  | .nilFunc, .nilFunc => true
  | .nilIface, .nilIface => true
  | _, _ => false
def vEq2 : Value → Value → Bool
  | .agg a, .agg b => Nat.beq a.toList.length b.toList.length && (a.toList.zip b.toList).all fun (x, y) => vEq x y
  | .tuple a, .tuple b => Nat.beq a.toList.length b.toList.length && (a.toList.zip b.toList).all fun (x, y) => vEq x y
  | a, b => vEq a b

inductive XE where
  | normal
  | jump (c : Code)

inductive Rq where
  | code (fn : FuncId) (rd : Option Nat) (c : Code) (a : Ac) (s : St)
  | run (fn : FuncId) (rd : Option Nat) (ops : Array Oper) (l : List Oper) (a : Ac) (s : St)
  | steps (fn : FuncId) (rd : Option Nat) (ops : Array Oper) (l : List PStep) (base : Nat) (a : Ac) (s : St)
  | inv (t : Target) (args : List Value) (s : St)
  | dfr (l : List Deferred) (s : St)

inductive Ans where
  | at (e : XE) (a : Ac) (s : St)
  | val (v : Value) (s : St)
  | st (s : St)
  | done (v : Value) (ds : List Deferred) (s : St)

def wantedB (want : Bool) (v : Option Value) : Bool :=
  match v with
  | some (.bool b) => b == want
  | _ => false
def wantedA (ops : Array Oper) (o : Oper) (a : Ac) : Rs Bool :=
  match o.guard with
  | none => .ok true
  | some (j, want) => (Rs.of 105 (((ops[j]?).bind (·.dst)).bind a.tmps.get)).bind fun v => .ok (wantedB want (some v))

def aResults (fn : Func) (a : Ac) (st : St) : Rs Value :=
  (mapR (fun r => match r with
    | .tmp t => Rs.of 100 (a.tmps.get t)
    | .cell x t => (Rs.of 100 (a.tmps.get x)).bind fun p => pLoad P st.heap t p) fn.results.toList).bind fun vs =>
  match vs with
  | [v] => .ok v
  | vs => .ok (.tuple ⟨vs⟩)

/-- what a function is asked for by name, if it is not walked -/
abbrev Summ := FuncId → Option (List Value → St → Rs (Value × St))

def sayV (m : String) (r : Rs Value) : Rs Value := match r with
  | .no c "" => .no c m
  | r => r
/-- a value goes on -/
abbrev Kn := Value → List Deferred → St → Rs Ans
def goOn (o : Oper) (s : St) (k : Kn) (v : Rs Value) : Rs Ans := (sayV o.pos v).bind fun v => k v [] s
def goOn2 (k : Kn) (v : Value) (s : St) : Rs Ans := k v [] s
def goNew (s : St) (k : Kn) (q : Rs (AObj × (Nat → Value))) : Rs Ans := q.bind fun q => s.new q.1 fun n s => k (q.2 n) [] s
def goInv2 (k : Kn) (r : Rs Ans) : Rs Ans :=
  match r with
  | .ok (.val v s) => k v [] s
  | .ok _ => .no 101 ""
  | .no c m => .no c m
def goInv (ih : Rq → Rs Ans) (s : St) (k : Kn) (args : List Value) (f : Value) : Rs Ans :=
  match f with
  | .func fn first cap => goInv2 k (ih (.inv (.fn fn cap) (first.toList ++ args) s))
  | _ => .no 102 ""
def goDefer2 (s : St) (k : Kn) (args : List Value) (f : Value) : Rs Ans :=
  match f with
  | .func fn first cap => k undefV [⟨.fn fn cap, ⟨first.toList ++ args⟩⟩] s
  | _ => .no 103 ""
def goDefer (rd : Option Nat) (ρ : Operand → Rs Value) (s : St) (k : Kn) (c : Call) : Rs Ans :=
  match c.callee, rd with
  | .value f, none => (ρ f).bind fun f => (mapR ρ c.args.toList).bind fun args => goDefer2 s k args f
  | _, _ => .no 103 ""
def goCall (ih : Rq → Rs Ans) (ρ : Operand → Rs Value) (s : St) (k : Kn) (c : Call) : Rs Ans :=
  match c.callee with
  | .value f => (ρ f).bind fun f => (mapR ρ c.args.toList).bind fun args => goInv ih s k args f
  | .builtin b => (mapR ρ c.args.toList).bind fun vs => eBuiltin P s b c.argTypes vs (goOn2 k)
  | _ => .no 104 ""
def doOp (ih : Rq → Rs Ans) (rd : Option Nat) (o : Oper) (ρ : Operand → Rs Value) (s : St) (k : Kn) : Rs Ans :=
  match o.op with
  | .call c => goCall P ih ρ s k c
  | .alloc _ => goNew s k (aOp P o.op ρ)
  | .box _ _ => goNew s k (aOp P o.op ρ)
  | .buildSlice _ _ _ => goNew s k (aOp P o.op ρ)
  | .makeMap _ _ => goNew s k (aOp P o.op ρ)
  | .makeSlice _ _ _ => goNew s k (aOp P o.op ρ)
  | .convert t d x => (match cvOf P t d with
    | .new => goNew s k (aOp P o.op ρ)
    | .same => (ρ x).bind fun x => eBytes s x (goOn2 k)
    | .plain => goOn o s k (pOp P s.heap o.op ρ))
  | .store t p x => (ρ p).bind fun p => (ρ x).bind fun x => eStore P s t p x (goOn2 k)
  | .mapUpdate t m q x => (ρ m).bind fun m => (ρ q).bind fun q => (ρ x).bind fun x => eMapPut P s t m q x (goOn2 k)
  | .insert t m q x => (ρ m).bind fun m => (ρ q).bind fun q => (ρ x).bind fun x => eMapPut P s t m q x (goOn2 k)
  | .range t x => (ρ x).bind fun x => eRange P s t x (goOn2 k)
  | .next it b => (ρ it).bind fun it => eNext s b it (goOn2 k)
  | .entry it => (ρ it).bind fun it => eEntry s it (goOn2 k)
  | .mapEntry t m q => (ρ m).bind fun m => (ρ q).bind fun q => eMapEntry P s t m q (goOn2 k)
  | .entryStore _ m b x => (ρ m).bind fun m => (ρ b).bind fun b => (ρ x).bind fun x => eEntryStore s m b x (goOn2 k)
  | .defer c => goDefer rd ρ s k c
  | op => goOn o s k (pOp P s.heap op ρ)
/-- a value goes to its place, calls put off to theirs, and on -/
def goPut (o : Oper) (a : Ac) (k : Ac → St → Rs Ans) (v : Value) (ds : List Deferred) (s : St) : Rs Ans :=
  match ds with
  | [] => a.put o.dst v fun a => k a s
  | d :: r => Ac.put ⟨a.tmps, a.n, d :: (r ++ a.dfs)⟩ o.dst v fun a => k a s

def recK : Kn := fun v ds s => .ok (.done v ds s)
def onRec (k : Kn) (r : Rs Ans) : Rs Ans :=
  match r with
  | .ok (.done v ds s) => k v ds s
  | .ok _ => .no 101 ""
  | .no c m => .no c m
def say (m : String) (r : Rs Ans) : Rs Ans := match r with
  | .no c "" => .no c m
  | r => r

def onSeq (ih : Rq → Rs Ans) (fn : FuncId) (rd : Option Nat) (y : Code) (r : Rs Ans) : Rs Ans :=
  match r with
  | .ok (.at .normal a s) => ih (.code fn rd y a s)
  | r => r
def onCond (ih : Rq → Rs Ans) (fn : FuncId) (rd : Option Nat) (x y : Code) (a : Ac) (s : St) (v : Value) : Rs Ans :=
  match v with
  | .bool true => ih (.code fn rd x a s)
  | .bool false => ih (.code fn rd y a s)
  | _ => .no 110 ""
def onBlock (id : Nat) (r : Rs Ans) : Rs Ans :=
  match r with
  | .ok (.at (.jump (.exit j)) a s) => ifb (Nat.beq j id) (.ok (.at .normal a s)) (.ok (.at (.jump (.exit j)) a s))
  | r => r
def onScope (r : Rs Ans) : Rs Ans :=
  match r with
  | .ok (.at (.jump (.goto _)) _ _) => .no 111 ""
  | r => r
def onRegion (ih : Rq → Rs Ans) (fn : FuncId) (rd : Option Nat) (ops : Array Oper) (draw : Bool) (a : Ac) (s : St) : Rs Ans :=
  ifb draw (match plan P ops with
    | some (n, l) => natK s.next fun b => natK (b + n) fun m => ih (.steps fn rd ops l b a ⟨s.heap, m⟩)
    | none => .no 114 (((ops[0]?).map (·.pos)).getD ""))
  (ih (.run fn rd ops ops.toList a s))
def onRangeEnd (a : Ac) (mark : List Deferred) (l : Nat) (s : St) (o : Option AObj) : Rs Ans :=
  match o with
  | some (.loop st pend fn' ts n ps as bd d) => (match st with
    | .busy => .no 115 ""
    | _ => s.put l (.loop .exhausted pend fn' ts n ps as bd d) fun s => (match pend with
      | none => .ok (.at .normal ⟨a.tmps, a.n, mark ++ a.dfs⟩ s)
      | some c => .ok (.at (.jump c) ⟨a.tmps, a.n, mark ++ a.dfs⟩ s)))
  | _ => .no 115 ""
def onRangeEnter (ih : Rq → Rs Ans) (fn : FuncId) (params : Array Tmp) (assign body : Code) (a : Ac) (g : Fn) (first cap : Array Value) (mark : List Deferred) (d : Nat) (s : St) : Rs Ans :=
  s.new (.loop .ready none fn a.tmps a.n params.toList assign body d) fun l s =>
    match ih (.inv (.fn g cap) (first.toList ++ [.func (.yield l) #[] #[]]) s) with
    | .ok (.val _ s) => onRangeEnd a mark l s (s.heap.get l)
    | .ok _ => .no 101 ""
    | .no c m => .no c m
def onRange (ih : Rq → Rs Ans) (fn : FuncId) (rd : Option Nat) (params : Array Tmp) (assign body : Code) (a : Ac) (s : St) (f : Value) : Rs Ans :=
  match f with
  | .func g first cap => (match rd with
    | none => s.new (.dfs true) fun d s => onRangeEnter ih fn params assign body a g first cap [⟨.collected d, #[]⟩] d s
    | some l => (match s.heap.get l with
      | some (.loop _ _ _ _ _ _ _ _ d) => onRangeEnter ih fn params assign body a g first cap [] d s
      | _ => .no 116 ""))
  | _ => .no 117 ""
def onCode (ih : Rq → Rs Ans) (fn : FuncId) (rd : Option Nat) (c : Code) (a : Ac) (s : St) : Rs Ans :=
  match c with
  | .skip => .ok (.at .normal a s)
  | .label _ => .ok (.at .normal a s)
  | .seq x y => onSeq ih fn rd y (ih (.code fn rd x a s))
  | .cond c x y => (a.ev c).bind (onCond ih fn rd x y a s)
  | .block id b => onBlock id (ih (.code fn rd b a s))
  | .loop b => onSeq ih fn rd (.loop b) (ih (.code fn rd b a s))
  | .scope b => onScope (ih (.code fn rd b a s))
  | .exit id => .ok (.at (.jump (.exit id)) a s)
  | .ret => .ok (.at (.jump .ret) a s)
  | .goto _ => .no 112 ""
  | .refuse _ => .no 113 ""
  | .region _ ops draw => onRegion P ih fn rd ops draw a s
  | .rangeFunc f params assign body => (a.ev f).bind (onRange ih fn rd params assign body a s)
def onRun (ih : Rq → Rs Ans) (fn : FuncId) (rd : Option Nat) (ops : Array Oper) (l : List Oper) (a : Ac) (s : St) : Rs Ans :=
  match l with
  | [] => .ok (.at .normal a s)
  | o :: l => (wantedA ops o a).bind fun w => ifb w (doOp P ih rd o a.ev s (goPut o a fun a s => ih (.run fn rd ops l a s))) (a.put o.dst undefV fun a => ih (.run fn rd ops l a s))
def onAgain (ih : Rq → Rs Ans) (fn : FuncId) (rd : Option Nat) (ops : Array Oper) (l : List PStep) (base : Nat) (a : Ac) (s : St) (o : Oper) (v : Rs Value) : Rs Ans :=
  match v, o.dst.bind a.tmps.get with
  | .ok v, some u => ifb (vEq2 u v) (ih (.steps fn rd ops l base a s)) (.no 119 o.pos)
  | _, _ => .no 119 o.pos
def onSteps (ih : Rq → Rs Ans) (fn : FuncId) (rd : Option Nat) (ops : Array Oper) (l : List PStep) (base : Nat) (a : Ac) (s : St) : Rs Ans :=
  match l with
  | [] => .ok (.at .normal a s)
  | .go i :: l => (Rs.of 118 ops[i]?).bind fun o => (wantedA ops o a).bind fun w => ifb w (onRec (goPut o a fun a s => ih (.steps fn rd ops l base a s)) (doOp P ih rd o a.ev s recK)) (a.put o.dst undefV fun a => ih (.steps fn rd ops l base a s))
  | .again i :: l => (Rs.of 118 ops[i]?).bind fun o => (wantedA ops o a).bind fun w => ifb w (onAgain ih fn rd ops l base a s o (pOp P s.heap o.op a.ev)) (ih (.steps fn rd ops l base a s))
  | .new i j :: l => (Rs.of 118 ops[i]?).bind fun o => (wantedA ops o a).bind fun w => ifb w ((aOp P o.op a.ev).bind fun q => natK (Nat.add base j) fun n => s.put n q.1 fun s => a.put o.dst (q.2 n) fun a => ih (.steps fn rd ops l base a s))
    (a.put o.dst undefV fun a => ih (.steps fn rd ops l base a s))
def onEnd (fn : Func) (v : Ac) (s : St) : Rs Ans := (aResults P fn v s).bind fun v => forceV v fun v => .ok (.val v s)
def onDfr (fn : Func) (a : Ac) (r : Rs Ans) : Rs Ans :=
  match r with
  | .ok (.st s) => onEnd P fn a s
  | .ok _ => .no 101 ""
  | .no c m => .no c m
def onLeave (ih : Rq → Rs Ans) (fn : Func) (a : Ac) (s : St) : Rs Ans :=
  match a.dfs with
  | [] => onEnd P fn a s
  | d :: ds => onDfr P fn a (ih (.dfr (d :: ds) s))
def onBody (ih : Rq → Rs Ans) (fn : Func) (r : Rs Ans) : Rs Ans :=
  match r with
  | .ok (.at e a s) => (match e with
    | .normal => onLeave P ih fn a s
    | .jump c => (match c with
      | .ret => onLeave P ih fn a s
      | _ => .no 120 ""))
  | .ok _ => .no 101 ""
  | .no c m => .no c m
def onFunc (ih : Rq → Rs Ans) (f : FuncId) (fn : Func) (args : List Value) (s : St) : Rs Ans :=
  match fn.body with
  | some c => onBody P ih fn (ih (.code f none c ⟨Tr.ofList args 0 .nil, max fn.ntmps (lenN args), []⟩ s))
  | none => (match extOf fn.name with
    | some x => ifb (decide (fn.origin = "")) (say fn.name (ext P s fn.resultTypes x args fun v s => .ok (.val v s))) (.no 121 fn.name)
    | none => .no 121 fn.name)
def onRoundJump (l : Nat) (s : St) (c : Code) (o : AObj) : Rs Ans :=
  match c with
  | .ret => s.put l o fun s => .ok (.val (.bool false) s)
  | .exit _ => s.put l o fun s => .ok (.val (.bool false) s)
  | _ => .no 124 ""
def onRoundEnd (l : Nat) (s : St) (e : XE) (o : Option AObj) : Rs Ans :=
  match o with
  | some (.loop _ _ fn' ts n ps as bd d) => (match e with
    | .normal => s.put l (.loop .ready none fn' ts n ps as bd d) fun s => .ok (.val (.bool true) s)
    | .jump c => onRoundJump l s c (.loop .done (some c) fn' ts n ps as bd d))
  | _ => .no 124 ""
def onRoundBody (l : Nat) (r : Rs Ans) : Rs Ans :=
  match r with
  | .ok (.at e a s) => (match a.dfs with
    | [] => onRoundEnd l s e (s.heap.get l)
    | _ => .no 124 "")
  | .ok _ => .no 101 ""
  | .no c m => .no c m
def onRoundGo (ih : Rq → Rs Ans) (fn : FuncId) (l : Nat) (bd : Code) (a : Ac) (s : St) (o : Option AObj) : Rs Ans :=
  match o with
  | some (.loop .ready pend fn' ts n ps as' bd' d) => s.put l (.loop .busy pend fn' ts n ps as' bd' d) fun s => onRoundBody l (ih (.code fn (some l) bd a s))
  | _ => .no 124 ""
def onRoundAssign (ih : Rq → Rs Ans) (fn : FuncId) (l : Nat) (bd : Code) (r : Rs Ans) : Rs Ans :=
  match r with
  | .ok (.at .normal a s) => onRoundGo ih fn l bd a s (s.heap.get l)
  | .ok _ => .no 124 ""
  | .no c m => .no c m
def putAll (k : Ac → Rs Ans) (l : List (Tmp × Value)) : Ac → Rs Ans := List.rec k (fun pa _ ih a => a.put (some pa.1) pa.2 ih) l
def onYield (ih : Rq → Rs Ans) (l : Nat) (args : List Value) (s : St) (o : Option AObj) : Rs Ans :=
  match o with
  | some (.loop .ready _ fn ts n ps as bd _) => ifb (Nat.beq (lenN args) (lenN ps)) (putAll (fun a => onRoundAssign ih fn l bd (ih (.code fn (some l) as a s))) (ps.zip args) ⟨ts, n, []⟩) (.no 123 "")
  | _ => .no 125 ""
def onInv (Sm : Summ) (ih : Rq → Rs Ans) (t : Target) (args : List Value) (s : St) : Rs Ans :=
  match t with
  | .fn (.func f) cap => (match Sm f with
    | some g => (g (args ++ cap.toList) s).bind fun r => .ok (.val r.1 r.2)
    | none => (Rs.of 122 P.funcs[f]?).bind fun fn => onFunc P ih f fn (args ++ cap.toList) s)
  | .fn (.yield l) _ => onYield ih l args s (s.heap.get l)
  | _ => .no 126 ""
def onDeferred (ih : Rq → Rs Ans) (ds : List Deferred) (r : Rs Ans) : Rs Ans :=
  match r with
  | .ok (.val _ s) => ih (.dfr ds s)
  | .ok _ => .no 101 ""
  | .no c m => .no c m
def noSm (Sm : Summ) (fn : Fn) : Bool :=
  match fn with
  | .func f => (match Sm f with
    | none => true
    | some _ => false)
  | _ => true
def onDfrs (Sm : Summ) (ih : Rq → Rs Ans) (l : List Deferred) (s : St) : Rs Ans :=
  match l with
  | [] => .ok (.st s)
  | d :: ds => (match d.target with
    | .collected r => (match s.heap.get r with
      | some (.dfs true) => s.put r (.dfs false) fun s => ih (.dfr ds s)
      | _ => .no 127 "")
    | .fn fn cap => ifb (noSm Sm fn) (onDeferred ih ds (ih (.inv (.fn fn cap) d.args.toList s))) (.no 129 "")
    | _ => .no 128 "")

def step (Sm : Summ) (ih : Rq → Rs Ans) (q : Rq) : Rs Ans :=
  match q with
  | .code fn rd c a s => onCode P ih fn rd c a s
  | .run fn rd ops l a s => onRun P ih fn rd ops l a s
  | .steps fn rd ops l base a s => onSteps P ih fn rd ops l base a s
  | .inv t args s => onInv P Sm ih t args s
  | .dfr l s => onDfrs Sm ih l s

def run (Sm : Summ) (n : Nat) : Rq → Rs Ans := Nat.rec (fun _ => .no 0 "fuel") (fun _ ih => step P Sm ih) n
end
end Go.Proofs.YtbakhdgiimjnkaaGreatDoor.Abs
