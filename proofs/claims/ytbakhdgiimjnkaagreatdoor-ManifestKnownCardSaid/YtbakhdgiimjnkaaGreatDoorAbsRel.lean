/-
  How the evaluator's values and memory stand to the model's: blocks have names of their own.
-/
import Derived.Test.YtbakhdgiimjnkaaGreatDoorAbsInts
import Derived.Laws.Sem
import Derived.Laws.Cells
namespace Go.Proofs.YtbakhdgiimjnkaaGreatDoor.Abs

/-- where a block lies; of a block with room behind: cells of an element, elements there are room for -/
structure Loc where
  blk : Nat
  base : Nat
  s : Nat
  cap : Nat
abbrev Phi := Nat → Option Loc

def Phi.le (φ ψ : Phi) : Prop := ∀ b L, φ b = some L → ψ b = some L
theorem Phi.le_refl (φ : Phi) : φ.le φ := fun _ _ h => h
theorem Phi.le_trans {φ ψ χ : Phi} (h : φ.le ψ) (k : ψ.le χ) : φ.le χ := fun b L e => k b L (h b L e)

/-- functions' names -/
inductive FRel (φ : Phi) : Fn → Fn → Prop where
  | func (f : FuncId) : FRel φ (.func f) (.func f)
  | yield {l : Nat} {L : Loc} (h : φ l = some L) : FRel φ (.yield l) (.yield L.blk)
  | method (n : String) : FRel φ (.method n) (.method n)
  | methodOf (t : TypeId) (n : String) : FRel φ (.methodOf t n) (.methodOf t n)
  | via (t : TypeId) (p : Array FieldStep) (f : FuncId) (b : Bool) : FRel φ (.via t p f b) (.via t p f b)

inductive VRel (φ : Phi) : Value → Value → Prop where
  | bool (b : Bool) : VRel φ (.bool b) (.bool b)
  | int (k : IntKind) (n : Int) : VRel φ (.int k n) (.int k n)
  | float (k : FloatKind) (n : Nat) : VRel φ (.float k n) (.float k n)
  | complex (k : FloatKind) (a b : Nat) : VRel φ (.complex k a b) (.complex k a b)
  | string (s : ByteArray) : VRel φ (.string s) (.string s)
  | nilPtr : VRel φ (.pointer none) (.pointer none)
  | ptr {b : Nat} {L : Loc} (o : Nat) (h : φ b = some L) : VRel φ (.pointer (some ⟨b, o, none⟩)) (.pointer (some ⟨L.blk, L.base + o, none⟩))
  | nilSlice : VRel φ (.slice none 0 0) (.slice none 0 0)
  | slice {b n c : Nat} {L : Loc} (o : Nat) (h : φ b = some L) (hc : c < open_) (hn : n ≤ c) : VRel φ (.slice (some ⟨b, o, none⟩) n c) (.slice (some ⟨L.blk, L.base + o, none⟩) n c)
  | room {b n c j : Nat} {L : Loc} (h : φ b = some L) (hs : 0 < L.s) (hc : j + c = L.cap) (hn : n ≤ c) : VRel φ (.slice (some ⟨b, j * L.s, none⟩) n open_) (.slice (some ⟨L.blk, L.base + j * L.s, none⟩) n c)
  | full {b o : Nat} {L : Loc} (a : Addr) (h : φ b = some L) (ho : o = L.cap * L.s) : VRel φ (.slice (some ⟨b, o, none⟩) 0 open_) (.slice (some a) 0 0)
  | nilMap : VRel φ (.map none) (.map none)
  | map {r : Nat} {L : Loc} (h : φ r = some L) : VRel φ (.map (some r)) (.map (some L.blk))
  | nilFunc : VRel φ .nilFunc .nilFunc
  | nilIface : VRel φ .nilIface .nilIface
  | iface (t : TypeId) {v v' : Value} (h : VRel φ v v') : VRel φ (.iface t v) (.iface t v')
  | func {f f' : Fn} {xs ys zs us : Array Value} (hf : FRel φ f f') (h1 : xs.size = ys.size) (h2 : zs.size = us.size)
      (h3 : ∀ (i : Nat) (v v' : Value), xs[i]? = some v → ys[i]? = some v' → VRel φ v v') (h4 : ∀ (i : Nat) (v v' : Value), zs[i]? = some v → us[i]? = some v' → VRel φ v v') : VRel φ (.func f xs zs) (.func f' ys us)
  | agg {xs ys : Array Value} (h1 : xs.size = ys.size) (h3 : ∀ (i : Nat) (v v' : Value), xs[i]? = some v → ys[i]? = some v' → VRel φ v v') : VRel φ (.agg xs) (.agg ys)
  | tuple {xs ys : Array Value} (h1 : xs.size = ys.size) (h3 : ∀ (i : Nat) (v v' : Value), xs[i]? = some v → ys[i]? = some v' → VRel φ v v') : VRel φ (.tuple xs) (.tuple ys)

theorem FRel.mono {φ ψ : Phi} (h : φ.le ψ) {f g : Fn} (k : FRel φ f g) : FRel ψ f g := by
  cases k with
  | func f => exact .func f
  | yield e => exact .yield (h _ _ e)
  | method n => exact .method n
  | methodOf t n => exact .methodOf t n
  | via t p f b => exact .via t p f b
theorem VRel.mono {φ ψ : Phi} (h : φ.le ψ) {v u : Value} (k : VRel φ v u) : VRel ψ v u := by
  induction k with
  | bool b => exact .bool b
  | int k n => exact .int k n
  | float k n => exact .float k n
  | complex k a b => exact .complex k a b
  | string s => exact .string s
  | nilPtr => exact .nilPtr
  | ptr o e => exact .ptr o (h _ _ e)
  | nilSlice => exact .nilSlice
  | slice o e hc hn => exact .slice o (h _ _ e) hc hn
  | room e hs hc hn => exact .room (h _ _ e) hs hc hn
  | full a e ho => exact .full a (h _ _ e) ho
  | nilMap => exact .nilMap
  | map e => exact .map (h _ _ e)
  | nilFunc => exact .nilFunc
  | nilIface => exact .nilIface
  | iface t _ ih => exact .iface t ih
  | func hf h1 h2 _ _ i3 i4 => exact .func (hf.mono h) h1 h2 i3 i4
  | agg h1 _ ih => exact .agg h1 ih
  | tuple h1 _ ih => exact .tuple h1 ih

/-- lists of values -/
def LRel (φ : Phi) (xs ys : List Value) : Prop := xs.length = ys.length ∧ ∀ (i : Nat) (v v' : Value), xs[i]? = some v → ys[i]? = some v' → VRel φ v v'
theorem LRel.mono {φ ψ : Phi} (h : φ.le ψ) {xs ys : List Value} (k : LRel φ xs ys) : LRel ψ xs ys := ⟨k.1, fun i v v' a b => (k.2 i v v' a b).mono h⟩
theorem LRel.nil (φ : Phi) : LRel φ [] [] := ⟨rfl, fun i v v' a => by simp at a⟩
theorem LRel.cons {φ : Phi} {v v' : Value} {xs ys : List Value} (h : VRel φ v v') (k : LRel φ xs ys) : LRel φ (v :: xs) (v' :: ys) :=
  ⟨by simp [k.1], fun i u u' a b => by
    cases i with
    | zero =>
      obtain rfl : v = u := by simpa using a
      obtain rfl : v' = u' := by simpa using b
      exact h
    | succ i => exact k.2 i u u' (by simpa using a) (by simpa using b)⟩
theorem LRel.append {φ : Phi} {xs ys zs us : List Value} (h : LRel φ xs ys) (k : LRel φ zs us) : LRel φ (xs ++ zs) (ys ++ us) :=
  ⟨by simp [h.1, k.1], fun i v v' a b => by
    by_cases hi : i < xs.length
    · rw [List.getElem?_append_left hi] at a
      rw [List.getElem?_append_left (h.1 ▸ hi)] at b
      exact h.2 i v v' a b
    · rw [List.getElem?_append_right (by omega)] at a
      rw [List.getElem?_append_right (by have := h.1; omega)] at b
      rw [← h.1] at b
      exact k.2 _ v v' a b⟩
theorem LRel.get {φ : Phi} {xs ys : List Value} (h : LRel φ xs ys) {i : Nat} {v : Value} (e : xs[i]? = some v) : ∃ v', ys[i]? = some v' ∧ VRel φ v v' := by
  have hi : i < xs.length := by
    rcases Nat.lt_or_ge i xs.length with h | h
    · exact h
    · rw [List.getElem?_eq_none h] at e; cases e
  have e' : ys[i]? = some (ys[i]'(h.1 ▸ hi)) := List.getElem?_eq_getElem _
  exact ⟨_, e', h.2 i v _ e e'⟩
theorem LRel.take {φ : Phi} {xs ys : List Value} (h : LRel φ xs ys) (n : Nat) : LRel φ (xs.take n) (ys.take n) :=
  ⟨by simp [h.1], fun i v v' a b => by
    rw [List.getElem?_take] at a b
    by_cases hi : i < n
    · rw [if_pos hi] at a b
      exact h.2 i v v' a b
    · rw [if_neg hi] at a
      cases a⟩
theorem LRel.drop {φ : Phi} {xs ys : List Value} (h : LRel φ xs ys) (n : Nat) : LRel φ (xs.drop n) (ys.drop n) :=
  ⟨by simp [h.1], fun i v v' a b => by
    rw [List.getElem?_drop] at a b
    exact h.2 _ v v' a b⟩
/-- two arrays stand so if their lists do -/
theorem LRel.arr {φ : Phi} {xs ys : Array Value} (h : LRel φ xs.toList ys.toList) : xs.size = ys.size ∧ ∀ (i : Nat) (v v' : Value), xs[i]? = some v → ys[i]? = some v' → VRel φ v v' :=
  ⟨by simpa using h.1, fun i v v' a b => h.2 i v v' (by simpa using a) (by simpa using b)⟩
theorem LRel.of_arr {φ : Phi} {xs ys : Array Value} (h1 : xs.size = ys.size) (h2 : ∀ (i : Nat) (v v' : Value), xs[i]? = some v → ys[i]? = some v' → VRel φ v v') : LRel φ xs.toList ys.toList :=
  ⟨by simpa using h1, fun i v v' a b => h2 i v v' (by simpa using a) (by simpa using b)⟩

/-- values that hold no address stand to themselves -/
inductive Flat : Value → Prop where
  | bool (b : Bool) : Flat (.bool b)
  | int (k : IntKind) (n : Int) : Flat (.int k n)
  | float (k : FloatKind) (n : Nat) : Flat (.float k n)
  | complex (k : FloatKind) (a b : Nat) : Flat (.complex k a b)
  | string (s : ByteArray) : Flat (.string s)
  | nilPtr : Flat (.pointer none)
  | nilSlice : Flat (.slice none 0 0)
  | nilMap : Flat (.map none)
  | nilFunc : Flat .nilFunc
  | nilIface : Flat .nilIface
  | agg {xs : Array Value} (h : ∀ (i : Nat) (v : Value), xs[i]? = some v → Flat v) : Flat (.agg xs)
  | tuple {xs : Array Value} (h : ∀ (i : Nat) (v : Value), xs[i]? = some v → Flat v) : Flat (.tuple xs)
theorem Flat.rel (φ : Phi) {v : Value} (h : Flat v) : VRel φ v v := by
  induction h with
  | bool b => exact .bool b
  | int k n => exact .int k n
  | float k n => exact .float k n
  | complex k a b => exact .complex k a b
  | string s => exact .string s
  | nilPtr => exact .nilPtr
  | nilSlice => exact .nilSlice
  | nilMap => exact .nilMap
  | nilFunc => exact .nilFunc
  | nilIface => exact .nilIface
  | agg _ ih => exact .agg rfl fun i v v' a b => by rw [a] at b; cases b; exact ih i v a
  | tuple _ ih => exact .tuple rfl fun i v v' a b => by rw [a] at b; cases b; exact ih i v a
theorem constOk_flat {v : Value} (h : constOk v = true) : Flat v := by
  unfold constOk at h
  split at h <;> first | cases h | skip
  · exact .bool _
  · exact .int _ _
  · exact .float _ _
  · exact .complex _ _ _
  · exact .string _
  · exact .nilPtr
  · exact .nilSlice
  · exact .nilMap
  · exact .nilFunc
  · exact .nilIface

/-- the block of cells, as it lies -/
def CellsAt (φ : Phi) (L : Loc) (l : List Value) (c : Array Value) : Prop := ∀ (i : Nat) (v : Value), l[i]? = some v → ∃ v', c[L.base + i]? = some v' ∧ VRel φ v v'
/-- where a block may be frozen -/
def FrozenAt (L : Loc) (n : Nat) (fz fr : Nat × Nat) : Prop :=
  (∀ i, i < n → fr.1 ≤ L.base + i → L.base + i < fr.2 → fz.1 ≤ i ∧ i < fz.2) ∧ (fz.1 < open_ → fr.1 < fr.2 → L.base + fz.1 ≤ fr.1 ∧ fr.2 ≤ L.base + fz.2) ∧ fr.1 ≤ fr.2 ∧ (fz.1 = open_ → fr.1 = fr.2 ∨ L.base + n ≤ fr.1)

def TRel (φ : Phi) (ts : Tr Value) (n : Nat) (tmps : Array Value) : Prop := tmps.size = n ∧ ∀ (t : Nat) (v : Value), ts.get t = some v → ∃ v', tmps[t]? = some v' ∧ VRel φ v v'
theorem TRel.mono {φ ψ : Phi} (h : φ.le ψ) {ts : Tr Value} {n : Nat} {tmps : Array Value} (k : TRel φ ts n tmps) : TRel ψ ts n tmps :=
  ⟨k.1, fun t v e => let ⟨v', a, b⟩ := k.2 t v e; ⟨v', a, b.mono h⟩⟩

def ERel (φ : Phi) (e f : MapEntry) : Prop := VRel φ e.key f.key ∧ VRel φ e.val f.val ∧ e.born = f.born

/-- a block of the evaluator's and the model's block -/
inductive ORel (φ : Phi) (L : Loc) : AObj → Obj → Prop where
  | closed {l : List Value} {e : TypeId} {s : Nat} {fz fr : Nat × Nat} {c : Array Value} (hb : L.base = 0) (hn : c.size = l.length) (hc : CellsAt φ L l c) (hf : FrozenAt L l.length fz fr) : ORel φ L (.cells l e s false fz) (.cells c e fr)
  | room {l : List Value} {e : TypeId} {fz fr : Nat × Nat} {c : Array Value} (hs : 0 < L.s) (hn : L.base + L.cap * L.s ≤ c.size) (hl : l.length ≤ L.cap * L.s) (hc : CellsAt φ L l c)
      (hf : FrozenAt L (L.cap * L.s) fz fr) (ho : ∀ i, i < L.cap * L.s → ∃ v, c[L.base + i]? = some v) : ORel φ L (.cells l e L.s true fz) (.cells c e fr)
  | const {l : List Value} {e e' : TypeId} {fr : Nat × Nat} {c : Array Value} (hb : L.base = 0) (hc : CellsAt φ L l c) : ORel φ L (.const l e) (.cells c e' fr)
  | map {es : List MapEntry} {fs : Array MapEntry} {clock : Nat} (h1 : es.length = fs.size) (h2 : ∀ (i : Nat) (e f : MapEntry), es[i]? = some e → fs[i]? = some f → ERel φ e f) : ORel φ L (.map es clock) (.map fs clock)
  | str (hb : L.base = 0) (s : ByteArray) (pos : Nat) : ORel φ L (.str s pos) (.stringIter s pos)
  | nilIter (hb : L.base = 0) (a : Nat) (l : List Nat) (b : Nat) : ORel φ L (.iter none a l b) (.mapIter none a ⟨l⟩ b)
  | iter {m : Nat} {M : Loc} (hb : L.base = 0) (h : φ m = some M) (a : Nat) (l : List Nat) (b : Nat) : ORel φ L (.iter (some m) a l b) (.mapIter (some M.blk) a ⟨l⟩ b)
  | loop {d n : Nat} {D : Loc} {ts : Tr Value} {tmps : Array Value} (st : LoopState) (pend : Option Code) (fn : FuncId) (ps : Array Tmp) (as bd : Code) (h : φ d = some D) (ht : TRel φ ts n tmps) :
      ORel φ L (.loop st pend fn ts n ps.toList as bd d) (.loop ⟨st, pend, fn, tmps, ps, as, bd, D.blk⟩)
  | dfsOpen : ORel φ L (.dfs true) (.deferred (some []))
  | dfsDone : ORel φ L (.dfs false) (.deferred none)

theorem CellsAt.mono {φ ψ : Phi} (h : φ.le ψ) {L : Loc} {l : List Value} {c : Array Value} (k : CellsAt φ L l c) : CellsAt ψ L l c :=
  fun i v e => let ⟨v', a, b⟩ := k i v e; ⟨v', a, b.mono h⟩
theorem ORel.mono {φ ψ : Phi} (h : φ.le ψ) {L : Loc} {o : AObj} {x : Obj} (k : ORel φ L o x) : ORel ψ L o x := by
  cases k with
  | closed hb hn hc hf => exact .closed hb hn (hc.mono h) hf
  | room hs hn hl hc hf ho => exact .room hs hn hl (hc.mono h) hf ho
  | const hb hc => exact .const hb (hc.mono h)
  | map h1 h2 => exact .map h1 fun i e f a b => let ⟨x, y, z⟩ := h2 i e f a b; ⟨x.mono h, y.mono h, z⟩
  | str hb s pos => exact .str hb s pos
  | nilIter hb a l b => exact .nilIter hb a l b
  | iter hb e a l b => exact .iter hb (h _ _ e) a l b
  | loop st pend fn ps as bd e ht => exact .loop st pend fn ps as bd (h _ _ e) (ht.mono h)
  | dfsOpen => exact .dfsOpen
  | dfsDone => exact .dfsDone

def AObj.isConst : AObj → Bool
  | .const _ _ => true
  | _ => false

/-- the evaluator's memory and the model's -/
structure HF (φ : Phi) (f : Nat → Option AObj) (w : World) : Prop where
  inj : ∀ b c x y L M, f b = some x → f c = some y → φ b = some L → φ c = some M → L.blk = M.blk → b = c
  obj : ∀ b x, f b = some x → ∃ L, φ b = some L ∧ ∃ o, w.heap[L.blk]? = some o ∧ ORel φ L x o
abbrev HRel (φ : Phi) (h : Tr AObj) (w : World) : Prop := HF φ h.get w

structure SF (φ : Phi) (f : Nat → Option AObj) (n : Nat) (w : World) : Prop where
  mem : HF φ f w
  fresh : ∀ b, n ≤ b → φ b = none
  globals : ∀ g, g < 4096 → φ g = some ⟨g, 0, 0, 0⟩
abbrev SRel (φ : Phi) (st : St) (w : World) : Prop := SF φ st.heap.get st.next w

/-- of what was there, only blocks that have names (and are no constants) have turned -/
structure FrF (φ : Phi) (f : Nat → Option AObj) (w : World) (ψ : Phi) (f' : Nat → Option AObj) (w' : World) : Prop where
  size : w.heap.size ≤ w'.heap.size
  os : w'.os = w.os
  tape : w'.tape = w.tape
  output : w'.output = w.output
  rest : ∀ k, k < w.heap.size → (∀ b x L, f b = some x → x.isConst = false → φ b = some L → L.blk ≠ k) →
    w'.heap[k]? = w.heap[k]? ∧ ∀ b x L, f' b = some x → ψ b = some L → L.blk = k → x.isConst = true ∧ f b = some x ∧ φ b = some L
abbrev Fr (φ : Phi) (h : Tr AObj) (w : World) (ψ : Phi) (h' : Tr AObj) (w' : World) : Prop := FrF φ h.get w ψ h'.get w'

theorem FrF.own {φ : Phi} {f : Nat → Option AObj} {k : Nat} (h : ∀ b x L, f b = some x → x.isConst = false → φ b = some L → L.blk ≠ k) : ∀ b x L, f b = some x → φ b = some L → L.blk = k → x.isConst = true ∧ f b = some x ∧ φ b = some L :=
  fun b x L h1 h2 h3 => ⟨by cases hx : x.isConst with | true => rfl | false => exact absurd h3 (h b x L h1 hx h2), h1, h2⟩
theorem FrF.not {φ : Phi} {f : Nat → Option AObj} {k : Nat} {ψ : Phi} {f' : Nat → Option AObj} (h : ∀ b x L, f' b = some x → ψ b = some L → L.blk = k → x.isConst = true ∧ f b = some x ∧ φ b = some L) : ∀ b x L, f' b = some x → x.isConst = false → ψ b = some L → L.blk ≠ k :=
  fun b x L h1 h2 h3 h4 => by have := (h b x L h1 h3 h4).1; rw [h2] at this; cases this
theorem FrF.refl (φ : Phi) (f : Nat → Option AObj) (w : World) : FrF φ f w φ f w := ⟨Nat.le_refl _, rfl, rfl, rfl, fun _ _ n => ⟨rfl, FrF.own n⟩⟩
theorem FrF.trans {φ ψ χ : Phi} {h h' h'' : Nat → Option AObj} {w w' w'' : World} (a : FrF φ h w ψ h' w') (b : FrF ψ h' w' χ h'' w'') : FrF φ h w χ h'' w'' :=
  ⟨Nat.le_trans a.size b.size, b.os.trans a.os, b.tape.trans a.tape, b.output.trans a.output, fun k hk hn => by
    obtain ⟨e1, n1⟩ := a.rest k hk hn
    obtain ⟨e2, n2⟩ := b.rest k (Nat.lt_of_lt_of_le hk a.size) (FrF.not n1)
    refine ⟨e2.trans e1, fun c x L h1 h2 h3 => ?_⟩
    obtain ⟨_, h4, h5⟩ := n2 c x L h1 h2 h3
    exact n1 c x L h4 h5 h3⟩

/-- what a step leaves -/
structure PF (φ : Phi) (f : Nat → Option AObj) (n : Nat) (w : World) (ψ : Phi) (f' : Nat → Option AObj) (n' : Nat) (w' : World) : Prop where
  rel : SF ψ f' n' w'
  le : φ.le ψ
  fr : FrF φ f w ψ f' w'
  next : n ≤ n'
  names : ∀ b, b < n → ψ b = φ b
abbrev Post (φ : Phi) (st : St) (w : World) (ψ : Phi) (st' : St) (w' : World) : Prop := PF φ st.heap.get st.next w ψ st'.heap.get st'.next w'
theorem PF.refl {φ : Phi} {f : Nat → Option AObj} {n : Nat} {w : World} (h : SF φ f n w) : PF φ f n w φ f n w := ⟨h, φ.le_refl, .refl _ _ _, Nat.le_refl _, fun _ _ => rfl⟩
theorem PF.trans {φ ψ χ : Phi} {f f' f'' : Nat → Option AObj} {n n' n'' : Nat} {w w' w'' : World} (a : PF φ f n w ψ f' n' w') (b : PF ψ f' n' w' χ f'' n'' w'') : PF φ f n w χ f'' n'' w'' :=
  ⟨b.rel, Phi.le_trans a.le b.le, a.fr.trans b.fr, Nat.le_trans a.next b.next, fun c h => (b.names c (Nat.lt_of_lt_of_le h a.next)).trans (a.names c h)⟩
theorem Post.refl {φ : Phi} {st : St} {w : World} (h : SRel φ st w) : Post φ st w φ st w := PF.refl h
theorem Post.trans {φ ψ χ : Phi} {st st' st'' : St} {w w' w'' : World} (a : Post φ st w ψ st' w') (b : Post ψ st' w' χ st'' w'') : Post φ st w χ st'' w'' := PF.trans a b

theorem HF.drew {φ : Phi} {h : Nat → Option AObj} {w : World} (k : HF φ h w) : HF φ h { w with drawn := w.drawn + 1 } := ⟨k.inj, k.obj⟩
theorem SF.drew {φ : Phi} {f : Nat → Option AObj} {n : Nat} {w : World} (k : SF φ f n w) : SF φ f n { w with drawn := w.drawn + 1 } := ⟨k.mem.drew, k.fresh, k.globals⟩
theorem Post.drew {φ : Phi} {st : St} {w : World} (k : SRel φ st w) : Post φ st w φ st { w with drawn := w.drawn + 1 } :=
  ⟨k.drew, φ.le_refl, ⟨Nat.le_refl _, rfl, rfl, rfl, fun _ _ n => ⟨rfl, FrF.own n⟩⟩, Nat.le_refl _, fun _ _ => rfl⟩

theorem SF.lt {φ : Phi} {f : Nat → Option AObj} {n : Nat} {w : World} (k : SF φ f n w) {b : Nat} {L : Loc} (h : φ b = some L) : b < n := by
  rcases Nat.lt_or_ge b n with x | x
  · exact x
  · rw [k.fresh b x] at h; cases h
theorem HF.lt {φ : Phi} {h : Nat → Option AObj} {w : World} (k : HF φ h w) {b : Nat} {x : AObj} {L : Loc} (e : h b = some x) (hL : φ b = some L) : L.blk < w.heap.size := by
  obtain ⟨M, h1, o, h2, _⟩ := k.obj b x e
  rw [hL] at h1
  obtain rfl := Option.some.inj h1
  exact (Array.getElem?_eq_some_iff.1 h2).1
theorem HF.objAt {φ : Phi} {h : Nat → Option AObj} {w : World} (k : HF φ h w) {b : Nat} {x : AObj} {L : Loc} (e : h b = some x) (hL : φ b = some L) : ∃ o, w.heap[L.blk]? = some o ∧ ORel φ L x o := by
  obtain ⟨M, h1, o, h2, h3⟩ := k.obj b x e
  rw [hL] at h1
  obtain rfl := Option.some.inj h1
  exact ⟨o, h2, h3⟩

/-- a name for a new block -/
def Phi.add (φ : Phi) (b : Nat) (L : Loc) : Phi := fun c => if c = b then some L else φ c
theorem Phi.add_same (φ : Phi) (b : Nat) (L : Loc) : φ.add b L b = some L := by simp [Phi.add]
theorem Phi.add_le {φ : Phi} {b : Nat} {L : Loc} (h : φ b = none) : φ.le (φ.add b L) := fun c M e => by
  unfold Phi.add
  split
  · rename_i x; subst x; rw [h] at e; cases e
  · exact e

/-- A NEW BLOCK. -/
theorem Post.new {φ : Phi} {st : St} {w : World} (k : SRel φ st w) (x : AObj) (o : Obj) (L : Loc) (hL : L.blk = w.heap.size) (hx : ∀ ψ : Phi, φ.le ψ → ORel ψ L x o) :
    Post φ st w (φ.add st.next L) ⟨st.heap.set st.next x, st.next + 1⟩ { w with heap := w.heap.push o } := by
  have hle : φ.le (φ.add st.next L) := Phi.add_le (k.fresh _ (Nat.le_refl _))
  have old : ∀ i, i < w.heap.size → (w.heap.push o)[i]? = w.heap[i]? := fun i hi => by rw [Array.getElem?_push, if_neg (by omega)]
  refine ⟨⟨⟨?_, ?_⟩, ?_, ?_⟩, hle, ⟨by simp, rfl, rfl, rfl, ?_⟩, Nat.le_succ _, fun b hb => by simp only [Phi.add]; rw [if_neg (Nat.ne_of_lt hb)]⟩
  · intro b c y z M N hb hc hM hN hMN
    rcases Tr.get_set hb with ⟨rfl, _⟩ | ⟨n1, g1⟩ <;> rcases Tr.get_set hc with ⟨rfl, _⟩ | ⟨n2, g2⟩
    · rfl
    · rw [Phi.add_same] at hM
      obtain rfl := Option.some.inj hM
      simp only [Phi.add, if_neg n2] at hN
      have := k.mem.lt g2 hN
      omega
    · rw [Phi.add_same] at hN
      obtain rfl := Option.some.inj hN
      simp only [Phi.add, if_neg n1] at hM
      have := k.mem.lt g1 hM
      omega
    · simp only [Phi.add, if_neg n1] at hM
      simp only [Phi.add, if_neg n2] at hN
      exact k.mem.inj b c y z M N g1 g2 hM hN hMN
  · intro b y hb
    rcases Tr.get_set hb with ⟨rfl, rfl⟩ | ⟨n1, g1⟩
    · exact ⟨L, Phi.add_same _ _ _, o, by rw [hL]; simp, hx _ hle⟩
    · obtain ⟨M, h1, o', h2, h3⟩ := k.mem.obj b y g1
      exact ⟨M, hle _ _ h1, o', by
        show (w.heap.push o)[M.blk]? = some o'
        rw [old _ (k.mem.lt g1 h1)]; exact h2, h3.mono hle⟩
  · intro b hb
    have hb' : st.next + 1 ≤ b := hb
    simp only [Phi.add]
    rw [if_neg (by omega)]
    exact k.fresh b (by omega)
  · intro g hg
    exact hle _ _ (k.globals g hg)
  · intro i hi hn
    refine ⟨old i hi, fun b y M hb hM hk => ?_⟩
    rcases Tr.get_set hb with ⟨rfl, _⟩ | ⟨n1, g1⟩
    · rw [Phi.add_same] at hM
      obtain rfl := Option.some.inj hM
      omega
    · simp only [Phi.add, if_neg n1] at hM
      exact FrF.own hn b y M g1 hM hk

/-- A BLOCK HAS TURNED. -/
theorem Post.turn {φ : Phi} {st : St} {w w' : World} (k : SRel φ st w) {b : Nat} {x y : AObj} {L : Loc} (hx : st.heap.get b = some x) (hc : x.isConst = false) (hL : φ b = some L)
    (hw : w'.heap.size = w.heap.size ∧ w'.os = w.os ∧ w'.tape = w.tape ∧ w'.output = w.output) (ho : ∀ i, i ≠ L.blk → w'.heap[i]? = w.heap[i]?) (hy : ∃ o, w'.heap[L.blk]? = some o ∧ ORel φ L y o) :
    Post φ st w φ ⟨st.heap.set b y, st.next⟩ w' := by
  have back : ∀ c z, (st.heap.set b y).get c = some z → ∃ u, st.heap.get c = some u ∧ (c ≠ b → u = z) ∧ (u.isConst = true → c ≠ b) := by
    intro c z h
    rcases Tr.get_set h with ⟨rfl, _⟩ | ⟨n, g⟩
    · exact ⟨x, hx, fun e => absurd rfl e, fun e => by rw [hc] at e; cases e⟩
    · exact ⟨z, g, fun _ => rfl, fun _ => n⟩
  refine ⟨⟨⟨?_, ?_⟩, k.fresh, k.globals⟩, φ.le_refl, ⟨by omega, hw.2.1, hw.2.2.1, hw.2.2.2, ?_⟩, Nat.le_refl _, fun _ _ => rfl⟩
  · intro c d u v M N h1 h2 h3 h4 h5
    obtain ⟨_, g1, _, _⟩ := back c u h1
    obtain ⟨_, g2, _, _⟩ := back d v h2
    exact k.mem.inj c d _ _ M N g1 g2 h3 h4 h5
  · intro c z h
    rcases Tr.get_set h with ⟨rfl, rfl⟩ | ⟨n, g⟩
    · exact ⟨L, hL, hy⟩
    · obtain ⟨M, h1, o, h2, h3⟩ := k.mem.obj c z g
      have hne : M.blk ≠ L.blk := fun e => n (k.mem.inj c b _ _ M L g hx h1 hL e)
      exact ⟨M, h1, o, by rw [ho _ hne]; exact h2, h3⟩
  · intro i hi hn
    refine ⟨ho i fun e => hn b x L hx hc hL e.symm, fun c z M h1 h3 hk => ?_⟩
    rcases Tr.get_set h1 with ⟨rfl, _⟩ | ⟨n, g⟩
    · rw [hL] at h3
      obtain rfl := Option.some.inj h3
      exact absurd hk (hn c x L hx hc hL)
    · exact FrF.own hn c z M g h3 hk
end Go.Proofs.YtbakhdgiimjnkaaGreatDoor.Abs
