/-
  The evaluator and what is proved of it (several texts in one).
-/
import Derived.Test.YtihplijjkcdcjaaGreatDoorAbsA
import Derived.Laws.Sem
import Derived.Laws.Cells
import Derived.Laws.Entries
import Derived.Lib.Strings
import Derived.Laws.StructEq
import Derived.Laws.BytesString
set_option linter.unusedVariables false
set_option linter.unusedSimpArgs false
/-
  The evaluator's whole numbers are the model's.
-/
namespace Go.Proofs.YtihplijjkcdcjaaGreatDoor.Abs

theorem kEq_eq {a b : IntKind} (h : kEq a b = true) : a = b := by cases a <;> cases b <;> first | rfl | cases h
theorem kEq_self (a : IntKind) : kEq a a = true := by cases a <;> rfl
theorem kMod_eq (k : IntKind) : kMod k = 2 ^ k.bits := by cases k <;> rfl
theorem kLim_le (k : IntKind) : kLim k ≤ kMod k := by cases k <;> decide
/-- how many bits a number has that is none below zero -/
def kB (k : IntKind) : Nat := if k.signed then k.bits - 1 else k.bits
theorem kLim_eq (k : IntKind) : kLim k = 2 ^ kB k := by cases k <;> rfl
theorem wrap_small (k : IntKind) (n : Nat) (h : n < kLim k) : k.wrap (Int.ofNat n) = Int.ofNat n := by
  cases k <;> simp [IntKind.wrap, IntKind.bits, IntKind.signed, kLim] at h ⊢ <;> omega
theorem wrapN_eq (k : IntKind) (n : Nat) : wrapN k n = k.wrap (Int.ofNat n) := by
  unfold wrapN
  rw [ifb_eq]
  split
  · rename_i h; exact (wrap_small k n (by simpa using h)).symm
  · rfl

theorem iAdd_eq (k : IntKind) (a b : Int) : iAdd k a b = k.wrap (a + b) := by
  cases a with
  | negSucc m => rfl
  | ofNat m =>
    cases b with
    | ofNat n => exact wrapN_eq k (m + n)
    | negSucc n =>
      have h : iAdd k (Int.ofNat m) (Int.negSucc n) = ifb (Nat.blt n m) (wrapN k (Nat.sub m (Nat.succ n))) (k.wrap (Int.ofNat m + Int.negSucc n)) := rfl
      rw [h, ifb_eq]
      split
      · rename_i hl
        have hl' : n < m := by simpa using hl
        rw [wrapN_eq]
        congr 1
        show ((m - (n + 1) : Nat) : Int) = (m : Int) + Int.negSucc n
        omega
      · rfl
theorem iSub_eq (k : IntKind) (a b : Int) : iSub k a b = k.wrap (a - b) := by
  cases a with
  | negSucc m => rfl
  | ofNat m =>
    cases b with
    | negSucc n => rfl
    | ofNat n =>
      have h : iSub k (Int.ofNat m) (Int.ofNat n) = ifb (Nat.ble n m) (wrapN k (Nat.sub m n)) (k.wrap (Int.ofNat m - Int.ofNat n)) := rfl
      rw [h, ifb_eq]
      split
      · rename_i hl
        have hl' : n ≤ m := by simpa using hl
        rw [wrapN_eq]
        congr 1
        show ((m - n : Nat) : Int) = (m : Int) - (n : Int)
        omega
      · rfl
theorem iMul_eq (k : IntKind) (a b : Int) : iMul k a b = k.wrap (a * b) := by
  cases a with
  | negSucc m => rfl
  | ofNat m =>
    cases b with
    | negSucc n => rfl
    | ofNat n => exact wrapN_eq k (m * n)
theorem iQuo_eq (k : IntKind) (a b : Int) : iQuo k a b = k.wrap (a.tdiv b) := by
  cases a with
  | negSucc m => rfl
  | ofNat m =>
    cases b with
    | negSucc n => rfl
    | ofNat n => exact wrapN_eq k (m / n)
theorem iRem_eq (a b : Int) : iRem a b = a.tmod b := by
  cases a with
  | negSucc m => rfl
  | ofNat m =>
    cases b with
    | negSucc n => rfl
    | ofNat n => rfl
theorem iBeq_eq (a b : Int) : iBeq a b = (a == b) := by
  rw [Bool.eq_iff_iff, beq_iff_eq]
  cases a <;> cases b
  · show Nat.beq _ _ = true ↔ _
    rw [Nat.beq_eq]; simp; omega
  · show false = true ↔ _
    simp
  · show false = true ↔ _
    simp
  · show Nat.beq _ _ = true ↔ _
    rw [Nat.beq_eq]; simp
theorem iBlt_eq (a b : Int) : iBlt a b = decide (a < b) := by
  rw [Bool.eq_iff_iff, decide_eq_true_iff]
  cases a <;> cases b
  · show Nat.blt _ _ = true ↔ _
    rw [Nat.blt_eq]; simp
  · show false = true ↔ _
    simp; omega
  · show true = true ↔ _
    simp; omega
  · show Nat.blt _ _ = true ↔ _
    rw [Nat.blt_eq]; omega
theorem iBle_eq (a b : Int) : iBle a b = decide (a ≤ b) := by
  rw [Bool.eq_iff_iff, decide_eq_true_iff]
  cases a <;> cases b
  · show Nat.ble _ _ = true ↔ _
    rw [Nat.ble_eq]; simp
  · show false = true ↔ _
    simp; omega
  · show true = true ↔ _
    simp; omega
  · show Nat.ble _ _ = true ↔ _
    rw [Nat.ble_eq]; omega
theorem ofInt_ofNat (w m : Nat) : BitVec.ofInt w (Int.ofNat m) = BitVec.ofNat w m := by
  apply BitVec.eq_of_toNat_eq
  simp
theorem iBit2_eq (op : BinOp) (f : Nat → Nat → Nat) (k : IntKind) (a b : Int)
    (h : ∀ m n, m < kLim k → n < kLim k → Int.ofNat (f m n) = iBits op k (Int.ofNat m) (Int.ofNat n)) : iBit2 op f k a b = iBits op k a b := by
  cases a with
  | negSucc m => rfl
  | ofNat m =>
    cases b with
    | negSucc n => rfl
    | ofNat n =>
      have e : iBit2 op f k (Int.ofNat m) (Int.ofNat n) = ifb (Nat.blt m (kLim k)) (ifb (Nat.blt n (kLim k)) (.ofNat (f m n)) (iBits op k (Int.ofNat m) (Int.ofNat n))) (iBits op k (Int.ofNat m) (Int.ofNat n)) := rfl
      rw [e, ifb_eq, ifb_eq]
      split
      · split
        · rename_i h1 h2; exact h m n (by simpa using h1) (by simpa using h2)
        · rfl
      · rfl
theorem lt_mod {k : IntKind} {m : Nat} (h : m < kLim k) : m % 2 ^ k.bits = m := by
  have h2 := kLim_le k
  rw [kMod_eq] at h2
  exact Nat.mod_eq_of_lt (by omega)
theorem iAnd_eq (k : IntKind) (a b : Int) : iBit2 .and Nat.land k a b = k.wrap (BitVec.ofInt k.bits a &&& BitVec.ofInt k.bits b).toNat := by
  refine iBit2_eq .and Nat.land k a b fun m n hm hn => ?_
  show Int.ofNat (m &&& n) = k.wrap (BitVec.ofInt k.bits (Int.ofNat m) &&& BitVec.ofInt k.bits (Int.ofNat n)).toNat
  rw [ofInt_ofNat, ofInt_ofNat, BitVec.toNat_and, BitVec.toNat_ofNat, BitVec.toNat_ofNat, lt_mod hm, lt_mod hn]
  exact (wrap_small k _ (by rw [kLim_eq] at *; exact Nat.and_lt_two_pow _ hn)).symm
theorem iOr_eq (k : IntKind) (a b : Int) : iBit2 .or Nat.lor k a b = k.wrap (BitVec.ofInt k.bits a ||| BitVec.ofInt k.bits b).toNat := by
  refine iBit2_eq .or Nat.lor k a b fun m n hm hn => ?_
  show Int.ofNat (m ||| n) = k.wrap (BitVec.ofInt k.bits (Int.ofNat m) ||| BitVec.ofInt k.bits (Int.ofNat n)).toNat
  rw [ofInt_ofNat, ofInt_ofNat, BitVec.toNat_or, BitVec.toNat_ofNat, BitVec.toNat_ofNat, lt_mod hm, lt_mod hn]
  exact (wrap_small k _ (by rw [kLim_eq] at *; exact Nat.or_lt_two_pow hm hn)).symm
theorem iXor_eq (k : IntKind) (a b : Int) : iBit2 .xor Nat.xor k a b = k.wrap (BitVec.ofInt k.bits a ^^^ BitVec.ofInt k.bits b).toNat := by
  refine iBit2_eq .xor Nat.xor k a b fun m n hm hn => ?_
  show Int.ofNat (m ^^^ n) = k.wrap (BitVec.ofInt k.bits (Int.ofNat m) ^^^ BitVec.ofInt k.bits (Int.ofNat n)).toNat
  rw [ofInt_ofNat, ofInt_ofNat, BitVec.toNat_xor, BitVec.toNat_ofNat, BitVec.toNat_ofNat, lt_mod hm, lt_mod hn]
  exact (wrap_small k _ (by rw [kLim_eq] at *; exact Nat.xor_lt_two_pow hm hn)).symm
theorem intR_eq (k : IntKind) (n : Int) : intR k n = .ok (.int k n) := by unfold intR; rw [intK_eq]

theorem pow_min (k : IntKind) (n : Nat) (hs : k.signed = false) (m : Nat) : k.wrap (Int.ofNat m * 2 ^ (min n k.bits)) = Int.ofNat ((m <<< n) % kMod k) := by
  have e : k.wrap (Int.ofNat m * 2 ^ (min n k.bits)) = (Int.ofNat m * 2 ^ (min n k.bits)) % (2 ^ k.bits : Int) := by simp [IntKind.wrap, hs]
  rw [e, kMod_eq, Nat.shiftLeft_eq]
  have e2 : (Int.ofNat m * 2 ^ (min n k.bits) : Int) % (2 ^ k.bits : Int) = Int.ofNat ((m * 2 ^ (min n k.bits)) % 2 ^ k.bits) := by
    push_cast
    simp
  rw [e2]
  congr 1
  rcases Nat.le_total n k.bits with hl | hl
  · rw [Nat.min_eq_left hl]
  · rw [Nat.min_eq_right hl]
    have : 2 ^ n = 2 ^ k.bits * 2 ^ (n - k.bits) := by rw [← Nat.pow_add]; congr 1; omega
    rw [this, Nat.mul_mod_left, ← Nat.mul_assoc, Nat.mul_right_comm, Nat.mul_mod_left]
theorem iShl_eq (k : IntKind) (a : Int) (n : Nat) : iShl k a n = k.wrap (a * 2 ^ (min n k.bits)) := by
  cases a with
  | negSucc m => rfl
  | ofNat m =>
    have e : iShl k (Int.ofNat m) n = ifb (Nat.ble n 64) (ifb (kSg k) (k.wrap (Int.ofNat m * 2 ^ (min n k.bits))) (.ofNat (Nat.mod (Nat.shiftLeft m n) (kMod k)))) (k.wrap (Int.ofNat m * 2 ^ (min n k.bits))) := rfl
    rw [e, ifb_eq, ifb_eq]
    split
    · split
      · rfl
      · rename_i h1 h2
        exact (pow_min k n (by cases k <;> first | rfl | exact absurd rfl h2) m).symm
    · rfl
theorem iShr_eq (k : IntKind) (a : Int) (n : Nat) : iShr k a n = a.fdiv (2 ^ (min n k.bits)) := by
  cases a with
  | negSucc m => rfl
  | ofNat m =>
    have e : iShr k (Int.ofNat m) n = ifb (Nat.blt m (kMod k)) (.ofNat (Nat.shiftRight m n)) ((Int.ofNat m).fdiv (2 ^ (min n k.bits))) := rfl
    rw [e, ifb_eq]
    split
    · rename_i h1
      have h1' : m < 2 ^ k.bits := by rw [← kMod_eq]; simpa using h1
      have e2 : (Int.ofNat m).fdiv (2 ^ (min n k.bits)) = Int.ofNat (m / 2 ^ (min n k.bits)) := by
        rw [Int.fdiv_eq_ediv_of_nonneg _ (by exact_mod_cast Nat.zero_le _)]
        push_cast
        simp
      rw [e2]
      congr 1
      show m >>> n = _
      rw [Nat.shiftRight_eq_div_pow]
      rcases Nat.le_total n k.bits with hl | hl
      · rw [Nat.min_eq_left hl]
      · rw [Nat.min_eq_right hl, Nat.div_eq_of_lt h1', Nat.div_eq_of_lt (Nat.lt_of_lt_of_le h1' (Nat.pow_le_pow_right (by omega) hl))]
    · rfl
end Go.Proofs.YtihplijjkcdcjaaGreatDoor.Abs

/-
  How the evaluator's values and memory stand to the model's: blocks have names of their own.
-/
namespace Go.Proofs.YtihplijjkcdcjaaGreatDoor.Abs

/-- where a block lies; of a block with room behind: cells of an element, elements there are room for -/
structure Loc where
  blk : Nat
  base : Nat
  s : Nat
  cap : Nat
abbrev Phi := Nat → Option Loc

def Phi.le (φ ψ : Phi) : Prop := ∀ b L, φ b = some L → ψ b = some L
theorem Phi.le_refl (φ : Phi) : φ.le φ := fun _ _ h => h
theorem Phi.le_trans {φ ψ χ : Phi} (h : φ.le ψ) (k : ψ.le χ) : φ.le χ := fun b L e => k b L (h b L e)

/-- functions' names -/
inductive FRel (φ : Phi) : Fn → Fn → Prop where
  | func (f : FuncId) : FRel φ (.func f) (.func f)
  | yield {l : Nat} {L : Loc} (h : φ l = some L) : FRel φ (.yield l) (.yield L.blk)
  | method (n : String) : FRel φ (.method n) (.method n)
  | methodOf (t : TypeId) (n : String) : FRel φ (.methodOf t n) (.methodOf t n)
  | via (t : TypeId) (p : Array FieldStep) (f : FuncId) (b : Bool) : FRel φ (.via t p f b) (.via t p f b)

inductive VRel (φ : Phi) : Value → Value → Prop where
  | bool (b : Bool) : VRel φ (.bool b) (.bool b)
  | int (k : IntKind) (n : Int) : VRel φ (.int k n) (.int k n)
  | float (k : FloatKind) (n : Nat) : VRel φ (.float k n) (.float k n)
  | complex (k : FloatKind) (a b : Nat) : VRel φ (.complex k a b) (.complex k a b)
  | string (s : ByteArray) : VRel φ (.string s) (.string s)
  | nilPtr : VRel φ (.pointer none) (.pointer none)
  | ptr {b : Nat} {L : Loc} (o : Nat) (h : φ b = some L) : VRel φ (.pointer (some ⟨b, o, none⟩)) (.pointer (some ⟨L.blk, L.base + o, none⟩))
  | nilSlice : VRel φ (.slice none 0 0) (.slice none 0 0)
  | slice {b n c : Nat} {L : Loc} (o : Nat) (h : φ b = some L) (hc : c < open_) (hn : n ≤ c) : VRel φ (.slice (some ⟨b, o, none⟩) n c) (.slice (some ⟨L.blk, L.base + o, none⟩) n c)
  | room {b n c j : Nat} {L : Loc} (h : φ b = some L) (hs : 0 < L.s) (hc : j + c = L.cap) (hn : n ≤ c) : VRel φ (.slice (some ⟨b, j * L.s, none⟩) n open_) (.slice (some ⟨L.blk, L.base + j * L.s, none⟩) n c)
  | full {b o : Nat} {L : Loc} (a : Addr) (h : φ b = some L) (ho : o = L.cap * L.s) : VRel φ (.slice (some ⟨b, o, none⟩) 0 open_) (.slice (some a) 0 0)
  | nilMap : VRel φ (.map none) (.map none)
  | map {r : Nat} {L : Loc} (h : φ r = some L) : VRel φ (.map (some r)) (.map (some L.blk))
  | nilFunc : VRel φ .nilFunc .nilFunc
  | nilIface : VRel φ .nilIface .nilIface
  | iface (t : TypeId) {v v' : Value} (h : VRel φ v v') : VRel φ (.iface t v) (.iface t v')
  | func {f f' : Fn} {xs ys zs us : Array Value} (hf : FRel φ f f') (h1 : xs.size = ys.size) (h2 : zs.size = us.size)
      (h3 : ∀ (i : Nat) (v v' : Value), xs[i]? = some v → ys[i]? = some v' → VRel φ v v') (h4 : ∀ (i : Nat) (v v' : Value), zs[i]? = some v → us[i]? = some v' → VRel φ v v') : VRel φ (.func f xs zs) (.func f' ys us)
  | agg {xs ys : Array Value} (h1 : xs.size = ys.size) (h3 : ∀ (i : Nat) (v v' : Value), xs[i]? = some v → ys[i]? = some v' → VRel φ v v') : VRel φ (.agg xs) (.agg ys)
  | tuple {xs ys : Array Value} (h1 : xs.size = ys.size) (h3 : ∀ (i : Nat) (v v' : Value), xs[i]? = some v → ys[i]? = some v' → VRel φ v v') : VRel φ (.tuple xs) (.tuple ys)

theorem FRel.mono {φ ψ : Phi} (h : φ.le ψ) {f g : Fn} (k : FRel φ f g) : FRel ψ f g := by
  cases k with
  | func f => exact .func f
  | yield e => exact .yield (h _ _ e)
  | method n => exact .method n
  | methodOf t n => exact .methodOf t n
  | via t p f b => exact .via t p f b
theorem VRel.mono {φ ψ : Phi} (h : φ.le ψ) {v u : Value} (k : VRel φ v u) : VRel ψ v u := by
  induction k with
  | bool b => exact .bool b
  | int k n => exact .int k n
  | float k n => exact .float k n
  | complex k a b => exact .complex k a b
  | string s => exact .string s
  | nilPtr => exact .nilPtr
  | ptr o e => exact .ptr o (h _ _ e)
  | nilSlice => exact .nilSlice
  | slice o e hc hn => exact .slice o (h _ _ e) hc hn
  | room e hs hc hn => exact .room (h _ _ e) hs hc hn
  | full a e ho => exact .full a (h _ _ e) ho
  | nilMap => exact .nilMap
  | map e => exact .map (h _ _ e)
  | nilFunc => exact .nilFunc
  | nilIface => exact .nilIface
  | iface t _ ih => exact .iface t ih
  | func hf h1 h2 _ _ i3 i4 => exact .func (hf.mono h) h1 h2 i3 i4
  | agg h1 _ ih => exact .agg h1 ih
  | tuple h1 _ ih => exact .tuple h1 ih

/-- lists of values -/
def LRel (φ : Phi) (xs ys : List Value) : Prop := xs.length = ys.length ∧ ∀ (i : Nat) (v v' : Value), xs[i]? = some v → ys[i]? = some v' → VRel φ v v'
theorem LRel.mono {φ ψ : Phi} (h : φ.le ψ) {xs ys : List Value} (k : LRel φ xs ys) : LRel ψ xs ys := ⟨k.1, fun i v v' a b => (k.2 i v v' a b).mono h⟩
theorem LRel.nil (φ : Phi) : LRel φ [] [] := ⟨rfl, fun i v v' a => by simp at a⟩
theorem LRel.cons {φ : Phi} {v v' : Value} {xs ys : List Value} (h : VRel φ v v') (k : LRel φ xs ys) : LRel φ (v :: xs) (v' :: ys) :=
  ⟨by simp [k.1], fun i u u' a b => by
    cases i with
    | zero =>
      obtain rfl : v = u := by simpa using a
      obtain rfl : v' = u' := by simpa using b
      exact h
    | succ i => exact k.2 i u u' (by simpa using a) (by simpa using b)⟩
theorem LRel.append {φ : Phi} {xs ys zs us : List Value} (h : LRel φ xs ys) (k : LRel φ zs us) : LRel φ (xs ++ zs) (ys ++ us) :=
  ⟨by simp [h.1, k.1], fun i v v' a b => by
    by_cases hi : i < xs.length
    · rw [List.getElem?_append_left hi] at a
      rw [List.getElem?_append_left (h.1 ▸ hi)] at b
      exact h.2 i v v' a b
    · rw [List.getElem?_append_right (by omega)] at a
      rw [List.getElem?_append_right (by have := h.1; omega)] at b
      rw [← h.1] at b
      exact k.2 _ v v' a b⟩
theorem LRel.get {φ : Phi} {xs ys : List Value} (h : LRel φ xs ys) {i : Nat} {v : Value} (e : xs[i]? = some v) : ∃ v', ys[i]? = some v' ∧ VRel φ v v' := by
  have hi : i < xs.length := by
    rcases Nat.lt_or_ge i xs.length with h | h
    · exact h
    · rw [List.getElem?_eq_none h] at e; cases e
  have e' : ys[i]? = some (ys[i]'(h.1 ▸ hi)) := List.getElem?_eq_getElem _
  exact ⟨_, e', h.2 i v _ e e'⟩
theorem LRel.take {φ : Phi} {xs ys : List Value} (h : LRel φ xs ys) (n : Nat) : LRel φ (xs.take n) (ys.take n) :=
  ⟨by simp [h.1], fun i v v' a b => by
    rw [List.getElem?_take] at a b
    by_cases hi : i < n
    · rw [if_pos hi] at a b
      exact h.2 i v v' a b
    · rw [if_neg hi] at a
      cases a⟩
theorem LRel.drop {φ : Phi} {xs ys : List Value} (h : LRel φ xs ys) (n : Nat) : LRel φ (xs.drop n) (ys.drop n) :=
  ⟨by simp [h.1], fun i v v' a b => by
    rw [List.getElem?_drop] at a b
    exact h.2 _ v v' a b⟩
/-- two arrays stand so if their lists do -/
theorem LRel.arr {φ : Phi} {xs ys : Array Value} (h : LRel φ xs.toList ys.toList) : xs.size = ys.size ∧ ∀ (i : Nat) (v v' : Value), xs[i]? = some v → ys[i]? = some v' → VRel φ v v' :=
  ⟨by simpa using h.1, fun i v v' a b => h.2 i v v' (by simpa using a) (by simpa using b)⟩
theorem LRel.of_arr {φ : Phi} {xs ys : Array Value} (h1 : xs.size = ys.size) (h2 : ∀ (i : Nat) (v v' : Value), xs[i]? = some v → ys[i]? = some v' → VRel φ v v') : LRel φ xs.toList ys.toList :=
  ⟨by simpa using h1, fun i v v' a b => h2 i v v' (by simpa using a) (by simpa using b)⟩

/-- values that hold no address stand to themselves -/
inductive Flat : Value → Prop where
  | bool (b : Bool) : Flat (.bool b)
  | int (k : IntKind) (n : Int) : Flat (.int k n)
  | float (k : FloatKind) (n : Nat) : Flat (.float k n)
  | complex (k : FloatKind) (a b : Nat) : Flat (.complex k a b)
  | string (s : ByteArray) : Flat (.string s)
  | nilPtr : Flat (.pointer none)
  | nilSlice : Flat (.slice none 0 0)
  | nilMap : Flat (.map none)
  | nilFunc : Flat .nilFunc
  | nilIface : Flat .nilIface
  | agg {xs : Array Value} (h : ∀ (i : Nat) (v : Value), xs[i]? = some v → Flat v) : Flat (.agg xs)
  | tuple {xs : Array Value} (h : ∀ (i : Nat) (v : Value), xs[i]? = some v → Flat v) : Flat (.tuple xs)
theorem Flat.rel (φ : Phi) {v : Value} (h : Flat v) : VRel φ v v := by
  induction h with
  | bool b => exact .bool b
  | int k n => exact .int k n
  | float k n => exact .float k n
  | complex k a b => exact .complex k a b
  | string s => exact .string s
  | nilPtr => exact .nilPtr
  | nilSlice => exact .nilSlice
  | nilMap => exact .nilMap
  | nilFunc => exact .nilFunc
  | nilIface => exact .nilIface
  | agg _ ih => exact .agg rfl fun i v v' a b => by rw [a] at b; cases b; exact ih i v a
  | tuple _ ih => exact .tuple rfl fun i v v' a b => by rw [a] at b; cases b; exact ih i v a
theorem constOk_flat {v : Value} (h : constOk v = true) : Flat v := by
  unfold constOk at h
  split at h <;> first | cases h | skip
  · exact .bool _
  · exact .int _ _
  · exact .float _ _
  · exact .complex _ _ _
  · exact .string _
  · exact .nilPtr
  · exact .nilSlice
  · exact .nilMap
  · exact .nilFunc
  · exact .nilIface

/-- the block of cells, as it lies -/
def CellsAt (φ : Phi) (L : Loc) (l : List Value) (c : Array Value) : Prop := ∀ (i : Nat) (v : Value), l[i]? = some v → ∃ v', c[L.base + i]? = some v' ∧ VRel φ v v'
/-- where a block may be frozen -/
def FrozenAt (L : Loc) (n : Nat) (fz fr : Nat × Nat) : Prop :=
  (∀ i, i < n → fr.1 ≤ L.base + i → L.base + i < fr.2 → fz.1 ≤ i ∧ i < fz.2) ∧ (fz.1 < open_ → fr.1 < fr.2 → L.base + fz.1 ≤ fr.1 ∧ fr.2 ≤ L.base + fz.2) ∧ fr.1 ≤ fr.2 ∧ (fz.1 = open_ → fr.1 = fr.2 ∨ L.base + n ≤ fr.1)

def TRel (φ : Phi) (ts : Tr Value) (n : Nat) (tmps : Array Value) : Prop := tmps.size = n ∧ ∀ (t : Nat) (v : Value), ts.get t = some v → ∃ v', tmps[t]? = some v' ∧ VRel φ v v'
theorem TRel.mono {φ ψ : Phi} (h : φ.le ψ) {ts : Tr Value} {n : Nat} {tmps : Array Value} (k : TRel φ ts n tmps) : TRel ψ ts n tmps :=
  ⟨k.1, fun t v e => let ⟨v', a, b⟩ := k.2 t v e; ⟨v', a, b.mono h⟩⟩

def ERel (φ : Phi) (e f : MapEntry) : Prop := VRel φ e.key f.key ∧ VRel φ e.val f.val ∧ e.born = f.born

/-- a block of the evaluator's and the model's block -/
inductive ORel (φ : Phi) (L : Loc) : AObj → Obj → Prop where
  | closed {l : List Value} {e : TypeId} {s : Nat} {fz fr : Nat × Nat} {c : Array Value} (hb : L.base = 0) (hn : c.size = l.length) (hc : CellsAt φ L l c) (hf : FrozenAt L l.length fz fr) : ORel φ L (.cells l e s false fz) (.cells c e fr)
  | room {l : List Value} {e : TypeId} {fz fr : Nat × Nat} {c : Array Value} (hs : 0 < L.s) (hn : L.base + L.cap * L.s ≤ c.size) (hl : l.length ≤ L.cap * L.s) (hc : CellsAt φ L l c)
      (hf : FrozenAt L (L.cap * L.s) fz fr) (ho : ∀ i, i < L.cap * L.s → ∃ v, c[L.base + i]? = some v) : ORel φ L (.cells l e L.s true fz) (.cells c e fr)
  | const {l : List Value} {e e' : TypeId} {fr : Nat × Nat} {c : Array Value} (hc : CellsAt φ L l c) : ORel φ L (.const l e) (.cells c e' fr)
  | map {es : List MapEntry} {fs : Array MapEntry} {clock : Nat} (h1 : es.length = fs.size) (h2 : ∀ (i : Nat) (e f : MapEntry), es[i]? = some e → fs[i]? = some f → ERel φ e f) : ORel φ L (.map es clock) (.map fs clock)
  | str (hb : L.base = 0) (s : ByteArray) (pos : Nat) : ORel φ L (.str s pos) (.stringIter s pos)
  | nilIter (hb : L.base = 0) (a : Nat) (l : List Nat) (b : Nat) : ORel φ L (.iter none a l b) (.mapIter none a ⟨l⟩ b)
  | iter {m : Nat} {M : Loc} (hb : L.base = 0) (h : φ m = some M) (a : Nat) (l : List Nat) (b : Nat) : ORel φ L (.iter (some m) a l b) (.mapIter (some M.blk) a ⟨l⟩ b)
  | loop {d n : Nat} {D : Loc} {ts : Tr Value} {tmps : Array Value} (st : LoopState) (pend : Option Code) (fn : FuncId) (ps : Array Tmp) (as bd : Code) (h : φ d = some D) (ht : TRel φ ts n tmps) :
      ORel φ L (.loop st pend fn ts n ps.toList as bd d) (.loop ⟨st, pend, fn, tmps, ps, as, bd, D.blk⟩)
  | dfsOpen : ORel φ L (.dfs true) (.deferred (some []))
  | dfsDone : ORel φ L (.dfs false) (.deferred none)

theorem CellsAt.mono {φ ψ : Phi} (h : φ.le ψ) {L : Loc} {l : List Value} {c : Array Value} (k : CellsAt φ L l c) : CellsAt ψ L l c :=
  fun i v e => let ⟨v', a, b⟩ := k i v e; ⟨v', a, b.mono h⟩
theorem ORel.mono {φ ψ : Phi} (h : φ.le ψ) {L : Loc} {o : AObj} {x : Obj} (k : ORel φ L o x) : ORel ψ L o x := by
  cases k with
  | closed hb hn hc hf => exact .closed hb hn (hc.mono h) hf
  | room hs hn hl hc hf ho => exact .room hs hn hl (hc.mono h) hf ho
  | const hc => exact .const (hc.mono h)
  | map h1 h2 => exact .map h1 fun i e f a b => let ⟨x, y, z⟩ := h2 i e f a b; ⟨x.mono h, y.mono h, z⟩
  | str hb s pos => exact .str hb s pos
  | nilIter hb a l b => exact .nilIter hb a l b
  | iter hb e a l b => exact .iter hb (h _ _ e) a l b
  | loop st pend fn ps as bd e ht => exact .loop st pend fn ps as bd (h _ _ e) (ht.mono h)
  | dfsOpen => exact .dfsOpen
  | dfsDone => exact .dfsDone

def AObj.isConst : AObj → Bool
  | .const _ _ => true
  | _ => false

/-- the evaluator's memory and the model's -/
structure HF (φ : Phi) (f : Nat → Option AObj) (w : World) : Prop where
  inj : ∀ b c x y L M, f b = some x → f c = some y → φ b = some L → φ c = some M → L.blk = M.blk → x.isConst = false ∨ y.isConst = false → b = c
  obj : ∀ b x, f b = some x → ∃ L, φ b = some L ∧ ∃ o, w.heap[L.blk]? = some o ∧ ORel φ L x o
abbrev HRel (φ : Phi) (h : Tr AObj) (w : World) : Prop := HF φ h.get w

structure SF (φ : Phi) (f : Nat → Option AObj) (n : Nat) (w : World) : Prop where
  mem : HF φ f w
  fresh : ∀ b, n ≤ b → φ b = none
  globals : ∀ g, g < 4096 → φ g = some ⟨g, 0, 0, 0⟩
abbrev SRel (φ : Phi) (st : St) (w : World) : Prop := SF φ st.heap.get st.next w

/-- of what was there, only blocks that have names (and are no constants) have turned -/
structure FrF (φ : Phi) (f : Nat → Option AObj) (w : World) (ψ : Phi) (f' : Nat → Option AObj) (w' : World) : Prop where
  size : w.heap.size ≤ w'.heap.size
  os : w'.os = w.os
  tape : w'.tape = w.tape
  output : w'.output = w.output
  rest : ∀ k, k < w.heap.size → (∀ b x L, f b = some x → x.isConst = false → φ b = some L → L.blk ≠ k) →
    w'.heap[k]? = w.heap[k]? ∧ ∀ b x L, f' b = some x → ψ b = some L → L.blk = k → x.isConst = true ∧ f b = some x ∧ φ b = some L
theorem FrF.own {φ : Phi} {f : Nat → Option AObj} {k : Nat} (h : ∀ b x L, f b = some x → x.isConst = false → φ b = some L → L.blk ≠ k) : ∀ b x L, f b = some x → φ b = some L → L.blk = k → x.isConst = true ∧ f b = some x ∧ φ b = some L :=
  fun b x L h1 h2 h3 => ⟨by cases hx : x.isConst with | true => rfl | false => exact absurd h3 (h b x L h1 hx h2), h1, h2⟩
theorem FrF.not {φ : Phi} {f : Nat → Option AObj} {k : Nat} {ψ : Phi} {f' : Nat → Option AObj} (h : ∀ b x L, f' b = some x → ψ b = some L → L.blk = k → x.isConst = true ∧ f b = some x ∧ φ b = some L) : ∀ b x L, f' b = some x → x.isConst = false → ψ b = some L → L.blk ≠ k :=
  fun b x L h1 h2 h3 h4 => by have := (h b x L h1 h3 h4).1; rw [h2] at this; cases this
theorem FrF.refl (φ : Phi) (f : Nat → Option AObj) (w : World) : FrF φ f w φ f w := ⟨Nat.le_refl _, rfl, rfl, rfl, fun _ _ n => ⟨rfl, FrF.own n⟩⟩
theorem FrF.trans {φ ψ χ : Phi} {h h' h'' : Nat → Option AObj} {w w' w'' : World} (a : FrF φ h w ψ h' w') (b : FrF ψ h' w' χ h'' w'') : FrF φ h w χ h'' w'' :=
  ⟨Nat.le_trans a.size b.size, b.os.trans a.os, b.tape.trans a.tape, b.output.trans a.output, fun k hk hn => by
    obtain ⟨e1, n1⟩ := a.rest k hk hn
    obtain ⟨e2, n2⟩ := b.rest k (Nat.lt_of_lt_of_le hk a.size) (FrF.not n1)
    refine ⟨e2.trans e1, fun c x L h1 h2 h3 => ?_⟩
    obtain ⟨_, h4, h5⟩ := n2 c x L h1 h2 h3
    exact n1 c x L h4 h5 h3⟩

/-- what a step leaves -/
structure PF (φ : Phi) (f : Nat → Option AObj) (n : Nat) (w : World) (ψ : Phi) (f' : Nat → Option AObj) (n' : Nat) (w' : World) : Prop where
  rel : SF ψ f' n' w'
  le : φ.le ψ
  fr : FrF φ f w ψ f' w'
  next : n ≤ n'
  names : ∀ b, b < n → ψ b = φ b
abbrev Post (φ : Phi) (st : St) (w : World) (ψ : Phi) (st' : St) (w' : World) : Prop := PF φ st.heap.get st.next w ψ st'.heap.get st'.next w'
theorem PF.refl {φ : Phi} {f : Nat → Option AObj} {n : Nat} {w : World} (h : SF φ f n w) : PF φ f n w φ f n w := ⟨h, φ.le_refl, .refl _ _ _, Nat.le_refl _, fun _ _ => rfl⟩
theorem PF.trans {φ ψ χ : Phi} {f f' f'' : Nat → Option AObj} {n n' n'' : Nat} {w w' w'' : World} (a : PF φ f n w ψ f' n' w') (b : PF ψ f' n' w' χ f'' n'' w'') : PF φ f n w χ f'' n'' w'' :=
  ⟨b.rel, Phi.le_trans a.le b.le, a.fr.trans b.fr, Nat.le_trans a.next b.next, fun c h => (b.names c (Nat.lt_of_lt_of_le h a.next)).trans (a.names c h)⟩
theorem Post.refl {φ : Phi} {st : St} {w : World} (h : SRel φ st w) : Post φ st w φ st w := PF.refl h
theorem Post.trans {φ ψ χ : Phi} {st st' st'' : St} {w w' w'' : World} (a : Post φ st w ψ st' w') (b : Post ψ st' w' χ st'' w'') : Post φ st w χ st'' w'' := PF.trans a b

theorem HF.drew {φ : Phi} {h : Nat → Option AObj} {w : World} (k : HF φ h w) : HF φ h { w with drawn := w.drawn + 1 } := ⟨k.inj, k.obj⟩
theorem SF.drew {φ : Phi} {f : Nat → Option AObj} {n : Nat} {w : World} (k : SF φ f n w) : SF φ f n { w with drawn := w.drawn + 1 } := ⟨k.mem.drew, k.fresh, k.globals⟩
theorem Post.drew {φ : Phi} {st : St} {w : World} (k : SRel φ st w) : Post φ st w φ st { w with drawn := w.drawn + 1 } :=
  ⟨k.drew, φ.le_refl, ⟨Nat.le_refl _, rfl, rfl, rfl, fun _ _ n => ⟨rfl, FrF.own n⟩⟩, Nat.le_refl _, fun _ _ => rfl⟩

theorem SF.lt {φ : Phi} {f : Nat → Option AObj} {n : Nat} {w : World} (k : SF φ f n w) {b : Nat} {L : Loc} (h : φ b = some L) : b < n := by
  rcases Nat.lt_or_ge b n with x | x
  · exact x
  · rw [k.fresh b x] at h; cases h
theorem HF.lt {φ : Phi} {h : Nat → Option AObj} {w : World} (k : HF φ h w) {b : Nat} {x : AObj} {L : Loc} (e : h b = some x) (hL : φ b = some L) : L.blk < w.heap.size := by
  obtain ⟨M, h1, o, h2, _⟩ := k.obj b x e
  rw [hL] at h1
  obtain rfl := Option.some.inj h1
  exact (Array.getElem?_eq_some_iff.1 h2).1
theorem HF.objAt {φ : Phi} {h : Nat → Option AObj} {w : World} (k : HF φ h w) {b : Nat} {x : AObj} {L : Loc} (e : h b = some x) (hL : φ b = some L) : ∃ o, w.heap[L.blk]? = some o ∧ ORel φ L x o := by
  obtain ⟨M, h1, o, h2, h3⟩ := k.obj b x e
  rw [hL] at h1
  obtain rfl := Option.some.inj h1
  exact ⟨o, h2, h3⟩

/-- a name for a new block -/
def Phi.add (φ : Phi) (b : Nat) (L : Loc) : Phi := fun c => if c = b then some L else φ c
theorem Phi.add_same (φ : Phi) (b : Nat) (L : Loc) : φ.add b L b = some L := by simp [Phi.add]
theorem Phi.add_le {φ : Phi} {b : Nat} {L : Loc} (h : φ b = none) : φ.le (φ.add b L) := fun c M e => by
  unfold Phi.add
  split
  · rename_i x; subst x; rw [h] at e; cases e
  · exact e

/-- A NEW BLOCK. -/
theorem Post.new {φ : Phi} {st : St} {w : World} (k : SRel φ st w) (x : AObj) (o : Obj) (L : Loc) (hL : L.blk = w.heap.size) (hx : ∀ ψ : Phi, φ.le ψ → ORel ψ L x o) :
    Post φ st w (φ.add st.next L) ⟨st.heap.set st.next x, st.next + 1⟩ { w with heap := w.heap.push o } := by
  have hle : φ.le (φ.add st.next L) := Phi.add_le (k.fresh _ (Nat.le_refl _))
  have old : ∀ i, i < w.heap.size → (w.heap.push o)[i]? = w.heap[i]? := fun i hi => by rw [Array.getElem?_push, if_neg (by omega)]
  refine ⟨⟨⟨?_, ?_⟩, ?_, ?_⟩, hle, ⟨by simp, rfl, rfl, rfl, ?_⟩, Nat.le_succ _, fun b hb => by simp only [Phi.add]; rw [if_neg (Nat.ne_of_lt hb)]⟩
  · intro b c y z M N hb hc hM hN hMN hcon
    rcases Tr.get_set hb with ⟨rfl, _⟩ | ⟨n1, g1⟩ <;> rcases Tr.get_set hc with ⟨rfl, _⟩ | ⟨n2, g2⟩
    · rfl
    · rw [Phi.add_same] at hM
      obtain rfl := Option.some.inj hM
      simp only [Phi.add, if_neg n2] at hN
      have := k.mem.lt g2 hN
      omega
    · rw [Phi.add_same] at hN
      obtain rfl := Option.some.inj hN
      simp only [Phi.add, if_neg n1] at hM
      have := k.mem.lt g1 hM
      omega
    · simp only [Phi.add, if_neg n1] at hM
      simp only [Phi.add, if_neg n2] at hN
      exact k.mem.inj b c y z M N g1 g2 hM hN hMN hcon
  · intro b y hb
    rcases Tr.get_set hb with ⟨rfl, rfl⟩ | ⟨n1, g1⟩
    · exact ⟨L, Phi.add_same _ _ _, o, by rw [hL]; simp, hx _ hle⟩
    · obtain ⟨M, h1, o', h2, h3⟩ := k.mem.obj b y g1
      exact ⟨M, hle _ _ h1, o', by
        show (w.heap.push o)[M.blk]? = some o'
        rw [old _ (k.mem.lt g1 h1)]; exact h2, h3.mono hle⟩
  · intro b hb
    have hb' : st.next + 1 ≤ b := hb
    simp only [Phi.add]
    rw [if_neg (by omega)]
    exact k.fresh b (by omega)
  · intro g hg
    exact hle _ _ (k.globals g hg)
  · intro i hi hn
    refine ⟨old i hi, fun b y M hb hM hk => ?_⟩
    rcases Tr.get_set hb with ⟨rfl, _⟩ | ⟨n1, g1⟩
    · rw [Phi.add_same] at hM
      obtain rfl := Option.some.inj hM
      omega
    · simp only [Phi.add, if_neg n1] at hM
      exact FrF.own hn b y M g1 hM hk

/-- A BLOCK HAS TURNED. -/
theorem Post.turn {φ : Phi} {st : St} {w w' : World} (k : SRel φ st w) {b : Nat} {x y : AObj} {L : Loc} (hx : st.heap.get b = some x) (hc : x.isConst = false) (hL : φ b = some L)
    (hw : w'.heap.size = w.heap.size ∧ w'.os = w.os ∧ w'.tape = w.tape ∧ w'.output = w.output) (ho : ∀ i, i ≠ L.blk → w'.heap[i]? = w.heap[i]?) (hy : ∃ o, w'.heap[L.blk]? = some o ∧ ORel φ L y o) :
    Post φ st w φ ⟨st.heap.set b y, st.next⟩ w' := by
  have back : ∀ c z, (st.heap.set b y).get c = some z → ∃ u, st.heap.get c = some u ∧ (c ≠ b → u = z) ∧ (u.isConst = true → c ≠ b) := by
    intro c z h
    rcases Tr.get_set h with ⟨rfl, _⟩ | ⟨n, g⟩
    · exact ⟨x, hx, fun e => absurd rfl e, fun e => by rw [hc] at e; cases e⟩
    · exact ⟨z, g, fun _ => rfl, fun _ => n⟩
  refine ⟨⟨⟨?_, ?_⟩, k.fresh, k.globals⟩, φ.le_refl, ⟨by omega, hw.2.1, hw.2.2.1, hw.2.2.2, ?_⟩, Nat.le_refl _, fun _ _ => rfl⟩
  · intro c d u v M N h1 h2 h3 h4 h5 h6
    obtain ⟨u', g1, e1, n1⟩ := back c u h1
    obtain ⟨v', g2, e2, n2⟩ := back d v h2
    refine k.mem.inj c d _ _ M N g1 g2 h3 h4 h5 ?_
    rcases h6 with h6 | h6
    · refine .inl ?_
      cases hu : u'.isConst with
      | false => rfl
      | true => rw [e1 (n1 hu), h6] at hu; exact hu.symm
    · refine .inr ?_
      cases hv : v'.isConst with
      | false => rfl
      | true => rw [e2 (n2 hv), h6] at hv; exact hv.symm
  · intro c z h
    rcases Tr.get_set h with ⟨rfl, rfl⟩ | ⟨n, g⟩
    · exact ⟨L, hL, hy⟩
    · obtain ⟨M, h1, o, h2, h3⟩ := k.mem.obj c z g
      have hne : M.blk ≠ L.blk := fun e => n (k.mem.inj c b _ _ M L g hx h1 hL e (.inr hc))
      exact ⟨M, h1, o, by rw [ho _ hne]; exact h2, h3⟩
  · intro i hi hn
    refine ⟨ho i fun e => hn b x L hx hc hL e.symm, fun c z M h1 h3 hk => ?_⟩
    rcases Tr.get_set h1 with ⟨rfl, _⟩ | ⟨n, g⟩
    · rw [hL] at h3
      obtain rfl := Option.some.inj h3
      exact absurd hk (hn c x L hx hc hL)
    · exact FrF.own hn c z M g h3 hk
end Go.Proofs.YtihplijjkcdcjaaGreatDoor.Abs

/-
  Operations that change nothing: what the evaluator says is what the model does.
-/
namespace Go.Proofs.YtihplijjkcdcjaaGreatDoor.Abs

section types
variable {P : Program}
theorem undT_ok {t : TypeId} {u : TypeDesc} (h : undT P t = .ok u) : P.underlying t = some u := Rs.of_ok h
theorem undT_run {t : TypeId} {u : TypeDesc} (h : undT P t = .ok u) (w : World) : (underlying t).run P w = .ok u w := run_underlying (undT_ok h) w
theorem info_of {α : Type} {t : TypeId} {f : TypeInfo → α} {a : α} (h : (P.info? t).map f = some a) : ∃ i, P.info? t = some i ∧ f i = a := by
  cases e : P.info? t with
  | none => rw [e] at h; cases h
  | some i => rw [e] at h; exact ⟨i, rfl, Option.some.inj h⟩
theorem szT_run {t : TypeId} {n : Nat} (h : szT P t = .ok n) (w : World) : (sizeOf t).run P w = .ok n w := by
  obtain ⟨i, h1, h2⟩ := info_of (Rs.of_ok h)
  simp [sizeOf, typeInfo, h1, h2]
theorem szT_cells {t : TypeId} {n : Nat} (h : szT P t = .ok n) : P.cellsOf t = n := by
  obtain ⟨i, h1, h2⟩ := info_of (Rs.of_ok h)
  simp [Program.cellsOf, h1, h2]
theorem bytesT_run {t : TypeId} {n : Nat} (h : bytesT P t = .ok n) (w : World) : ∃ i, (typeInfo t).run P w = .ok i w ∧ i.bytes = n := by
  obtain ⟨i, h1, h2⟩ := info_of (Rs.of_ok h)
  exact ⟨i, by simp [typeInfo, h1], h2⟩
theorem zeroT_ok {t : TypeId} {z : Value} (h : zeroT P t = .ok z) : (∀ w, (zeroValue t).run P w = .ok z w) ∧ Flat z := by
  obtain ⟨z', h1, h2⟩ := Rs.bind_ok h
  obtain ⟨h3, h4⟩ := ifb_no h2
  cases h4
  have h1 := Rs.of_ok h1
  constructor
  · intro w
    cases e : P.info? t with
    | none => rw [e] at h1; cases h1
    | some i =>
      rw [e] at h1
      have : i.zero = some z := h1
      simp [zeroValue, typeInfo, e, this]
  · unfold flatB at h3
    split at h3
    · rw [List.all_eq_true] at h3
      exact .agg fun i v hv => constOk_flat (h3 v (Array.mem_toList_iff.2 (Array.mem_of_getElem? hv)))
    · exact constOk_flat h3
theorem aggT_run {t : TypeId} {b : Bool} (h : aggT P t = .ok b) (w : World) : (isAgg t).run P w = .ok b w := by
  obtain ⟨u, h1, h2⟩ := Rs.bind_ok h
  have := undT_run h1 w
  unfold isAgg
  rw [Sem.run_bind, this]
  simp only [Result.andThen_ok]
  split at h2 <;> cases h2
  · rfl
  · rfl
  · split
    · simp_all
    · simp_all
    · rfl
end types

section maps
variable {φ : Phi}
theorem mapR_ok {α : Type} {f : α → Rs Value} {g : α → Value} (hf : ∀ a v, f a = .ok v → VRel φ v (g a)) : ∀ {l : List α} {vs : List Value}, mapR f l = .ok vs → LRel φ vs (l.map g)
  | [], vs, h => by cases h; exact .nil φ
  | a :: l, vs, h => by
    obtain ⟨v, h1, h2⟩ := Rs.bind_ok h
    obtain ⟨us, h3, h4⟩ := Rs.bind_ok h2
    cases h4
    exact .cons (hf _ _ h1) (mapR_ok hf h3)
end maps

section
variable {P : Program} {φ : Phi} {h : Tr AObj} {w : World}

theorem run_v {s : Sem Value} {v : Value} {w w' : World} (h : s.run P w = .ok v w') : (do pure (Next.value (← s)) : Sem Next).run P w = .ok (.value v) w' := by simp [h]

theorem aInt_ok {op : BinOp} {k : IntKind} {a b : Int} {v : Value} (e : aInt op k a b = .ok v) (t : TypeId) (hs : op ≠ .shl ∧ op ≠ .shr) : (binOp op t (.int k a) (.int k b)).run P w = .ok v w ∧ VRel φ v v := by
  cases op <;> simp only [aInt] at e <;> first
    | (exact absurd rfl hs.1) | (exact absurd rfl hs.2)
    | (rw [intR_eq] at e; cases e
       first
         | (rw [iAdd_eq]; exact ⟨by simp [binOp, Op.intArith], .int _ _⟩)
         | (rw [iSub_eq]; exact ⟨by simp [binOp, Op.intArith], .int _ _⟩)
         | (rw [iMul_eq]; exact ⟨by simp [binOp, Op.intArith], .int _ _⟩)
         | (rw [iAnd_eq]; exact ⟨by simp [binOp, Op.intBits], .int _ _⟩)
         | (rw [iOr_eq]; exact ⟨by simp [binOp, Op.intBits], .int _ _⟩)
         | (rw [iXor_eq]; exact ⟨by simp [binOp, Op.intBits], .int _ _⟩)
         | (unfold iBits; exact ⟨by simp [binOp, Op.intBits], .int _ _⟩))
    | (obtain ⟨e1, e2⟩ := ifb_no' e
       rw [iBeq_eq] at e1
       have hb : b ≠ 0 := by simpa using e1
       rw [intR_eq] at e2; cases e2
       first
         | (rw [iQuo_eq]; exact ⟨by simp [binOp, Op.intDiv, hb], .int _ _⟩)
         | (rw [iRem_eq]; exact ⟨by simp [binOp, Op.intDiv, hb], .int _ _⟩))
    | (cases e
       first
         | (rw [iBeq_eq]; exact ⟨by simp [binOp, Op.intCmp, bne], .bool _⟩)
         | (rw [iBlt_eq]; exact ⟨by simp [binOp, Op.intCmp], .bool _⟩)
         | (rw [iBle_eq]; exact ⟨by simp [binOp, Op.intCmp], .bool _⟩))
theorem aShift_ok {op : BinOp} {k j : IntKind} {a b : Int} {v : Value} (e : aShift op k a b = .ok v) (t : TypeId) : (binOp op t (.int k a) (.int j b)).run P w = .ok v w ∧ VRel φ v v := by
  cases b with
  | negSucc n => cases e
  | ofNat n =>
    have e' : aShift2 op k a n = .ok v := e
    have hn : ¬ ((n : Int) < 0) := by omega
    cases op <;> simp only [aShift2] at e' <;> first
      | cases e'; done
      | (rw [intR_eq] at e'; cases e'
         first
           | (rw [iShl_eq]; exact ⟨by simp [binOp, Op.shift, hn], .int _ _⟩)
           | (rw [iShr_eq]; exact ⟨by simp [binOp, Op.shift, hn], .int _ _⟩))
theorem aStr_ok {op : BinOp} {a b : ByteArray} {v : Value} (e : aStr op a.data.toList b.data.toList = .ok v) (t : TypeId) : (binOp op t (.string a) (.string b)).run P w = .ok v w ∧ VRel φ v v := by
  have hs : (binOp op t (.string a) (.string b)) = Op.stringOp op a b := by cases op <;> rfl
  rw [hs]
  unfold Op.stringOp
  simp only [Lib.toList_data]
  have hsz : ∀ s : ByteArray, s.size = s.data.toList.length := fun s => (Array.length_toList (xs := s.data)).symm
  cases op <;> simp only [aStr, bEq_eq, bLess_eq] at e <;> first
    | (cases e; done)
    | (cases e; exact ⟨rfl, .bool _⟩)
    | (obtain ⟨h1, h2⟩ := ifb_no e
       cases h2
       have h1' : a.data.toList.length + b.data.toList.length < 9223372036854775808 := by simpa using h1
       have hle : ¬ (((a.size + b.size : Nat) : Int) > IntKind.i64.max) := by
         have : IntKind.i64.max = 9223372036854775807 := rfl
         rw [hsz, hsz, this]
         omega
       rw [if_neg hle]
       have : (a ++ b) = ⟨⟨a.data.toList ++ b.data.toList⟩⟩ := by
         apply ByteArray.ext
         simp
       rw [this]
       exact ⟨rfl, .string _⟩)

/-- what a block looks like to the model -/
theorem HF.cellsAt {f : Nat → Option AObj} (hm : HF φ f w) {b : Nat} {l : List Value} {e : TypeId} {s : Nat} {opn : Bool} {fz : Nat × Nat} {L : Loc} (hb : f b = some (.cells l e s opn fz)) (hL : φ b = some L) :
    ∃ c fr, w.heap[L.blk]? = some (.cells c e fr) ∧ CellsAt φ L l c ∧ FrozenAt L l.length fz fr ∧ (opn = false → L.base = 0 ∧ c.size = l.length) ∧
      (opn = true → s = L.s ∧ 0 < s ∧ L.base + L.cap * s ≤ c.size ∧ l.length ≤ L.cap * s ∧ FrozenAt L (L.cap * s) fz fr ∧ ∀ i, i < L.cap * s → ∃ v, c[L.base + i]? = some v) := by
  obtain ⟨o, h1, h2⟩ := hm.objAt hb hL
  cases h2 with
  | closed hb' hn hc hf => exact ⟨_, _, h1, hc, hf, fun _ => ⟨hb', hn⟩, fun x => by cases x⟩
  | room hs hn hl hc hf ho => exact ⟨_, _, h1, hc, ⟨fun i hi => hf.1 i (by omega), hf.2.1, hf.2.2.1, fun e => (hf.2.2.2 e).imp id fun x => by omega⟩, fun x => (by cases x), fun _ => ⟨rfl, hs, hn, hl, hf, ho⟩⟩
theorem constAt (hm : HRel φ h w) {b : Nat} {l : List Value} {e : TypeId} {L : Loc} (hb : h.get b = some (.const l e)) (hL : φ b = some L) :
    ∃ c e' fr, w.heap[L.blk]? = some (.cells c e' fr) ∧ CellsAt φ L l c := by
  obtain ⟨o, h1, h2⟩ := hm.objAt hb hL
  cases h2 with
  | const hc => exact ⟨_, _, _, h1, hc⟩
theorem cell_of {b : Nat} {c : Array Value} {e : TypeId} {fr : Nat × Nat} (h1 : w.heap[b]? = some (.cells c e fr)) (o : Nat) : w.cell? ⟨b, o, none⟩ = c[o]? := by simp [World.cell?, h1]
theorem frozen_of {b : Nat} {c : Array Value} {e : TypeId} {fr : Nat × Nat} (h1 : w.heap[b]? = some (.cells c e fr)) (o : Nat) : w.frozen? ⟨b, o, none⟩ = (decide (fr.1 ≤ o) && decide (o < fr.2)) := by simp [World.frozen?, h1]
theorem shape_of {b : Nat} {c : Array Value} {e : TypeId} {fr : Nat × Nat} (h1 : w.heap[b]? = some (.cells c e fr)) : w.shape? b = some (e, c.size) := by simp [World.shape?, h1]

/-- a block that is no bytes of a string -/
theorem ptrOk_at (hm : HRel φ h w) {b : Nat} {L : Loc} (hp : ptrOk h b = true) (hL : φ b = some L) : ∃ c e fr, w.heap[L.blk]? = some (.cells c e fr) ∧ 0 < c.size ∧ ¬ fr.1 < fr.2 := by
  unfold ptrOk at hp
  split at hp
  · rename_i v l e s opn hb
    obtain ⟨c, fr, h1, h2, h3, _⟩ := hm.cellsAt hb hL
    obtain ⟨v', h4, _⟩ := h2 0 v rfl
    refine ⟨c, e, fr, h1, ?_, fun hf => ?_⟩
    · have := (Array.getElem?_eq_some_iff.1 h4).1; omega
    · have := h3.2.1 (by decide) hf
      simp at this; omega
  · cases hp
theorem aSame_ok (hm : HRel φ h w) {a b : Addr} {a' b' : Addr} {r : Bool} (e : aSame h a b = .ok r) (ha : VRel φ (.pointer (some a)) (.pointer (some a'))) (hb : VRel φ (.pointer (some b)) (.pointer (some b'))) :
    (sameAddr a' b').run P w = .ok r w := by
  cases ha with
  | ptr o hL =>
    cases hb with
    | ptr p hM =>
      rename_i x L y M
      unfold aSame at e
      simp only at e
      rcases ifb_ok e with ⟨e1, e2⟩ | ⟨e1, e2⟩
      · obtain ⟨e3, e4⟩ := ifb_no e2
        cases e4
        have exy : x = y := by simpa using e1
        subst exy
        rw [hL] at hM
        obtain rfl := Option.some.inj hM
        unfold sameAddr
        have : ((⟨L.blk, L.base + o, none⟩ : Addr) == ⟨L.blk, L.base + p, none⟩) = Nat.beq o p := by
          rw [Bool.eq_iff_iff, beq_iff_eq, Nat.beq_eq]
          simp
        simp only [beq_self_eq_true, if_true]
        rw [← this]
        rfl
      · obtain ⟨e3, e4⟩ := ifb_no e2
        obtain ⟨e5, e6⟩ := ifb_no e4
        cases e6
        obtain ⟨c, t, fr, h1, h2, h3⟩ := ptrOk_at hm e3 hL
        obtain ⟨c', t', fr', h1', h2', h3'⟩ := ptrOk_at hm e5 hM
        have hne : L.blk ≠ M.blk := fun hh => by
          have hx : ∃ z, h.get x = some z := by
            unfold ptrOk at e3; split at e3
            · exact ⟨_, by assumption⟩
            · cases e3
          have hy : ∃ z, h.get y = some z := by
            unfold ptrOk at e5; split at e5
            · exact ⟨_, by assumption⟩
            · cases e5
          obtain ⟨z, hx⟩ := hx
          obtain ⟨u, hy⟩ := hy
          have hz : z.isConst = false := by
            unfold ptrOk at e3
            rw [hx] at e3
            cases z <;> first | rfl | cases e3
          have := hm.inj x y z u L M hx hy hL hM hh (.inl hz)
          subst this
          simp at e1
        have f1 : ∀ i, w.frozen? ⟨L.blk, i, none⟩ = false := fun i => by rw [frozen_of h1]; simp; omega
        have f2 : ∀ i, w.frozen? ⟨M.blk, i, none⟩ = false := fun i => by rw [frozen_of h1']; simp; omega
        unfold sameAddr noView viewAt mayBeOne stringish
        simp [hne, f1, f2, shape_of h1, shape_of h1']
theorem part_run {t : TypeId} {cs cs' : List Value} {off : Nat} {v : Value} (e : part P t cs off = .ok v) (hc : LRel φ cs cs') :
    ∃ v', (Go.part t ⟨cs'⟩ off).run P w = .ok v' w ∧ VRel φ v v' := by
  obtain ⟨g, h1, h2⟩ := Rs.bind_ok e
  have hg := aggT_run h1 w
  unfold Go.part
  rw [Sem.run_bind, hg]
  cases g with
  | true =>
    obtain ⟨n, h3, h4⟩ := Rs.bind_ok h2
    obtain ⟨l, h5, h6⟩ := Rs.bind_ok h4
    cases h6
    obtain ⟨hl, rfl⟩ := cutN_some (Rs.of_ok h5)
    simp only [Result.andThen_ok, if_true, Sem.run_bind, szT_run h3 w, Sem.run_pure]
    refine ⟨_, rfl, ?_⟩
    have hk := (hc.drop off).take n
    have : ((⟨cs'⟩ : Array Value).extract off (off + n)).toList = (cs'.drop off).take n := by
      simp [List.extract_eq_take_drop]
    have hk' : LRel φ (⟨(cs.drop off).take n⟩ : Array Value).toList ((⟨cs'⟩ : Array Value).extract off (off + n)).toList := by rw [this]; exact hk
    exact .agg hk'.arr.1 hk'.arr.2
  | false =>
    have h2 := Rs.of_ok h2
    simp only [Result.andThen_ok, Bool.false_eq_true, if_false]
    cases hcut : cutN cs off 1 with
    | none => rw [hcut] at h2; cases h2
    | some l =>
      rw [hcut] at h2
      obtain ⟨hl, rfl⟩ := cutN_some hcut
      have hv : cs[off]? = some v := by
        have h2' : ((cs.drop off).take 1).head? = some v := h2
        rw [List.head?_take] at h2'
        simpa [List.head?_drop] using h2'
      obtain ⟨v', hv', hr⟩ := hc.get hv
      have : (⟨cs'⟩ : Array Value)[off]? = some v' := by simpa using hv'
      rw [this]
      exact ⟨v', rfl, hr⟩
end
end Go.Proofs.YtihplijjkcdcjaaGreatDoor.Abs

/-
  '==' and the other operations of two operands.
-/
namespace Go.Proofs.YtihplijjkcdcjaaGreatDoor.Abs

section
variable {P : Program} {φ : Phi} {h : Tr AObj} {w : World}

theorem eqFields_ok (d : Nat) (eq : TypeId → Value → Value → Rs Bool) (heq : ∀ t x y x' y' r, eq t x y = .ok r → VRel φ x x' → VRel φ y y' → (Op.equalIn d t x' y').run P w = .ok r w)
    {xs ys : List Value} {xs' ys' : Array Value} (hx : LRel φ xs xs'.toList) (hy : LRel φ ys ys'.toList) : ∀ {fs : List Field} {r : Bool}, aEqFields P eq xs ys fs = .ok r → (Op.eqFields d xs' ys' fs).run P w = .ok r w
  | [], r, e => by cases e; rfl
  | f :: fs, r, e => by
    have e' : ifb (f.name == "_") (.no 32 "") ((part P f.type xs f.offset).bind fun a => (part P f.type ys f.offset).bind fun b => (eq f.type a b).bind fun r => ifb r (aEqFields P eq xs ys fs) (.ok false)) = .ok r := e
    obtain ⟨e1, e2⟩ := ifb_no' e'
    have hn : f.name ≠ "_" := by simpa using e1
    obtain ⟨a, h1, e3⟩ := Rs.bind_ok e2
    obtain ⟨b, h2, e4⟩ := Rs.bind_ok e3
    obtain ⟨q, h3, e5⟩ := Rs.bind_ok e4
    obtain ⟨a', r1, v1⟩ := part_run (w := w) h1 hx
    obtain ⟨b', r2, v2⟩ := part_run (w := w) h2 hy
    have r3 := heq _ _ _ _ _ _ h3 v1 v2
    have r1' : (Go.part f.type xs' f.offset).run P w = .ok a' w := r1
    have r2' : (Go.part f.type ys' f.offset).run P w = .ok b' w := r2
    rw [Op.eqFields, if_pos hn]
    simp only [Sem.run_bind, r1', r2', r3, Result.andThen_ok]
    rcases ifb_ok e5 with ⟨rfl, e6⟩ | ⟨rfl, e6⟩
    · simp only [Bool.not_true, Bool.false_eq_true, if_false]
      exact eqFields_ok d eq heq hx hy e6
    · cases e6
      simp

theorem fieldsOf_eq {t : TypeId} {fs : Array Field} (hu : P.underlying t = some (.struct fs)) : P.fieldsOf t = fs := by simp [Program.fieldsOf, hu]

theorem aEq_ok (hm : HRel φ h w) : ∀ (d : Nat) {n : Nat} (t : TypeId) (x y x' y' : Value) (r : Bool), d ≤ n → aEq P h d t x y = .ok r → VRel φ x x' → VRel φ y y' → (Op.equalIn n t x' y').run P w = .ok r w
  | 0, n, t, x, y, x', y', r, hd, e, hx, hy => by cases e
  | d + 1, 0, t, x, y, x', y', r, hd, e, hx, hy => by omega
  | d + 1, n + 1, t, x, y, x', y', r, hd, e, hx, hy => by
    have e' : ((undT P t).bind fun u => match x with
      | .int k a => aEqInt u k a y
      | .string a => aEqStr u a y
      | .pointer a => aEqPtr P h u a y
      | .agg xs => aEqAgg P (aEq P h d) t u xs.toList y
      | x => aEqRest u x y) = .ok r := e
    obtain ⟨u, hu, e1⟩ := Rs.bind_ok e'
    have hU := undT_ok hu
    have hr := undT_run hu w
    clear e e' hu
    split at e1
    · cases hx
      unfold aEqInt at e1
      split at e1 <;> first | cases e1 | skip
      obtain ⟨e2, e3⟩ := ifb_no e1
      have := kEq_eq e2
      subst this
      cases e3
      cases hy
      rw [iBeq_eq]
      exact run_equalIn_int w n t _ _ _ _ hU
    · cases hx
      unfold aEqStr at e1
      split at e1 <;> first | cases e1 | skip
      cases hy
      rw [bEq_eq, ← Lib.toList_data, ← Lib.toList_data]
      exact run_equalIn_string w n t _ _ hU
    · unfold aEqPtr at e1
      split at e1 <;> first | cases e1 | skip
      split at e1
      · cases e1; cases hx; cases hy
        unfold Op.equalIn; rw [Sem.run_bind, hr]; rfl
      · cases e1; cases hx; cases hy
        unfold Op.equalIn; rw [Sem.run_bind, hr]; rfl
      · cases e1; cases hx; cases hy
        unfold Op.equalIn; rw [Sem.run_bind, hr]; rfl
      · obtain ⟨s, h1, e2⟩ := Rs.bind_ok e1
        obtain ⟨h2, e3⟩ := ifb_no' e2
        have hs : s ≠ 0 := by intro hh; subst hh; simp at h2
        have hsz := szT_run h1 w
        cases hx with
        | ptr o hL =>
          cases hy with
          | ptr p hM =>
            have := aSame_ok (P := P) hm e3 (.ptr o hL) (.ptr p hM)
            unfold Op.equalIn; rw [Sem.run_bind, hr]
            simp only [Result.andThen_ok, Sem.run_bind, hsz, ne_eq, hs, not_false_eq_true, if_true]
            exact this
    · unfold aEqAgg at e1
      split at e1 <;> first | cases e1 | skip
      rename_i xs fs ys
      obtain ⟨h1, e2⟩ := ifb_no' e1
      cases hx with
      | agg hx1 hx2 =>
        cases hy with
        | agg hy1 hy2 =>
          have hf := fieldsOf_eq hU
          rw [run_equalIn_struct w n t _ _ (by rw [hf]; exact hU) h1, hf]
          exact eqFields_ok n (aEq P h d) (fun t x y x' y' r e a b => aEq_ok hm d t x y x' y' r (by omega) e a b) (LRel.of_arr hx1 hx2) (LRel.of_arr hy1 hy2) e2
    · unfold aEqRest at e1
      split at e1 <;> first | cases e1 | skip
      all_goals (cases hx <;> cases hy <;> (unfold Op.equalIn; rw [Sem.run_bind, hr]; rfl))

/-- '==' and '!=' of such values ask whether they are equal -/
theorem bin_eq {d : Nat} {t : TypeId} {x y x' y' : Value} {r : Bool} (e : aEq P h (d + 1) t x y = .ok r) (hx : VRel φ x x') (hy : VRel φ y y') (n1 : ∀ k a, x ≠ .int k a) (n2 : ∀ a, x ≠ .string a) :
    binOp .eql t x' y' = (do pure (.bool (← Op.equal t x' y')) : Sem Value) ∧ binOp .neq t x' y' = (do pure (.bool (!(← Op.equal t x' y'))) : Sem Value) := by
  have e' : ((undT P t).bind fun u => match x with
    | .int k a => aEqInt u k a y
    | .string a => aEqStr u a y
    | .pointer a => aEqPtr P h u a y
    | .agg xs => aEqAgg P (aEq P h d) t u xs.toList y
    | x => aEqRest u x y) = .ok r := e
  obtain ⟨u, hu, e1⟩ := Rs.bind_ok e'
  clear e e' hu
  split at e1
  · exact absurd rfl (n1 _ _)
  · exact absurd rfl (n2 _)
  · unfold aEqPtr at e1
    split at e1 <;> first | cases e1; done | skip
    clear e1
    cases hx <;> cases hy <;> exact ⟨rfl, rfl⟩
  · unfold aEqAgg at e1
    split at e1 <;> first | cases e1; done | skip
    clear e1
    cases hx; cases hy; exact ⟨rfl, rfl⟩
  · unfold aEqRest at e1
    split at e1 <;> first | cases e1; done | skip
    all_goals (clear e1; cases hx <;> cases hy <;> exact ⟨rfl, rfl⟩)

theorem guard_ok {op : BinOp} {t : TypeId} {x y : Operand} {a b a' b' : Value} (hok : eqOk P t (isC x || isC y) a b = true) (ha : VRel φ a a') (hb : VRel φ b b') : (eqGuard op t x y a' b').run P w = .ok () w := by
  unfold eqOk at hok
  split at hok
  · cases ha; cases hb
    unfold eqGuard
    generalize (!(op matches .eql | .neq)) = g
    cases g
    · cases x <;> cases y <;> first | (cases hok; done) | rfl
    · rfl
  · cases ha; cases hb
    have hok' : P.eqGuardType P.depth t = false := by simpa using hok
    exact run_eqGuard_agg w op t x y _ _ hok'
  · rename_i n1 n2
    have c1 : ¬ (a' = .nilIface ∧ b' = .nilIface) := by
      rintro ⟨rfl, rfl⟩
      cases ha; cases hb; exact n1 rfl rfl
    have c2 : ∀ xs ys, ¬ (a' = .agg xs ∧ b' = .agg ys) := by
      rintro xs ys ⟨rfl, rfl⟩
      cases ha; cases hb; exact n2 _ _ rfl rfl
    clear ha hb hok n1 n2
    unfold eqGuard
    generalize (!(op matches .eql | .neq)) = g
    cases g
    · simp only [Bool.false_eq_true, if_false]
      split
      · exact absurd ⟨rfl, rfl⟩ c1
      · exact absurd ⟨rfl, rfl⟩ (c2 _ _)
      · rfl
    · rfl

/-- an operation of two operands, with the guard that stands ahead of it -/
theorem aBin_ok (hm : HRel φ h w) {op : BinOp} {t : TypeId} {x y : Operand} {a b a' b' v : Value} (e : aBin P h op t (isC x || isC y) a b = .ok v) (ha : VRel φ a a') (hb : VRel φ b b') :
    ∃ v', (do eqGuard op t x y a' b'; binOp op t a' b' : Sem Value).run P w = .ok v' w ∧ VRel φ v v' := by
  unfold aBin at e
  split at e
  · unfold aBinInt at e
    split at e <;> first | cases e; done | skip
    cases ha
    cases hb
    have hg : ∀ k j m n, (eqGuard op t x y (.int k m) (.int j n)).run P w = .ok () w := fun k j m n => by cases op <;> simp [eqGuard]
    simp only [Sem.run_bind, hg, Result.andThen_ok]
    split at e
    · exact ⟨v, aShift_ok e t⟩
    · exact ⟨v, aShift_ok e t⟩
    · rename_i h1 h2
      obtain ⟨e1, e2⟩ := ifb_no e
      have := kEq_eq e1
      subst this
      exact ⟨v, aInt_ok e2 t ⟨h1, h2⟩⟩
  · unfold aBinStr at e
    split at e <;> first | cases e; done | skip
    cases ha
    cases hb
    have hg : ∀ m n, (eqGuard op t x y (.string m) (.string n)).run P w = .ok () w := fun m n => by cases op <;> simp [eqGuard]
    simp only [Sem.run_bind, hg, Result.andThen_ok]
    exact ⟨v, aStr_ok e t⟩
  · rename_i h1 h2
    unfold aBinEq at e
    split at e <;> first | cases e; done | skip
    all_goals
      obtain ⟨e1, e2⟩ := ifb_no e
      obtain ⟨r, e3, e4⟩ := Rs.bind_ok e2
      cases e4
      have hq := aEq_ok (P := P) hm 40 (n := 10000) t a b a' b' r (by decide) e3 ha hb
      obtain ⟨b1, b2⟩ := bin_eq e3 ha hb (fun k n => h1 k n) (fun s => h2 s)
      refine ⟨_, ?_, .bool _⟩
      rw [Sem.run_bind, guard_ok e1 ha hb]
      simp [b1, b2, Op.equal, Op.maxDepth, hq]
end
end Go.Proofs.YtihplijjkcdcjaaGreatDoor.Abs

/-
  The other operations that change nothing.
-/
namespace Go.Proofs.YtihplijjkcdcjaaGreatDoor.Abs

section
variable {P : Program} {φ : Phi} {h : Tr AObj} {w : World}

theorem aUn_ok {op : UnOp} {x x' v : Value} (e : aUn op x = .ok v) (hx : VRel φ x x') : ∃ v', (Op.unary op x').run P w = .ok v' w ∧ VRel φ v v' := by
  unfold aUn at e
  split at e
  · cases hx; cases e
    exact ⟨_, rfl, .int _ _⟩
  · rename_i k n
    cases hx
    obtain ⟨r1, r2⟩ := aInt_ok (P := P) (φ := φ) (w := w) e 0 (by decide)
    refine ⟨v, ?_, r2⟩
    rw [← r1]
    simp [Op.unary, binOp]
  · cases hx; cases e
    exact ⟨_, rfl, .bool _⟩
  · cases e

theorem add_none (b o n : Nat) : (⟨b, o, none⟩ : Addr).add n = ⟨b, o + n, none⟩ := by
  unfold Addr.add
  split
  · rename_i h; subst h; rfl
  · rfl
theorem addA_ok {a r : Addr} {n : Nat} (e : addA a n = .ok r) : a.spot = none ∧ r = ⟨a.block, a.off + n, none⟩ := by
  unfold addA at e
  split at e
  · rename_i hs; cases e; exact ⟨hs, rfl⟩
  · cases e

/-- cells that are read one by one -/
theorem load_many {b base o n : Nat} {c : Array Value} {e : TypeId} {fr : Nat × Nat} {L : Loc} {l cs : List Value} (hb : L.blk = b) (hL : L.base = base) (h1 : w.heap[b]? = some (.cells c e fr)) (hc : CellsAt φ L l c) (hcut : cutN l o n = some cs) :
    ∃ cs', (loadCells ⟨b, base + o, none⟩ n).run P w = .ok ⟨cs'⟩ w ∧ LRel φ cs cs' := by
  subst hb hL
  obtain ⟨hn, rfl⟩ := cutN_some hcut
  have hget : ∀ j, j < n → ∃ v v', l[o + j]? = some v ∧ c[L.base + (o + j)]? = some v' ∧ VRel φ v v' := fun j hj => by
    have hlt : o + j < l.length := by omega
    obtain ⟨v', h2, h3⟩ := hc (o + j) _ (List.getElem?_eq_getElem hlt)
    exact ⟨_, v', List.getElem?_eq_getElem hlt, h2, h3⟩
  refine ⟨(List.range n).map fun j => (c[L.base + (o + j)]?).getD undefV, ?_, ?_, ?_⟩
  · have := run_loadCells (P := P) w ⟨L.blk, L.base + o, none⟩ n (fun j => (c[L.base + (o + j)]?).getD undefV) (fun j hj => by
      obtain ⟨v, v', _, h2, _⟩ := hget j hj
      rw [add_none, cell_of h1, Nat.add_assoc, h2]; rfl)
    simpa using this
  · simp; omega
  · intro i v v' ha hb
    have hi : i < n := by
      rcases Nat.lt_or_ge i n with x | x
      · exact x
      · rw [List.getElem?_take, if_neg (by omega)] at ha; cases ha
    rw [List.getElem?_take, if_pos hi, List.getElem?_drop] at ha
    obtain ⟨u, u', h1', h2, h3⟩ := hget i hi
    rw [h1'] at ha
    cases ha
    simp only [List.getElem?_map, List.getElem?_range hi, Option.map_some, h2, Option.getD_some, Option.some.injEq] at hb
    subst hb
    exact h3

theorem idxN_ok {x x' : Value} {n i : Nat} (e : idxN x n = .ok i) (hx : VRel φ x x') : ∃ k, x' = .int k (Int.ofNat i) ∧ i < n := by
  unfold idxN at e
  split at e
  · obtain ⟨h1, h2⟩ := ifb_no e
    cases h2
    cases hx
    exact ⟨_, rfl, by simpa using h1⟩
  · cases e
theorem bndN_ok {x x' : Value} {n i : Nat} (e : bndN x n = .ok i) (hx : VRel φ x x') : ∃ k, x' = .int k (Int.ofNat i) ∧ i ≤ n := by
  unfold bndN at e
  split at e
  · obtain ⟨h1, h2⟩ := ifb_no e
    cases h2
    cases hx
    exact ⟨_, rfl, by simpa using h1⟩
  · cases e

theorem pIndexAddr_ok {t : TypeId} {a a' i i' v : Value} (e : pIndexAddr P t a i = .ok v) (ha : VRel φ a a') (hi : VRel φ i i') : ∃ v', (Instr.indexAt t a' i').run P w = .ok v' w ∧ VRel φ v v' := by
  unfold pIndexAddr at e
  obtain ⟨u, hu, e1⟩ := Rs.bind_ok e
  have hr := undT_run hu w
  have fin : ∀ (n : Nat) (e : TypeId) (A : Addr), pIndexAddr2 P n e A i = .ok v → ∃ k m s, i' = .int k (Int.ofNat m) ∧ m < n ∧ (sizeOf e).run P w = .ok s w ∧ A.spot = none ∧ v = .pointer (some ⟨A.block, A.off + m * s, none⟩) := by
    intro n e A h1
    obtain ⟨m, h2, h3⟩ := Rs.bind_ok h1
    obtain ⟨s, h4, h5⟩ := Rs.bind_ok h3
    obtain ⟨r, h6, h7⟩ := Rs.bind_ok h5
    cases h7
    obtain ⟨k, h8, h9⟩ := idxN_ok h2 hi
    obtain ⟨h10, rfl⟩ := addA_ok h6
    exact ⟨k, m, s, h8, h9, szT_run h4 w, h10, rfl⟩
  split at e1
  · rename_i n el
    split at e1 <;> first | (cases e1; done) | skip
    rename_i A
    obtain ⟨k, m, s, rfl, hm, hs, hsp, rfl⟩ := fin _ _ _ e1
    cases ha with
    | ptr o hL =>
      have hlt : (0 : Int) ≤ Int.ofNat m ∧ Int.ofNat m < (n : Int) := ⟨by simp, by simpa using hm⟩
      refine ⟨_, ?_, .ptr _ hL⟩
      unfold Instr.indexAt
      simp only [asIntOf, Sem.run_bind, Sem.run_pure, Result.andThen_ok, hr, Instr.sureAddr]
      rw [if_pos hlt]
      simp only [Sem.run_bind, hs, Result.andThen_ok, Sem.run_pure, add_none]
      simp [Nat.add_assoc]
  · rename_i el
    split at e1 <;> first | (cases e1; done) | skip
    rename_i A n c
    obtain ⟨k, m, s, rfl, hm, hs, hsp, rfl⟩ := fin _ _ _ e1
    have hlt : (0 : Int) ≤ Int.ofNat m ∧ Int.ofNat m < (n : Int) := ⟨by simp, by simpa using hm⟩
    have go : ∀ (b o : Nat) (cc : Nat), (Instr.indexAt t (.slice (some ⟨b, o, none⟩) n cc) (.int k (Int.ofNat m))).run P w = .ok (.pointer (some ⟨b, o + m * s, none⟩)) w := by
      intro b o cc
      unfold Instr.indexAt
      simp only [asIntOf, Sem.run_bind, Sem.run_pure, Result.andThen_ok, hr]
      rw [if_pos hlt]
      simp only [Sem.run_bind, hs, Result.andThen_ok, Sem.run_pure, add_none]
      simp
    cases ha with
    | slice o hL hc hn =>
      refine ⟨_, go _ _ _, ?_⟩
      rw [Nat.add_assoc]
      exact .ptr _ hL
    | room hL h1 h2 h3 =>
      refine ⟨_, go _ _ _, ?_⟩
      rw [Nat.add_assoc]
      exact .ptr _ hL
    | full a' hL ho => omega
  · cases e1

theorem pFieldAddr_ok {t : TypeId} {f : Nat} {a a' v : Value} (e : pFieldAddr P t f a = .ok v) (ha : VRel φ a a') : ∃ v', (Instr.fieldAt t a' f).run P w = .ok v' w ∧ VRel φ v v' := by
  unfold pFieldAddr at e
  obtain ⟨u, hu, e1⟩ := Rs.bind_ok e
  have hr := undT_run hu w
  split at e1 <;> first | (cases e1; done) | skip
  unfold pFieldAddr2 at e1
  split at e1 <;> first | (cases e1; done) | skip
  obtain ⟨fl, h1, e2⟩ := Rs.bind_ok e1
  obtain ⟨s, h2, e3⟩ := Rs.bind_ok e2
  obtain ⟨h3, e4⟩ := ifb_no' e3
  obtain ⟨r, h4, e5⟩ := Rs.bind_ok e4
  cases e5
  have hs : s ≠ 0 := by intro hh; subst hh; simp at h3
  obtain ⟨h5, rfl⟩ := addA_ok h4
  have h1 := Rs.of_ok h1
  cases ha with
  | ptr o hL =>
    refine ⟨_, ?_, .ptr _ hL⟩
    unfold Instr.fieldAt
    simp only [Sem.run_bind, hr, Result.andThen_ok, h1, Instr.sureAddr, Sem.run_pure, fieldPlace, szT_run h2 w, if_neg hs, add_none, Nat.add_assoc]

theorem pLoad_ok (hm : HRel φ h w) {t : TypeId} {x x' v : Value} (e : pLoad P h t x = .ok v) (hx : VRel φ x x') : ∃ v', (Instr.loadAt t x').run P w = .ok v' w ∧ VRel φ v v' := by
  unfold pLoad at e
  split at e <;> first | (cases e; done) | skip
  rename_i b o
  obtain ⟨l, h1, e1⟩ := Rs.bind_ok e
  obtain ⟨g, h2, e2⟩ := Rs.bind_ok e1
  cases hx with
  | ptr o hL =>
    rename_i L
    obtain ⟨c, ty, fr, hw, hc⟩ : ∃ c ty fr, w.heap[L.blk]? = some (.cells c ty fr) ∧ CellsAt φ L l c := by
      unfold objCells at h1
      split at h1
      · rename_i hb; cases h1
        obtain ⟨c, fr, a, b, _⟩ := hm.cellsAt hb hL
        exact ⟨c, _, fr, a, b⟩
      · rename_i hb; cases h1
        obtain ⟨c, _, fr, a, b⟩ := constAt hm hb hL
        exact ⟨c, _, fr, a, b⟩
      · cases h1
    have hg := aggT_run h2 w
    unfold Instr.loadAt loadVar
    simp only [Instr.sureAddr, Sem.run_bind, Sem.run_pure, Result.andThen_ok, hg]
    unfold pLoad2 at e2
    rcases ifb_ok e2 with ⟨rfl, e3⟩ | ⟨rfl, e3⟩
    · obtain ⟨n, h3, e4⟩ := Rs.bind_ok e3
      obtain ⟨cs, h4, e5⟩ := Rs.bind_ok e4
      cases e5
      obtain ⟨cs', r1, r2⟩ := load_many (P := P) (w := w) rfl rfl hw hc (Rs.of_ok h4)
      simp only [if_true, Sem.run_bind, szT_run h3 w, Result.andThen_ok, r1, Sem.run_pure]
      exact ⟨_, rfl, .agg (by simpa using r2.1) fun i v v' a b => r2.2 i v v' (by simpa using a) (by simpa using b)⟩
    · have h3 := Rs.of_ok e3
      rw [nth_eq] at h3
      obtain ⟨v', h4, h5⟩ := hc _ _ h3
      simp only [Bool.false_eq_true, if_false, run_load, cell_of hw, h4]
      exact ⟨v', rfl, h5⟩

theorem pIndex_ok {t : TypeId} {a a' i i' v : Value} (e : pIndex P t a i = .ok v) (ha : VRel φ a a') (hi : VRel φ i i') : ∃ v', (Instr.index t a' i').run P w = .ok v' w ∧ VRel φ v v' := by
  unfold pIndex at e
  split at e
  · rename_i s
    obtain ⟨u, hu, e1⟩ := Rs.bind_ok e
    have hr := undT_run hu w
    split at e1 <;> first | (cases e1; done) | skip
    unfold pIndexStr at e1
    split at e1 <;> first | (cases e1; done) | skip
    rename_i m
    obtain ⟨b, h1, e2⟩ := Rs.bind_ok e1
    cases e2
    cases ha
    cases hi
    have h1 := Rs.of_ok h1
    rw [nth_eq] at h1
    refine ⟨_, ?_, .int _ _⟩
    unfold Instr.index
    have hs : s[(Int.ofNat m).toNat]? = some b := by
      have hm : m < s.size := by
        rcases Nat.lt_or_ge m s.data.toList.length with x | x
        · simpa using x
        · rw [List.getElem?_eq_none x] at h1; cases h1
      have : s[m]? = some b := by
        rw [getElem?_pos s m hm]
        have : s.data.toList[m]? = some s[m] := by
          rw [List.getElem?_eq_getElem (by simpa using hm)]
          rfl
        rw [this] at h1
        exact h1
      simpa using this
    simp only [asIntOf, Sem.run_bind, Sem.run_pure, Result.andThen_ok, hr]
    have h0 : (0 : Int) ≤ Int.ofNat m := by simp
    rw [if_pos h0, hs]
    rfl
  · obtain ⟨u, hu, e1⟩ := Rs.bind_ok e
    have hr := undT_run hu w
    split at e1 <;> first | (cases e1; done) | skip
    rename_i cs _ n el
    obtain ⟨m, h1, e2⟩ := Rs.bind_ok e1
    obtain ⟨s, h2, e3⟩ := Rs.bind_ok e2
    obtain ⟨k, rfl, hm⟩ := idxN_ok h1 hi
    cases ha with
    | agg ha1 ha2 =>
      obtain ⟨v', r1, r2⟩ := part_run (w := w) e3 (LRel.of_arr ha1 ha2)
      refine ⟨v', ?_, r2⟩
      have hlt : (0 : Int) ≤ Int.ofNat m ∧ Int.ofNat m < (n : Int) := ⟨by simp, by simpa using hm⟩
      unfold Instr.index
      simp only [asIntOf, Sem.run_bind, Sem.run_pure, Result.andThen_ok, hr]
      rw [if_pos hlt]
      simp only [Sem.run_bind, szT_run h2 w, Result.andThen_ok]
      exact r1
  · cases e

theorem pField_ok {t : TypeId} {f : Nat} {a a' v : Value} (e : pField P t f a = .ok v) (ha : VRel φ a a') : ∃ v', (Instr.field t a' f).run P w = .ok v' w ∧ VRel φ v v' := by
  unfold pField at e
  obtain ⟨u, hu, e1⟩ := Rs.bind_ok e
  have hr := undT_run hu w
  split at e1 <;> first | (cases e1; done) | skip
  obtain ⟨fl, h1, e2⟩ := Rs.bind_ok e1
  have h1 := Rs.of_ok h1
  cases ha with
  | agg ha1 ha2 =>
    obtain ⟨v', r1, r2⟩ := part_run (w := w) e2 (LRel.of_arr ha1 ha2)
    refine ⟨v', ?_, r2⟩
    unfold Instr.field
    simp only [Sem.run_bind, hr, Result.andThen_ok, h1, asAgg, Sem.run_pure]
    exact r1

theorem pExtract_ok {i : Nat} {a a' v : Value} (e : pExtract i a = .ok v) (ha : VRel φ a a') : ∃ v', (Instr.extract a' i).run P w = .ok v' w ∧ VRel φ v v' := by
  unfold pExtract at e
  split at e <;> first | (cases e; done) | skip
  have h1 := Rs.of_ok e
  rw [nth_eq] at h1
  cases ha with
  | tuple ha1 ha2 =>
    obtain ⟨v', r1, r2⟩ := (LRel.of_arr ha1 ha2).get h1
    refine ⟨v', ?_, r2⟩
    unfold Instr.extract
    have : ∀ ys : Array Value, ys.toList[i]? = some v' → ys[i]? = some v' := fun ys hh => by simpa using hh
    simp only [this _ r1]
    rfl

theorem pIface_ok {t : TypeId} {a a' v : Value} (e : pIface P t a = .ok v) (ha : VRel φ a a') : ∃ v', (Instr.makeInterface t a').run P w = .ok v' w ∧ VRel φ v v' := by
  unfold pIface at e
  obtain ⟨u, hu, e1⟩ := Rs.bind_ok e
  have hr := undT_run hu w
  split at e1
  · cases e1
  · rename_i hn
    cases e1
    refine ⟨_, ?_, .iface _ ha⟩
    unfold Instr.makeInterface
    simp only [Sem.run_bind, hr, Result.andThen_ok]
    rfl

theorem pAssert_ok {t xt : TypeId} {ok : Bool} {a a' v : Value} (e : pAssert P t ok a = .ok v) (ha : VRel φ a a') : ∃ v', (Instr.typeAssert a' xt t ok).run P w = .ok v' w ∧ VRel φ v v' := by
  unfold pAssert at e
  split at e <;> first | (cases e; done) | skip
  obtain ⟨u, hu, e1⟩ := Rs.bind_ok e
  have hr := undT_run hu w
  split at e1
  · cases e1
  · obtain ⟨h1, e2⟩ := ifb_no e1
    cases e2
    have ht := Nat.eq_of_beq_eq_true h1
    cases ha with
    | @iface t' v0 v' hv =>
      subst ht
      refine ⟨if ok then .tuple #[v', .bool true] else v', ?_, ?_⟩
      · unfold Instr.typeAssert
        simp only [Sem.run_bind, hr, Result.andThen_ok]
        split <;> simp_all
      · cases ok
        · exact hv
        · exact .tuple rfl fun i x y a b => by
            match i with
            | 0 => simp at a b; subst a b; exact hv
            | 1 => simp at a b; subst a b; exact .bool _
            | n + 2 => simp at a
end
end Go.Proofs.YtihplijjkcdcjaaGreatDoor.Abs

/-
  Conversions, parts, what is built, what is looked up.
-/
namespace Go.Proofs.YtihplijjkcdcjaaGreatDoor.Abs

section
variable {P : Program} {φ : Phi} {h : Tr AObj} {w : World}

theorem bound_run {x v : Value} {n i : Nat} (e : bndN x n = .ok i) (hx : VRel φ x v) (n' : Nat) (hn : n ≤ n') (code : BoundsCode) : (Instr.sliceBound v n' code).run P w = .ok i w := by
  obtain ⟨k, rfl, hi⟩ := bndN_ok e hx
  unfold Instr.sliceBound
  simp only [asIntOf, Sem.run_bind, Sem.run_pure, Result.andThen_ok]
  have : (0 : Int) ≤ Int.ofNat i ∧ Int.ofNat i ≤ (n' : Int) := ⟨by simp, by simp; omega⟩
  rw [if_pos this]
  simp
theorem lo_run {low : Option Value} {l : List Value} {i n : Nat} (e : optN l 0 n = .ok i) (hl : LRel φ l low.toList) :
    (low = none ∧ i = 0) ∨ ∃ v, low = some v ∧ ∀ code, (Instr.sliceBound v n code).run P w = .ok i w := by
  cases low with
  | none =>
    obtain rfl : l = [] := List.length_eq_zero_iff.1 hl.1
    cases e
    exact .inl ⟨rfl, rfl⟩
  | some v =>
    cases l with
    | nil => have := hl.1; simp at this
    | cons x r => exact .inr ⟨v, rfl, fun code => bound_run e (hl.2 0 x v rfl rfl) n (Nat.le_refl _) code⟩
/-- the bounds of a part, where the model's capacity is at least what the evaluator knows of -/
theorem cutIx_run {isS : Bool} {len cap cap' : Nat} {low high max : Option Value} {lo hi mx : List Value} {o hh m : Nat} (e : cutIx len cap lo hi mx = .ok (o, hh, m)) (hlo : LRel φ lo low.toList) (hhi : LRel φ hi high.toList) (hmx : LRel φ mx max.toList)
    (hlen : len ≤ cap') (hcap : cap ≤ cap') :
    ∃ m', (Instr.sliceBounds isS len cap' low high max).run P w = .ok (o, hh, m') w ∧ (max = none → m' = cap' ∧ m = cap ∧ mx = []) ∧ (max ≠ none → m' = m ∧ m ≤ cap) ∧ o ≤ hh ∧ hh ≤ m' := by
  unfold cutIx at e
  obtain ⟨m1, h1, e1⟩ := Rs.bind_ok e
  obtain ⟨h2, h3, e2⟩ := Rs.bind_ok e1
  obtain ⟨o1, h4, e3⟩ := Rs.bind_ok e2
  cases e3
  have hbl : ∀ (x : Value) (n i : Nat), bndN x n = .ok i → i ≤ n := by
    intro x n i hb
    unfold bndN at hb
    split at hb
    · obtain ⟨a, b⟩ := ifb_no hb; cases b; simpa using a
    · cases hb
  have olo : ∀ n, optN lo 0 n = .ok o → o ≤ n := by
    intro n hn
    unfold optN at hn
    split at hn
    · cases hn; omega
    · exact hbl _ _ _ hn
  cases max with
  | none =>
    obtain rfl : mx = [] := List.length_eq_zero_iff.1 hmx.1
    have hm : m = cap := by cases h1; rfl
    subst hm
    refine ⟨cap', ?_, fun _ => ⟨rfl, rfl, rfl⟩, fun x => absurd rfl x, olo _ h4, ?_⟩
    · unfold Instr.sliceBounds
      cases high with
      | none =>
        obtain rfl : hi = [] := List.length_eq_zero_iff.1 hhi.1
        cases h3
        rcases lo_run (P := P) (w := w) h4 hlo with ⟨rfl, rfl⟩ | ⟨v, rfl, hv⟩
        · rfl
        · simp [hv]
      | some v =>
        cases hi with
        | nil => have := hhi.1; simp at this
        | cons x r =>
          have b1 := fun code => bound_run (P := P) (w := w) h3 (hhi.2 0 x v rfl rfl) cap' hcap code
          rcases lo_run (P := P) (w := w) h4 hlo with ⟨rfl, rfl⟩ | ⟨v, rfl, hv⟩
          · simp [b1]
          · simp [b1, hv]
    · cases hi with
      | nil => cases h3; omega
      | cons x r => have := hbl x _ _ h3; omega
  | some vm =>
    cases mx with
    | nil => have := hmx.1; simp at this
    | cons xm rm =>
      have h1' : bndN xm cap = .ok m := h1
      have hmc := hbl _ _ _ h1'
      have b1 := fun code => bound_run (P := P) (w := w) h1' (hmx.2 0 xm vm rfl rfl) cap' hcap code
      cases hi with
      | nil => cases h3
      | cons x r =>
        cases high with
        | none => have := hhi.1; simp at this
        | some v =>
          have b2 := fun code => bound_run (P := P) (w := w) h3 (hhi.2 0 x v rfl rfl) m (Nat.le_refl _) code
          refine ⟨m, ?_, fun x => (by cases x), fun _ => ⟨rfl, hmc⟩, olo _ h4, hbl _ _ _ h3⟩
          unfold Instr.sliceBounds
          rcases lo_run (P := P) (w := w) h4 hlo with ⟨rfl, rfl⟩ | ⟨v, rfl, hv⟩
          · simp [b1, b2]
          · simp [b1, b2, hv]

theorem sliceV_ok {a : Addr} {s o n c : Nat} {v : Value} (e : sliceV a s o n c = .ok v) : a.spot = none ∧ v = .slice (some ⟨a.block, a.off + o * s, none⟩) n c := by
  obtain ⟨r, h1, h2⟩ := Rs.bind_ok e
  cases h2
  obtain ⟨h3, rfl⟩ := addA_ok h1
  exact ⟨h3, rfl⟩

theorem sliceU {t e : TypeId} (hu : P.underlying t = some (.slice e)) {a : Option Addr} {len cap o hh m s : Nat} {low high max : Option Value} (hb : (Instr.sliceBounds true len cap low high max).run P w = .ok (o, hh, m) w) (hs : (sizeOf e).run P w = .ok s w) :
    (Instr.slice t (.slice a len cap) low high max).run P w = .ok (.slice (if m = o then a else a.map (·.add (o * s))) (hh - o) (m - o)) w := by
  unfold Instr.slice
  simp [run_underlying hu, hb, hs]
theorem sliceAt_eq {t e : TypeId} (hu : P.underlying t = some (.slice e)) (x : Value) (low high max : Option Value) : (Instr.sliceAt t x low high max).run P w = (Instr.slice t x low high max).run P w := by
  unfold Instr.sliceAt
  simp [run_underlying hu]

theorem known_ok {b o0 s n c : Nat} {lo hi mx : List Value} {v : Value} {L : Loc} {low high max : Option Value} (hL : φ b = some L) (hc : c < open_) (e : pSliceKnown ⟨b, o0, none⟩ s n c lo hi mx = .ok v)
    (hlo : LRel φ lo low.toList) (hhi : LRel φ hi high.toList) (hmx : LRel φ mx max.toList) (hn : n ≤ c) (isS : Bool) :
    ∃ o hh m, (Instr.sliceBounds isS n c low high max).run P w = .ok (o, hh, m) w ∧ VRel φ v (.slice (if m = o then some ⟨L.blk, L.base + o0, none⟩ else some ⟨L.blk, L.base + o0 + o * s, none⟩) (hh - o) (m - o)) := by
  obtain ⟨⟨o, hh, m⟩, h1, h2⟩ := Rs.bind_ok e
  obtain ⟨m', r1, r2, r3, r4, r5⟩ := cutIx_run (P := P) (w := w) (isS := isS) h1 hlo hhi hmx hn (Nat.le_refl _)
  have hm : m' = m ∧ m ≤ c := by
    cases max with
    | none => obtain ⟨a, b, _⟩ := r2 rfl; omega
    | some x => exact r3 (by simp)
  obtain ⟨rfl, hmc⟩ := hm
  refine ⟨o, hh, m', r1, ?_⟩
  rcases ifb_ok h2 with ⟨e1, e2⟩ | ⟨e1, e2⟩
  · cases e2
    have : m' = o := Nat.eq_of_beq_eq_true e1
    rw [if_pos this]
    exact .slice _ hL (by simp only; omega) (by simp only; omega)
  · obtain ⟨_, rfl⟩ := sliceV_ok e2
    have : m' ≠ o := Nat.ne_of_beq_eq_false e1
    rw [if_neg this, Nat.add_assoc]
    exact .slice _ hL (by simp only; omega) (by simp only; omega)

theorem pSlice_ok (hm : HRel φ h w) {t : TypeId} {a a' v : Value} {lo hi mx : List Value} {low high max : Option Value} (e : pSlice1 P h t a lo hi mx = .ok v) (ha : VRel φ a a')
    (hlo : LRel φ lo low.toList) (hhi : LRel φ hi high.toList) (hmx : LRel φ mx max.toList) : ∃ v', (Instr.sliceAt t a' low high max).run P w = .ok v' w ∧ VRel φ v v' := by
  unfold pSlice1 at e
  obtain ⟨u, hu, e1⟩ := Rs.bind_ok e
  have hU := undT_ok hu
  have hr := undT_run hu w
  split at e1
  · split at e1 <;> first | (cases e1; done) | skip
    rename_i s
    unfold pSliceStr at e1
    split at e1 <;> first | (cases e1; done) | skip
    obtain ⟨⟨o, hh, m⟩, h1, h2⟩ := Rs.bind_ok e1
    cases h2
    cases ha
    obtain rfl : max = none := by cases max with | none => rfl | some x => have := hmx.1; simp at this
    have hsz : s.data.toList.length = s.size := Array.length_toList (xs := s.data)
    rw [hsz] at h1
    obtain ⟨m', r1, _⟩ := cutIx_run (P := P) (w := w) (isS := false) h1 hlo hhi (mx := []) (max := none) (.nil φ) (Nat.le_refl _) (Nat.le_refl _)
    refine ⟨.string (s.extract o hh), ?_, ?_⟩
    · unfold Instr.sliceAt Instr.slice
      simp [hr, r1]
    · have : mkStr ((s.data.toList.take hh).drop o) = .string (s.extract o hh) := by
        unfold mkStr
        congr 1
        apply ByteArray.ext
        apply Array.ext'
        simp [List.drop_take]
      rw [this]
      exact .string _
  · rename_i el
    rw [sliceAt_eq hU]
    unfold pSlice2 at e1
    split at e1
    · obtain ⟨⟨o, hh, m⟩, h1, e2⟩ := Rs.bind_ok e1
      obtain ⟨s, h2, e3⟩ := Rs.bind_ok e2
      cases e3
      cases ha
      obtain ⟨m', r1, r2, r3, r4, r5⟩ := cutIx_run (P := P) (w := w) (isS := true) h1 hlo hhi hmx (Nat.le_refl _) (Nat.le_refl _)
      have hm0 : m' = 0 := by
        cases max with
        | none => exact (r2 rfl).1
        | some x => obtain ⟨a, b⟩ := r3 (by simp); omega
      refine ⟨_, sliceU hU r1 (szT_run h2 w), ?_⟩
      obtain rfl : hh = 0 := by omega
      obtain rfl : o = 0 := by omega
      subst hm0
      exact .nilSlice
    · rename_i A n c
      obtain ⟨s, h1, e2⟩ := Rs.bind_ok e1
      rcases ifb_ok e2 with ⟨hc, e3⟩ | ⟨hc, e3⟩
      · have hc' : c < open_ := by simpa using hc
        cases ha with
        | @slice b _ _ L o hL _ hn =>
          obtain ⟨o', hh, m, r1, r2⟩ := known_ok (P := P) (w := w) hL hc' e3 hlo hhi hmx hn true
          refine ⟨_, sliceU hU r1 (szT_run h1 w), ?_⟩
          simpa [add_none] using r2
        | room => exact absurd hc' (by simp)
        | full => exact absurd hc' (by simp)
      · have hc' : ¬ c < open_ := by
          intro hh
          have : c.blt open_ = true := by simpa using hh
          rw [this] at hc; cases hc
        unfold pSliceOpen at e3
        obtain ⟨cap, h2, e4⟩ := Rs.bind_ok e3
        obtain ⟨⟨o, hh, m⟩, h3, e5⟩ := Rs.bind_ok e4
        have hs := szT_run h1 w
        unfold openCap at h2
        split at h2 <;> first | (cases h2; done) | skip
        rename_i l ty s' fz hb
        obtain ⟨h4, h5⟩ := ifb_no h2
        obtain ⟨h6, h7⟩ := ifb_no h5
        have hss : s = s' := Nat.eq_of_beq_eq_true h4
        subst hss
        have hs0 : 0 < s := by simpa using h6
        have hcap : cap = (l.length - A.off) / s := by cases h7; rfl
        clear h2 h5 h6 h7 h4
        cases ha with
        | slice o' hL hcc hn => exact absurd hcc hc'
        | @room b _ c' j L hL hs' hjc hn =>
          obtain ⟨cs, fr, hw, _, _, _, hop⟩ := hm.cellsAt hb hL
          obtain ⟨rfl, _, hsz, hll, _⟩ := hop rfl
          simp only at hcap
          have hle : cap ≤ c' := by
            rw [hcap]
            refine Nat.le_trans (Nat.div_le_div_right (c := L.s) (show l.length - j * L.s ≤ c' * L.s from ?_)) (Nat.le_of_eq (Nat.mul_div_cancel c' hs0))
            rw [← hjc, Nat.add_mul] at hll
            omega
          obtain ⟨m', r1, r2, r3, r4, r5⟩ := cutIx_run (P := P) (w := w) (isS := true) h3 hlo hhi hmx hn hle
          refine ⟨_, sliceU hU r1 hs, ?_⟩
          split at e5
          · obtain rfl : max = none := by cases max with | none => rfl | some x => have := hmx.1; simp at this
            obtain ⟨rfl, _, _⟩ := r2 rfl
            obtain ⟨_, rfl⟩ := sliceV_ok e5
            simp only
            by_cases hmo : m' = o
            · rw [if_pos hmo]
              obtain rfl : hh = o := by omega
              subst hmo
              simp only [Nat.sub_self]
              exact .full _ hL (by rw [← hjc, Nat.add_mul])
            · rw [if_neg hmo]
              simp only [Option.map_some, add_none]
              rw [← Nat.add_mul, Nat.add_assoc, ← Nat.add_mul]
              exact .room hL hs0 (by omega) (by omega)
          · rename_i hne
            obtain ⟨e6, e7⟩ := ifb_no e5
            simp only [Bool.and_eq_true] at e6
            have hmo2 : m < open_ := by simpa using e6.2
            have hmax : max ≠ none := by
              intro hx; subst hx
              exact hne (List.length_eq_zero_iff.1 hmx.1)
            obtain ⟨rfl, _⟩ := r3 hmax
            rcases ifb_ok e7 with ⟨e8, e9⟩ | ⟨e8, e9⟩
            · cases e9
              have : m' = o := Nat.eq_of_beq_eq_true e8
              rw [if_pos this]
              exact .slice _ hL (by simp only at hmo2 ⊢; omega) (by simp only; omega)
            · obtain ⟨_, rfl⟩ := sliceV_ok e9
              have : m' ≠ o := Nat.ne_of_beq_eq_false e8
              rw [if_neg this]
              simp only [Option.map_some, add_none]
              rw [Nat.add_assoc]
              exact .slice _ hL (by omega) (by omega)
        | @full b o' L a' hL ho =>
          obtain ⟨cs, fr, hw, _, _, _, hop⟩ := hm.cellsAt hb hL
          obtain ⟨rfl, _, hsz, hll, _⟩ := hop rfl
          simp only at hcap
          have h0 : cap = 0 := by
            rw [hcap, ho, show l.length - L.cap * L.s = 0 by omega]
            exact Nat.zero_div _
          subst h0
          obtain ⟨m', r1, r2, r3, r4, r5⟩ := cutIx_run (P := P) (w := w) (isS := true) h3 hlo hhi hmx (Nat.le_refl 0) (Nat.le_refl 0)
          refine ⟨_, sliceU hU r1 hs, ?_⟩
          split at e5
          · obtain rfl : max = none := by cases max with | none => rfl | some x => have := hmx.1; simp at this
            obtain ⟨rfl, _, _⟩ := r2 rfl
            obtain ⟨_, rfl⟩ := sliceV_ok e5
            obtain rfl : hh = 0 := by omega
            obtain rfl : o = 0 := by omega
            simp only [Nat.zero_mul, Nat.add_zero, Nat.sub_self]
            exact .full _ hL ho
          · obtain ⟨e6, _⟩ := ifb_no e5
            simp at e6
    · cases e1
  · rename_i n el
    split at e1 <;> first | (cases e1; done) | skip
    rename_i A
    obtain ⟨s, h1, e2⟩ := Rs.bind_ok e1
    cases ha with
    | @ptr b L o hL =>
      obtain ⟨h2, e3⟩ := ifb_no e2
      have hn : n < open_ := by simpa using h2
      obtain ⟨o', hh, m, r1, r2⟩ := known_ok (P := P) (w := w) hL hn e3 hlo hhi hmx (Nat.le_refl _) false
      refine ⟨_, ?_, r2⟩
      unfold Instr.sliceAt
      simp only [Sem.run_bind, hr, Result.andThen_ok, Instr.sureAddr, Sem.run_pure, r1, szT_run h1 w, add_none]
      split <;> rfl
  · cases e1
end
end Go.Proofs.YtihplijjkcdcjaaGreatDoor.Abs

/-
  Keys, conversions, what is built; all operations that change nothing.
-/
namespace Go.Proofs.YtihplijjkcdcjaaGreatDoor.Abs

section
variable {P : Program} {φ : Phi} {h : Tr AObj} {w : World}

theorem findNow_int (q : IntKind) {hh : Tr AObj} {kt : TypeId} {kk : IntKind} {x : Int} : ∀ {es : List MapEntry} {fs : List MapEntry} {i : Nat} {r : Option (Nat × Value)},
    findR P hh kt (.int kk x) es i = .ok r → es.length = fs.length → (∀ (j : Nat) (e f : MapEntry), es[j]? = some e → fs[j]? = some f → ERel φ e f) →
    ∃ r', Instr.findNow (.int q) (.int kk x) fs i = some r' ∧ ((r = none ∧ r' = none) ∨ ∃ j v v', r = some (j, v) ∧ r' = some (j, v') ∧ VRel φ v v')
  | [], [], i, r, e, _, _ => by cases e; exact ⟨none, rfl, .inl ⟨rfl, rfl⟩⟩
  | [], f :: fs, i, r, e, hl, _ => by simp at hl
  | a :: es, [], i, r, e, hl, _ => by simp at hl
  | a :: es, f :: fs, i, r, e, hl, hr => by
    have e' : (keyEq P hh kt (.int kk x) a.key).bind (fun b => ifb b (.ok (some (i, a.val))) (findR P hh kt (.int kk x) es (i + 1))) = .ok r := e
    obtain ⟨b, h1, h2⟩ := Rs.bind_ok e'
    obtain ⟨k1, k2, _⟩ := hr 0 a f rfl rfl
    unfold keyEq at h1
    split at h1 <;> first | (cases h1; done) | skip
    · rename_i j y k z hj hk
      cases hj
      obtain ⟨h3, h4⟩ := ifb_no h1
      cases h4
      have hkk := kEq_eq h3
      subst hkk
      rw [hk] at k1
      have hf : f.key = .int kk z := by
        generalize f.key = fk at k1
        cases k1; rfl
      rw [iBeq_eq] at h2
      unfold Instr.findNow
      rw [hf]
      simp only [Instr.sameNow, if_true]
      cases hxy : x == z with
      | true =>
        rw [hxy] at h2
        cases h2
        exact ⟨_, rfl, .inr ⟨i, a.val, f.val, rfl, rfl, k2⟩⟩
      | false =>
        rw [hxy] at h2
        exact findNow_int q h2 (by simpa using hl) (fun j e f a b => hr (j + 1) e f (by simpa using a) (by simpa using b))
    · rename_i hj _; cases hj
    · rename_i hj _; cases hj
theorem findNow_str {hh : Tr AObj} {kt : TypeId} {x : ByteArray} : ∀ {es : List MapEntry} {fs : List MapEntry} {i : Nat} {r : Option (Nat × Value)},
    findR P hh kt (.string x) es i = .ok r → es.length = fs.length → (∀ (j : Nat) (e f : MapEntry), es[j]? = some e → fs[j]? = some f → ERel φ e f) →
    ∃ r', Instr.findNow .string (.string x) fs i = some r' ∧ ((r = none ∧ r' = none) ∨ ∃ j v v', r = some (j, v) ∧ r' = some (j, v') ∧ VRel φ v v')
  | [], [], i, r, e, _, _ => by cases e; exact ⟨none, rfl, .inl ⟨rfl, rfl⟩⟩
  | [], f :: fs, i, r, e, hl, _ => by simp at hl
  | a :: es, [], i, r, e, hl, _ => by simp at hl
  | a :: es, f :: fs, i, r, e, hl, hr => by
    have e' : (keyEq P hh kt (.string x) a.key).bind (fun b => ifb b (.ok (some (i, a.val))) (findR P hh kt (.string x) es (i + 1))) = .ok r := e
    obtain ⟨b, h1, h2⟩ := Rs.bind_ok e'
    obtain ⟨k1, k2, _⟩ := hr 0 a f rfl rfl
    unfold keyEq at h1
    split at h1 <;> first | (cases h1; done) | skip
    · rename_i hj _; cases hj
    · rename_i y z hj hk
      cases hj
      cases h1
      rw [hk] at k1
      have hf : f.key = .string z := by
        generalize f.key = fk at k1
        cases k1; rfl
      rw [bEq_eq] at h2
      unfold Instr.findNow
      rw [hf]
      have hb : (x == z) = (x.data.toList == z.data.toList) := by rw [beq_toListBytes, Lib.toList_data, Lib.toList_data]
      simp only [Instr.sameNow, hb]
      cases hxy : x.data.toList == z.data.toList with
      | true =>
        rw [hxy] at h2
        cases h2
        exact ⟨_, rfl, .inr ⟨i, a.val, f.val, rfl, rfl, k2⟩⟩
      | false =>
        rw [hxy] at h2
        exact findNow_str h2 (by simpa using hl) (fun j e f a b => hr (j + 1) e f (by simpa using a) (by simpa using b))
    · rename_i hj _; cases hj
theorem findAsk (hm : HRel φ h w) {kt : TypeId} {xs xs' : Array Value} (hx : VRel φ (.agg xs) (.agg xs')) : ∀ {es : List MapEntry} {fs : List MapEntry} {i : Nat} {r : Option (Nat × Value)},
    findR P h kt (.agg xs) es i = .ok r → es.length = fs.length → (∀ (j : Nat) (e f : MapEntry), es[j]? = some e → fs[j]? = some f → ERel φ e f) →
    ∃ r', (Instr.findAsking kt (.agg xs') fs i).run P w = .ok r' w ∧ ((r = none ∧ r' = none) ∨ ∃ j v v', r = some (j, v) ∧ r' = some (j, v') ∧ VRel φ v v')
  | [], [], i, r, e, _, _ => by cases e; exact ⟨none, rfl, .inl ⟨rfl, rfl⟩⟩
  | [], f :: fs, i, r, e, hl, _ => by simp at hl
  | a :: es, [], i, r, e, hl, _ => by simp at hl
  | a :: es, f :: fs, i, r, e, hl, hr => by
    have e' : (keyEq P h kt (.agg xs) a.key).bind (fun b => ifb b (.ok (some (i, a.val))) (findR P h kt (.agg xs) es (i + 1))) = .ok r := e
    obtain ⟨b, h1, h2⟩ := Rs.bind_ok e'
    obtain ⟨k1, k2, _⟩ := hr 0 a f rfl rfl
    unfold keyEq at h1
    split at h1 <;> first | (cases h1; done) | skip
    · rename_i hj _; cases hj
    · rename_i hj _; cases hj
    · rename_i y z hj hk
      cases hj
      rw [hk] at k1
      have hq : (Op.equal kt (.agg xs') f.key).run P w = .ok b w := aEq_ok (P := P) hm 40 (n := 10000) kt _ _ _ _ b (by decide) h1 hx k1
      unfold Instr.findAsking
      simp only [Sem.run_bind, hq, Result.andThen_ok]
      cases b with
      | true =>
        cases h2
        exact ⟨_, rfl, .inr ⟨i, a.val, f.val, rfl, rfl, k2⟩⟩
      | false =>
        exact findAsk hm hx h2 (by simpa using hl) (fun j e f a b => hr (j + 1) e f (by simpa using a) (by simpa using b))

/-- what is looked up by a key -/
theorem findR_ok (hm : HRel φ h w) {kt : TypeId} {k k' : Value} {es : List MapEntry} {fs : List MapEntry} {r : Option (Nat × Value)} (hk : keyOk P kt k = true) (hv : VRel φ k k') (e : findR P h kt k es 0 = .ok r)
    (hl : es.length = fs.length) (hr : ∀ (j : Nat) (e f : MapEntry), es[j]? = some e → fs[j]? = some f → ERel φ e f) :
    ∃ r', (Instr.findKey kt k' fs).run P w = .ok r' w ∧ ((r = none ∧ r' = none) ∨ ∃ j v v', r = some (j, v) ∧ r' = some (j, v') ∧ VRel φ v v') := by
  unfold keyOk at hk
  unfold Instr.findKey
  split at hk
  · split at hk <;> first | (cases hk; done) | skip
    rename_i q hu
    cases hv
    obtain ⟨r', h1, h2⟩ := findNow_int (φ := φ) q e hl hr
    exact ⟨r', by simp [run_underlying hu, h1], h2⟩
  · split at hk <;> first | (cases hk; done) | skip
    rename_i hu
    cases hv
    obtain ⟨r', h1, h2⟩ := findNow_str (φ := φ) e hl hr
    exact ⟨r', by simp [run_underlying hu, h1], h2⟩
  · split at hk <;> first | (cases hk; done) | skip
    rename_i fds hu
    cases hv with
    | @agg _ xs' a1 a2 =>
      obtain ⟨r', h1, h2⟩ := findAsk hm (.agg a1 a2) e hl hr
      refine ⟨r', ?_, h2⟩
      simp only [Sem.run_bind, run_underlying hu, Result.andThen_ok]
      cases fs with
      | nil => exact h1
      | cons f fs =>
        have : Instr.findNow (.struct fds) (.agg xs') (f :: fs) 0 = none := by
          unfold Instr.findNow
          cases f.key <;> rfl
        rw [this]
        exact h1
  · cases hk

theorem checkKey_plain {b : Bool} {n : Nat} {t : TypeId} {v : Value} {u : TypeDesc} (hu : P.underlying t = some u) (hp : plainT (some u) = true) : (Instr.checkKey b (n + 1) t v).run P w = .ok () w := by
  unfold Instr.checkKey
  rw [Sem.run_bind, run_underlying hu]
  simp only [Result.andThen_ok]
  cases u <;> first | (cases hp; done) | rfl

theorem checkFields {b : Bool} {n : Nat} {cs cs' : List Value} (hc : LRel φ cs cs') : ∀ {fs : List Field}, fs.all (fieldOk P cs) = true →
    (forIn fs PUnit.unit (fun f _ => if f.name ≠ "_" then (do Instr.checkKey b (n + 1) f.type (← Go.part f.type ⟨cs'⟩ f.offset); pure (.yield PUnit.unit)) else pure (.yield PUnit.unit)) : Sem PUnit).run P w = .ok PUnit.unit w
  | [], _ => rfl
  | f :: fs, h => by
    simp only [List.all_cons, Bool.and_eq_true] at h
    obtain ⟨h1, h2⟩ := h
    unfold fieldOk at h1
    simp only [Bool.and_eq_true] at h1
    obtain ⟨⟨h3, h4⟩, h5⟩ := h1
    have hn : f.name ≠ "_" := by simpa using h3
    split at h5 <;> first | (cases h5; done) | skip
    rename_i v hv
    rw [nth_eq] at hv
    obtain ⟨v', hv', _⟩ := hc.get hv
    obtain ⟨u, hu⟩ : ∃ u, P.underlying f.type = some u := by
      cases hh : P.underlying f.type with
      | none => rw [hh] at h4; cases h4
      | some u => exact ⟨u, rfl⟩
    rw [hu] at h4
    have hg : (isAgg f.type).run P w = .ok false w := by
      unfold isAgg
      rw [Sem.run_bind, run_underlying hu]
      simp only [Result.andThen_ok]
      cases u <;> first | (cases h4; done) | rfl
    have hp : (Go.part f.type ⟨cs'⟩ f.offset).run P w = .ok v' w := by
      unfold Go.part
      have : (⟨cs'⟩ : Array Value)[f.offset]? = some v' := by simpa using hv'
      simp [hg, this]
    simp only [List.forIn_cons, Sem.run_bind, hn, ne_eq, not_false_eq_true, if_true, hp, Result.andThen_ok, checkKey_plain hu h4, Sem.run_pure]
    exact checkFields hc h2
theorem checkKey_ok {b : Bool} {kt : TypeId} {k k' : Value} (hk : keyOk P kt k = true) (hv : VRel φ k k') : (Instr.checkKey b 10000 kt k').run P w = .ok () w := by
  unfold keyOk at hk
  split at hk
  · split at hk <;> first | (cases hk; done) | skip
    rename_i hu
    exact checkKey_plain hu rfl
  · split at hk <;> first | (cases hk; done) | skip
    rename_i hu
    exact checkKey_plain hu rfl
  · split at hk <;> first | (cases hk; done) | skip
    rename_i fds hu
    cases hv with
    | @agg _ xs' a1 a2 =>
      have := checkFields (P := P) (w := w) (b := b) (n := 9998) (LRel.of_arr a1 a2) hk
      unfold Instr.checkKey
      simp only [Sem.run_bind, run_underlying hu, Result.andThen_ok]
      rw [← Array.forIn_toList]
      refine (congrArg (Result.andThen · _) this).trans ?_
      rfl
  · cases hk

theorem mapOf_ok (hm : HRel φ h w) {m m' : Value} {es : List MapEntry} (e : mapOf h m = .ok es) (hv : VRel φ m m') :
    (m = .map none ∧ m' = .map none ∧ es = []) ∨ ∃ r L fs clock, m = .map (some r) ∧ m' = .map (some L.blk) ∧ φ r = some L ∧ w.heap[L.blk]? = some (.map fs clock) ∧ es.length = fs.toList.length ∧
      ∀ (j : Nat) (e f : MapEntry), es[j]? = some e → fs.toList[j]? = some f → ERel φ e f := by
  unfold mapOf at e
  split at e
  · cases e; cases hv; exact .inl ⟨rfl, rfl, rfl⟩
  · split at e <;> first | (cases e; done) | skip
    rename_i hb
    cases e
    cases hv with
    | map hL =>
      obtain ⟨o, h1, h2⟩ := hm.objAt hb hL
      cases h2 with
      | map k1 k2 => exact .inr ⟨_, _, _, _, rfl, rfl, hL, h1, by simpa using k1, fun j e f a b => k2 j e f a (by simpa using b)⟩
  · cases e

theorem pLookup_ok (hm : HRel φ h w) {t : TypeId} {ok : Bool} {m m' k k' v : Value} (e : pLookup P h t ok m k = .ok v) (hmv : VRel φ m m') (hk : VRel φ k k') : ∃ v', (Instr.lookup t m' k' ok).run P w = .ok v' w ∧ VRel φ v v' := by
  unfold pLookup at e
  obtain ⟨u, hu, e1⟩ := Rs.bind_ok e
  have hr := undT_run hu w
  split at e1 <;> first | (cases e1; done) | skip
  rename_i kt el
  obtain ⟨es, h1, e2⟩ := Rs.bind_ok e1
  obtain ⟨h2, e3⟩ := ifb_no e2
  obtain ⟨r, h3, e4⟩ := Rs.bind_ok e3
  have fin : ∀ (fs : List MapEntry), (es.length = fs.length) → (∀ (j : Nat) (e f : MapEntry), es[j]? = some e → fs[j]? = some f → ERel φ e f) →
      (∃ z, (Instr.findKey kt k' fs).run P w = .ok none w ∧ (zeroValue el).run P w = .ok z w ∧ VRel φ v (if ok = true then .tuple #[z, .bool false] else z)) ∨
      (∃ j x, (Instr.findKey kt k' fs).run P w = .ok (some (j, x)) w ∧ VRel φ v (if ok = true then .tuple #[x, .bool true] else x)) := by
    intro fs hl hrr
    obtain ⟨r', f1, f2⟩ := findR_ok (P := P) hm h2 hk h3 hl hrr
    rcases f2 with ⟨rfl, rfl⟩ | ⟨j, x, x', rfl, rfl, hx⟩
    · simp only at e4
      obtain ⟨z, h5, e5⟩ := Rs.bind_ok e4
      cases e5
      obtain ⟨z1, z2⟩ := zeroT_ok h5
      refine .inl ⟨z, f1, z1 w, ?_⟩
      cases ok
      · exact z2.rel φ
      · exact (Flat.tuple (xs := #[z, .bool false]) fun i v a => by
          match i with
          | 0 => simp at a; subst a; exact z2
          | 1 => simp at a; subst a; exact .bool _
          | n + 2 => simp at a).rel φ
    · simp only at e4
      cases e4
      refine .inr ⟨j, x', f1, ?_⟩
      cases ok
      · exact hx
      · exact .tuple rfl fun i y y' a b => by
          match i with
          | 0 => simp at a b; subst a b; exact hx
          | 1 => simp at a b; subst a b; exact .bool _
          | n + 2 => simp at a
  unfold Instr.lookup
  rcases mapOf_ok hm h1 hmv with ⟨rfl, rfl, rfl⟩ | ⟨q, L, fs, clock, rfl, rfl, hL, hw, hl, hrr⟩
  · rcases fin [] rfl (fun j e f a => by simp at a) with ⟨z, f1, f2, f3⟩ | ⟨j, x, f1, f2⟩
    · exact ⟨_, by simp [hr, checkKey_ok h2 hk, f1, f2], f3⟩
    · exact ⟨_, by simp [hr, checkKey_ok h2 hk, f1], f2⟩
  · have hg : (getObj L.blk).run P w = .ok (.map fs clock) w := by simp [getObj, Sem.run, hw]
    rcases fin fs.toList hl hrr with ⟨z, f1, f2, f3⟩ | ⟨j, x, f1, f2⟩
    · exact ⟨_, by simp [hr, checkKey_ok h2 hk, hg, f1, f2], f3⟩
    · exact ⟨_, by simp [hr, checkKey_ok h2 hk, hg, f1], f2⟩
end
end Go.Proofs.YtihplijjkcdcjaaGreatDoor.Abs

/-
  All operations that change nothing: what the evaluator says is what the model does.
-/
namespace Go.Proofs.YtihplijjkcdcjaaGreatDoor.Abs

section
variable {P : Program} {φ : Phi} {h : Tr AObj} {w : World}

theorem foldl_push (f : Int → UInt8) : ∀ (ns : List Int) (s : ByteArray), ns.foldl (fun r n => r.push (f n)) s = ⟨⟨s.data.toList ++ ns.map f⟩⟩
  | [], s => by simp
  | n :: ns, s => by
    rw [List.foldl_cons, foldl_push f ns]
    congr 2
    simp [ByteArray.push]
theorem cells_ints : ∀ {cs cs' : List Value} {bs : List UInt8}, cellBytes cs = some bs → LRel φ cs cs' → ∃ ns : List Int, cs' = ns.map (Value.int .u8) ∧ bs = ns.map fun n => UInt8.ofNat n.toNat
  | [], cs', bs, e, h => by
    cases e
    have : cs' = [] := List.length_eq_zero_iff.1 h.1.symm
    exact ⟨[], by simp [this], rfl⟩
  | x :: cs, [], bs, e, h => by have := h.1; simp at this
  | x :: cs, y :: cs', bs, e, h => by
    unfold cellBytes at e
    split at e
    · cases ‹x :: cs = []›
    · rename_i n l' hh
      obtain ⟨rfl, rfl⟩ := by simpa using hh
      cases hc : cellBytes cs with
      | none => rw [hc] at e; cases e
      | some ds =>
        rw [hc] at e
        obtain rfl : UInt8.ofNat n.toNat :: ds = bs := Option.some.inj e
        have hy : VRel φ (.int .u8 n) y := h.2 0 _ y rfl rfl
        have hr : LRel φ cs cs' := ⟨by simpa using h.1, fun i v v' a b => h.2 (i + 1) v v' (by simpa using a) (by simpa using b)⟩
        obtain ⟨ns, rfl, rfl⟩ := cells_ints hc hr
        cases hy
        exact ⟨n :: ns, rfl, rfl⟩
    · cases e

theorem pConv_ok (hm : HRel φ h w) {s d : TypeId} {a a' v : Value} (e : pConv P h s d a = .ok v) (ha : VRel φ a a') : ∃ v', (convert s d a').run P w = .ok v' w ∧ VRel φ v v' := by
  unfold pConv at e
  obtain ⟨us, hs, e1⟩ := Rs.bind_ok e
  obtain ⟨u, hd, e2⟩ := Rs.bind_ok e1
  have rs := undT_run hs w
  have rd := undT_run hd w
  have Us := undT_ok hs
  have Ud := undT_ok hd
  split at e2
  · unfold pConvI at e2
    split at e2 <;> first | (cases e2; done) | skip
    cases e2
    cases ha
    refine ⟨_, ?_, .int _ _⟩
    unfold convert
    simp [rs, rd, Conv.intToInt]
  · unfold pConvS at e2
    split at e2
    · cases e2
      cases ha
      refine ⟨_, ?_, .string _⟩
      unfold convert
      simp [rs, rd]
    · rename_i p n c
      split at e2 <;> first | (cases e2; done) | skip
      rename_i el
      obtain ⟨ue, he, e3⟩ := Rs.bind_ok e2
      split at e3 <;> first | (cases e3; done) | skip
      have Ue := undT_ok he
      split at e3
      · cases e3
        cases ha
        refine ⟨_, ?_, .string _⟩
        rw [run_convert_bytes_string w s d el _ _ _ Us Ue Ud]
        rfl
      · rename_i b o
        obtain ⟨l, e3, hat⟩ : ∃ l, (Rs.of 42 ((cutN l o n).bind cellBytes)).bind (fun bs => Rs.ok (mkStr bs)) = .ok v ∧ ∀ L : Loc, φ b = some L → ∃ c e' fr, w.heap[L.blk]? = some (.cells c e' fr) ∧ CellsAt φ L l c := by
          split at e3 <;> first | (cases e3; done) | skip
          · rename_i l _ _ _ _ hb
            exact ⟨l, e3, fun L hL => by obtain ⟨cc, fr, k1, k2, _⟩ := hm.cellsAt hb hL; exact ⟨_, _, _, k1, k2⟩⟩
          · rename_i l _ hb
            exact ⟨l, e3, fun L hL => constAt hm hb hL⟩
        obtain ⟨bs, h1, e4⟩ := Rs.bind_ok e3
        cases e4
        have h1 := Rs.of_ok h1
        obtain ⟨cs, h2, h3⟩ : ∃ cs, cutN l o n = some cs ∧ cellBytes cs = some bs := by
          cases hc : cutN l o n with
          | none => rw [hc] at h1; cases h1
          | some cs => rw [hc] at h1; exact ⟨cs, rfl, h1⟩
        have fin : ∀ (L : Loc) (c : Nat), φ b = some L → ∃ v', (Conv.bytesToString (.slice (some ⟨L.blk, L.base + o, none⟩) n c)).run P w = .ok v' w ∧ VRel φ (mkStr bs) v' := by
          intro L c hL
          obtain ⟨cc, e', fr, k1, k2⟩ := hat L hL
          obtain ⟨cs', r1, r2⟩ := load_many (P := P) (w := w) rfl rfl k1 k2 h2
          obtain ⟨ns, rfl, rfl⟩ := cells_ints h3 r2
          have := run_bytesToString (P := P) w ⟨L.blk, L.base + o, none⟩ n c ns (by rw [r1])
          rw [foldl_push] at this
          refine ⟨_, this, ?_⟩
          have e0 : (ByteArray.empty.data.toList ++ ns.map fun n => UInt8.ofNat n.toNat) = ns.map fun n => UInt8.ofNat n.toNat := rfl
          rw [e0]
          exact .string _
        cases ha with
        | slice _ hL _ _ =>
          obtain ⟨v', f1, f2⟩ := fin _ c hL
          exact ⟨v', by rw [run_convert_bytes_string w s d el _ _ _ Us Ue Ud]; exact f1, f2⟩
        | room hL _ _ _ =>
          obtain ⟨v', f1, f2⟩ := fin _ _ hL
          exact ⟨v', by rw [run_convert_bytes_string w s d el _ _ _ Us Ue Ud]; exact f1, f2⟩
        | full a' hL ho =>
          obtain ⟨_, hcs⟩ := cutN_some h2
          have : bs = [] := by
            rw [hcs] at h3
            simp only [List.take_zero] at h3
            cases h3; rfl
          subst this
          refine ⟨.string ByteArray.empty, ?_, .string _⟩
          rw [run_convert_bytes_string w s d el _ _ _ Us Ue Ud]
          have := run_bytesToString (P := P) w a' 0 0 [] rfl
          exact this
      · cases e3
    · cases e2
  · split at e2 <;> first | (cases e2; done) | skip
    rename_i t
    unfold pToUnsafe at e2
    split at e2 <;> first | (cases e2; done) | skip
    · cases e2
      cases ha
      refine ⟨_, ?_, .nilPtr⟩
      unfold convert
      simp [rs, rd, Conv.unsafePointer]
    · rename_i b o
      split at e2 <;> first | (cases e2; done) | skip
      rename_i l _ _ _ _ hb
      obtain ⟨z, h1, e3⟩ := Rs.bind_ok e2
      obtain ⟨h2, e4⟩ := ifb_no' e3
      obtain ⟨h3, e5⟩ := ifb_no e4
      cases e5
      have hz : z ≠ 0 := by intro hh; subst hh; simp at h2
      have ho : o < l.length := by rw [lenN_eq] at h3; simpa using h3
      have ha0 := ha
      cases ha with
      | @ptr _ L _ hL =>
        obtain ⟨c, fr, k1, k2, _⟩ := hm.cellsAt hb hL
        obtain ⟨v', k3, _⟩ := k2 o _ (List.getElem?_eq_getElem ho)
        have hlt : L.base + o < c.size := (Array.getElem?_eq_some_iff.1 k3).1
        refine ⟨_, ?_, ha0⟩
        unfold convert
        have hsh := shape_of k1
        clear e e1 e2 e3 e4
        simp [rs, rd, Conv.unsafePointer, Conv.seenAt, viewAt, hsh, cellsIn, szT_run h1 w, hz, hlt]
        exact fun hh => absurd hh (by omega)
  · rename_i t
    split at e2 <;> first | (cases e2; done) | skip
    unfold pFromUnsafe at e2
    split at e2 <;> first | (cases e2; done) | skip
    · cases e2
      cases ha
      refine ⟨_, ?_, .nilPtr⟩
      unfold convert
      simp [rs, rd, Conv.unsafePointer]
    · rename_i b o
      split at e2 <;> first | (cases e2; done) | skip
      rename_i l ty _ _ hb
      obtain ⟨z, hz, e3⟩ := Rs.bind_ok e2
      obtain ⟨h1, e4⟩ := ifb_no e3
      cases e4
      have ha0 := ha
      cases ha with
      | @ptr _ L _ hL =>
        obtain ⟨c, fr, k1, k2, _, k4, _⟩ := hm.cellsAt hb hL
        obtain ⟨k5, k6⟩ := k4 rfl
        have hsh := shape_of k1
        rw [lenN_eq, ← k6] at h1
        refine ⟨_, ?_, ha0⟩
        unfold convert
        have hv : (variablesAt ⟨L.blk, L.base + o, none⟩ t 1).run P w = .ok true w := by
          unfold variablesAt
          simp [hsh, k5, h1]
        simp [rs, rd, Conv.unsafePointer, Conv.seenAt, viewAt, hsh, szT_run hz w, hv]
  · cases e2

theorem pFunc_ok {fn : Fn} {f c : Array Operand} {ρ : Operand → Rs Value} {ρ' : Operand → Value} (hρ : ∀ x v, ρ x = .ok v → VRel φ v (ρ' x)) {v : Value} (hf : ∀ l, fn ≠ .yield l) (e : pFunc fn f c ρ = .ok v) :
    VRel φ v (.func fn (f.map ρ') (c.map ρ')) := by
  obtain ⟨xs, h1, e1⟩ := Rs.bind_ok e
  obtain ⟨ys, h2, e2⟩ := Rs.bind_ok e1
  cases e2
  have l1 := mapR_ok hρ h1
  have l2 := mapR_ok hρ h2
  have a1 : LRel φ (⟨xs⟩ : Array Value).toList (f.map ρ').toList := by simpa using l1
  have a2 : LRel φ (⟨ys⟩ : Array Value).toList (c.map ρ').toList := by simpa using l2
  refine .func ?_ a1.arr.1 a2.arr.1 a1.arr.2 a2.arr.2
  cases fn with
  | func f => exact .func f
  | method n => exact .method n
  | methodOf t n => exact .methodOf t n
  | via t p f b => exact .via t p f b
  | yield l => exact absurd rfl (hf l)

theorem pNilCheck_ok {o : Oper} {x : Operand} {ρ' : Operand → Value} {a v : Value} (ho : o.op = .nilCheck x) (e : pNilCheck a = .ok v) (ha : VRel φ a (ρ' x)) : ∃ v', (execOp ρ' o).run P w = .ok (.value v') w ∧ VRel φ v v' := by
  unfold execOp
  rw [ho]
  simp only
  generalize ρ' x = y at ha
  unfold pNilCheck at e
  split at e <;> first | (cases e; done) | skip
  · cases e
    cases ha with
    | ptr o hL => exact ⟨_, rfl, .ptr o hL⟩
  · cases e
    have ha0 := ha
    cases ha with
    | func hf h1 h2 h3 h4 => cases hf; exact ⟨_, rfl, ha0⟩
  · cases e
    have ha0 := ha
    cases ha with
    | func hf h1 h2 h3 h4 => cases hf; exact ⟨_, rfl, ha0⟩

theorem pArray_ok {t : TypeId} {a a' v : Value} (e : pArray P t a = .ok v) (ha : VRel φ a a') : ∃ v', (Instr.arrayAt t a').run P w = .ok v' w ∧ VRel φ v v' := by
  unfold pArray at e
  obtain ⟨u, hu, e1⟩ := Rs.bind_ok e
  have hr := undT_run hu w
  split at e1 <;> first | (cases e1; done) | skip
  rename_i n el p l c
  obtain ⟨h1, e2⟩ := ifb_no e1
  cases e2
  simp only [Bool.and_eq_true] at h1
  have hn : n ≤ l := by simpa using h1.2
  have hl : 0 < l := by simpa using h1.1
  unfold Instr.arrayAt
  cases ha with
  | nilSlice => omega
  | slice o hL _ _ => exact ⟨_, by simp [hr, Nat.not_lt.2 hn], .ptr _ hL⟩
  | room hL _ _ _ => exact ⟨_, by simp [hr, Nat.not_lt.2 hn], .ptr _ hL⟩
  | full a' hL ho => omega

theorem pMin_ok {a b a' b' v : Value} (e : pMin a b = .ok v) (ha : VRel φ a a') (hb : VRel φ b b') : (Builtin.min2 a' b').run P w = .ok v w ∧ VRel φ v v := by
  unfold pMin at e
  split at e <;> first | (cases e; done) | skip
  cases e; cases ha; cases hb
  exact ⟨rfl, .int _ _⟩
theorem pMax_ok {a b a' b' v : Value} (e : pMax a b = .ok v) (ha : VRel φ a a') (hb : VRel φ b b') : (Builtin.max2 a' b').run P w = .ok v w ∧ VRel φ v v := by
  unfold pMax at e
  split at e <;> first | (cases e; done) | skip
  cases e; cases ha; cases hb
  exact ⟨rfl, .int _ _⟩
end
end Go.Proofs.YtihplijjkcdcjaaGreatDoor.Abs

/-
  What is built of parts; the built-in functions; all operations that change nothing together.
-/
namespace Go.Proofs.YtihplijjkcdcjaaGreatDoor.Abs

section
variable {P : Program} {φ : Phi} {h : Tr AObj} {w : World}

theorem VRel.cells {v v' : Value} (hv : VRel φ v v') : LRel φ (cellsOf v) v'.cells.toList := by
  have one : ∀ {a b : Value}, VRel φ a b → LRel φ [a] [b] := fun hab => .cons hab (.nil φ)
  cases hv with
  | agg h1 h3 => exact LRel.of_arr h1 h3
  | bool b => exact one (.bool b)
  | int k n => exact one (.int k n)
  | float k n => exact one (.float k n)
  | complex k a b => exact one (.complex k a b)
  | string s => exact one (.string s)
  | nilPtr => exact one .nilPtr
  | ptr o e => exact one (.ptr o e)
  | nilSlice => exact one .nilSlice
  | slice o e hc hn => exact one (.slice o e hc hn)
  | room e hs hc hn => exact one (.room e hs hc hn)
  | full a e ho => exact one (.full a e ho)
  | nilMap => exact one .nilMap
  | map e => exact one (.map e)
  | nilFunc => exact one .nilFunc
  | nilIface => exact one .nilIface
  | iface t k => exact one (.iface t k)
  | func hf h1 h2 i3 i4 => exact one (.func hf h1 h2 i3 i4)
  | tuple h1 h3 => exact one (.tuple h1 h3)

theorem foldl_set (off : Nat) : ∀ (vs : List Value) (k : Nat) (cs : Array Value), off + k + vs.length ≤ cs.size →
    ((vs.zipIdx k).foldl (fun (cs : Array Value) (x : Value × Nat) => cs.setIfInBounds (off + x.2) x.1) cs).toList = cs.toList.take (off + k) ++ (vs ++ cs.toList.drop (off + k + vs.length))
  | [], k, cs, _ => by simp
  | v :: vs, k, cs, hl => by
    rw [List.zipIdx_cons, List.foldl_cons, foldl_set off vs (k + 1) _ (by simp at hl ⊢; omega)]
    simp only [List.length_cons] at hl
    have hk : off + k < cs.toList.length := by simp; omega
    have hset : cs.toList.set (off + k) v = cs.toList.take (off + k) ++ v :: cs.toList.drop (off + k + 1) := by rw [List.set_eq_take_append_cons_drop, if_pos hk]
    have ht : (cs.toList.take (off + k)).length = off + k := by simp; omega
    simp only [Array.toList_setIfInBounds, hset]
    generalize cs.toList.take (off + k) = A at *
    have e1 : off + (k + 1) = A.length + 1 := by omega
    have e2 : A.length + 1 + vs.length = A.length + (vs.length + 1) := by omega
    rw [e1, e2, List.take_length_add_append, List.drop_length_add_append]
    simp only [List.take_succ_cons, List.take_zero, List.drop_succ_cons, List.drop_drop, List.append_assoc, List.cons_append, List.nil_append, List.length_cons]
    congr 4
    omega

/-- pairs of a place and a value -/
def PRel (φ : Phi) (ps qs : List (Nat × Value)) : Prop := ps.length = qs.length ∧ ∀ (i : Nat) (p q : Nat × Value), ps[i]? = some p → qs[i]? = some q → p.1 = q.1 ∧ VRel φ p.2 q.2
theorem fill_ok {place : Nat → Option (Nat × Nat)} : ∀ {ps qs : List (Nat × Value)} {cs r : List Value} {ds : Array Value}, fillR place ps cs = .ok r → PRel φ ps qs → LRel φ cs ds.toList →
    ∃ rs, Instr.fill place ds qs = some rs ∧ LRel φ r rs.toList ∧ r.length = cs.length
  | [], [], cs, r, ds, e, _, hc => by cases e; exact ⟨ds, rfl, hc, rfl⟩
  | [], q :: qs, cs, r, ds, e, hp, hc => by have := hp.1; simp at this
  | p :: ps, [], cs, r, ds, e, hp, hc => by have := hp.1; simp at this
  | (i, v) :: ps, (j, v') :: qs, cs, r, ds, e, hp, hc => by
    obtain ⟨rfl, hv⟩ := hp.2 0 _ _ rfl rfl
    simp only at hv
    have hr : PRel φ ps qs := ⟨by simpa using hp.1, fun n p q a b => hp.2 (n + 1) p q (by simpa using a) (by simpa using b)⟩
    unfold fillR at e
    obtain ⟨⟨off, size⟩, h1, e1⟩ := Rs.bind_ok e
    have h1 := Rs.of_ok h1
    obtain ⟨h2, e2⟩ := ifb_no e1
    obtain ⟨cs2, h3, e3⟩ := Rs.bind_ok e2
    obtain ⟨h4, rfl⟩ := over_some (Rs.of_ok h3)
    have hcl := hv.cells
    have hsz : (cellsOf v).length = size := by
      have := Nat.eq_of_beq_eq_true h2
      simpa [lenN_eq] using this
    have hsz' : v'.cells.size = size := by rw [← hsz, hcl.1]; simp
    have hle : off + v'.cells.size ≤ ds.size := by
      have := hc.1
      simp at this
      rw [hsz', ← this, ← hsz]; exact h4
    have hfold := foldl_set off v'.cells.toList 0 ds (by simpa using hle)
    simp only [Nat.add_zero] at hfold
    have hlen : v'.cells.toList.length = (cellsOf v).length := hcl.1.symm
    have hnew : LRel φ (cs.take off ++ (cellsOf v ++ cs.drop (off + (cellsOf v).length))) ((v'.cells.zipIdx.foldl (fun (cs : Array Value) (x : Value × Nat) => cs.setIfInBounds (off + x.2) x.1) ds).toList) := by
      rw [← Array.foldl_toList, Array.toList_zipIdx, hfold, hlen]
      exact (hc.take off).append (hcl.append (hc.drop _))
    obtain ⟨rs, f1, f2, f3⟩ := fill_ok e3 hr hnew
    refine ⟨rs, ?_, f2, by rw [f3]; simp; omega⟩
    unfold Instr.fill
    rw [h1]
    simp only
    rw [if_neg (by simp [hsz']; omega)]
    exact f1
theorem places_ok (w : World) : ∀ {fs : List Field} {pl : List (Nat × Nat)}, placesOf P fs = .ok pl → (fs.mapM (fun f => do pure (f.offset, ← sizeOf f.type)) : Sem (List (Nat × Nat))).run P w = .ok pl w
  | [], pl, e => by cases e; rfl
  | f :: fs, pl, e => by
    unfold placesOf mapR at e
    obtain ⟨p, h1, e1⟩ := Rs.bind_ok e
    obtain ⟨ps, h2, e2⟩ := Rs.bind_ok e1
    obtain ⟨s, h3, e3⟩ := Rs.bind_ok h1
    cases e2
    cases e3
    have ih := places_ok w (fs := fs) h2
    rw [List.mapM_cons]
    simp only [Sem.run_bind, szT_run h3 w, Result.andThen_ok, Sem.run_pure, ih]

theorem aBuild_ok {t : TypeId} {ps qs : List (Nat × Value)} {v : Value} (e : aBuild P t ps = .ok v) (hp : PRel φ ps qs) : ∃ v', (Instr.build t ⟨qs⟩).run P w = .ok v' w ∧ VRel φ v v' := by
  unfold aBuild at e
  obtain ⟨z, h1, e1⟩ := Rs.bind_ok e
  obtain ⟨u, h2, e2⟩ := Rs.bind_ok e1
  obtain ⟨z1, z2⟩ := zeroT_ok h1
  have hz : LRel φ (cellsOf z) z.cells.toList := (z2.rel φ).cells
  have hr := undT_run h2 w
  split at e2
  · rename_i fs
    obtain ⟨pl, h3, e3⟩ := Rs.bind_ok e2
    obtain ⟨cs, h4, e4⟩ := Rs.bind_ok e3
    cases e4
    obtain ⟨rs, f1, f2, _⟩ := fill_ok h4 hp hz
    have hpl : (fs.mapM (fun f => do pure (f.offset, ← sizeOf f.type)) : Sem (Array (Nat × Nat))).run P w = .ok ⟨pl⟩ w := by
      rw [Array.mapM_eq_mapM_toList, Sem.run_map, places_ok w h3]
      rfl
    refine ⟨.agg rs, ?_, .agg (by simpa using f2.1) fun i v v' a b => f2.2 i v v' (by simpa using a) (by simpa using b)⟩
    unfold Instr.build
    have f1' : Instr.fill (fun (i : Nat) => (⟨pl⟩ : Array (Nat × Nat))[i]?) z.cells qs = some rs := by
      have : (fun (i : Nat) => (⟨pl⟩ : Array (Nat × Nat))[i]?) = fun (i : Nat) => pl[i]? := by funext i; simp
      rw [this]; exact f1
    simp only [Sem.run_bind, z1, Result.andThen_ok, hr, hpl, f1', Sem.run_pure]
  · rename_i n el
    obtain ⟨s, h3, e3⟩ := Rs.bind_ok e2
    obtain ⟨cs, h4, e4⟩ := Rs.bind_ok e3
    cases e4
    obtain ⟨rs, f1, f2, _⟩ := fill_ok h4 hp hz
    refine ⟨.agg rs, ?_, .agg (by simpa using f2.1) fun i v v' a b => f2.2 i v v' (by simpa using a) (by simpa using b)⟩
    unfold Instr.build
    simp only [Sem.run_bind, z1, Result.andThen_ok, hr, szT_run h3 w, f1, Sem.run_pure]
  · cases e2
theorem pairs_ok {ρ : Operand → Rs Value} {ρ' : Operand → Value} (hρ : ∀ x v, ρ x = .ok v → VRel φ v (ρ' x)) : ∀ {l : List (Nat × Operand)} {ps : List (Nat × Value)}, mapR (fun p : Nat × Operand => (ρ p.2).bind fun v => .ok (p.1, v)) l = .ok ps → PRel φ ps (l.map fun p => (p.1, ρ' p.2))
  | [], ps, e => by cases e; exact ⟨rfl, fun i p q a => by simp at a⟩
  | (i, x) :: l, ps, e => by
    unfold mapR at e
    obtain ⟨p, h1, e1⟩ := Rs.bind_ok e
    obtain ⟨qs, h2, e2⟩ := Rs.bind_ok e1
    obtain ⟨v, h3, e3⟩ := Rs.bind_ok h1
    cases e2
    cases e3
    have ih := pairs_ok hρ h2
    refine ⟨by simp [ih.1], fun n p q a b => ?_⟩
    cases n with
    | zero => simp at a b; subst a b; exact ⟨rfl, hρ _ _ h3⟩
    | succ n => exact ih.2 n p q (by simpa using a) (by simpa using b)
theorem pBuild_ok {ρ : Operand → Rs Value} {ρ' : Operand → Value} (hρ : ∀ x v, ρ x = .ok v → VRel φ v (ρ' x)) {t : TypeId} {parts : Array (Nat × Operand)} {v : Value} (e : pBuild P t parts ρ = .ok v) :
    ∃ v', (Instr.build t (parts.map fun (i, x) => (i, ρ' x))).run P w = .ok v' w ∧ VRel φ v v' := by
  obtain ⟨ps, h1, h2⟩ := Rs.bind_ok e
  have hp := pairs_ok hρ h1
  obtain ⟨v', r1, r2⟩ := aBuild_ok (P := P) (w := w) h2 hp
  refine ⟨v', ?_, r2⟩
  have : (parts.map fun (i, x) => (i, ρ' x)) = ⟨parts.toList.map fun p => (p.1, ρ' p.2)⟩ := by
    apply Array.ext'
    simp
  rw [this]
  exact r1

theorem pFold_ok {f : Value → Value → Rs Value} {g : Value → Value → Sem Value} (hf : ∀ a b a' b' v, f a b = .ok v → VRel φ a a' → VRel φ b b' → (g a' b').run P w = .ok v w ∧ VRel φ v v) :
    ∀ {l l' : List Value} {a a' v : Value}, pFold f l a = .ok v → VRel φ a a' → LRel φ l l' → ∃ v', (l'.foldlM g a').run P w = .ok v' w ∧ VRel φ v v'
  | [], [], a, a', v, e, ha, hl => by cases e; exact ⟨a', rfl, ha⟩
  | [], b :: l', a, a', v, e, ha, hl => by have := hl.1; simp at this
  | b :: l, [], a, a', v, e, ha, hl => by have := hl.1; simp at this
  | b :: l, b' :: l', a, a', v, e, ha, hl => by
    have e' : (f a b).bind (pFold f l) = .ok v := e
    obtain ⟨u, h1, h2⟩ := Rs.bind_ok e'
    obtain ⟨r1, r2⟩ := hf _ _ _ _ _ h1 ha (hl.2 0 b b' rfl rfl)
    obtain ⟨v', r3, r4⟩ := pFold_ok hf h2 r2 (l' := l') ⟨by simpa using hl.1, fun i x y p q => hl.2 (i + 1) x y (by simpa using p) (by simpa using q)⟩
    refine ⟨v', ?_, r4⟩
    rw [List.foldlM_cons, Sem.run_bind, r1]
    exact r3

theorem pLen_ok (hm : HRel φ h w) {u : TypeDesc} {ts : Array TypeId} {t ty : TypeId} {args : Array Value} {x x' v : Value} (ht : ts[0]? = some t) (hu : P.underlying t = some u) (hx' : args[0]? = some x') (e : pLen2 h u x = .ok v) (hx : VRel φ x x') :
    ∃ v', (Builtin.len_ ts ty args).run P w = .ok v' w ∧ VRel φ v v' := by
  have hr := run_underlying hu w
  unfold Builtin.len_
  rw [ht, hx']
  simp only [Sem.run_bind, hr, Result.andThen_ok]
  unfold pLen2 at e
  split at e
  · rename_i s
    split at e <;> first | (cases e; done) | skip
    cases e; cases hx
    have hsz : s.data.toList.length = s.size := Array.length_toList (xs := s.data)
    refine ⟨_, rfl, ?_⟩
    rw [hsz]
    exact .int _ _
  · split at e <;> first | (cases e; done) | skip
    cases e
    cases hx <;> exact ⟨_, rfl, .int _ _⟩
  · split at e <;> first | (cases e; done) | skip
    obtain ⟨es, h1, e1⟩ := Rs.bind_ok e
    cases e1
    rcases mapOf_ok hm h1 hx with ⟨h2, rfl, rfl⟩ | ⟨q, L, fs, clock, h2, rfl, hL, hw, hl, _⟩
    · exact ⟨_, rfl, .int _ _⟩
    · have hg : (getObj L.blk).run P w = .ok (.map fs clock) w := by simp [getObj, Sem.run, hw]
      refine ⟨goInt fs.size, by simp [hg], ?_⟩
      have : es.length = fs.size := by simpa using hl
      rw [this]
      exact .int _ _
  · split at e <;> first | (cases e; done) | skip
    cases e
    refine ⟨goInt _, ?_, .int _ _⟩
    split <;> simp_all
theorem pCap_ok {e : TypeId} {ts : Array TypeId} {t ty : TypeId} {args : Array Value} {x x' v : Value} (ht : ts[0]? = some t) (hu : P.underlying t = some (.slice e)) (hx' : args[0]? = some x') (h : pCap2 x = .ok v) (hx : VRel φ x x') :
    ∃ v', (Builtin.cap_ ts ty args).run P w = .ok v' w ∧ VRel φ v v' := by
  have hr := run_underlying hu w
  unfold Builtin.cap_
  rw [ht, hx']
  simp only [Sem.run_bind, hr, Result.andThen_ok]
  unfold pCap2 at h
  split at h <;> first | (cases h; done) | skip
  obtain ⟨h1, h2⟩ := ifb_no h
  cases h2
  cases hx with
  | nilSlice => exact ⟨_, rfl, .int _ _⟩
  | slice o hL hc hn => exact ⟨_, rfl, .int _ _⟩
  | room => exact absurd h1 (by decide)
  | full => exact absurd h1 (by decide)

theorem pBuiltin_ok (hm : HRel φ h w) {b : Builtin} {ts : Array TypeId} {ty : TypeId} {vs : List Value} {args : Array Value} {v : Value} (e : pBuiltin P h b ts vs = .ok v) (hl : LRel φ vs args.toList) :
    ∃ v', (∀ cs : Array Bool, (builtin b ts ty cs args).run P w = .ok (.value v') w) ∧ VRel φ v v' := by
  unfold pBuiltin at e
  split at e <;> first | (cases e; done) | skip
  rename_i x r
  obtain ⟨x', r', ha⟩ : ∃ x' r', args.toList = x' :: r' := by
    cases h : args.toList with
    | nil => rw [h] at hl; have := hl.1; simp at this
    | cons x' r' => exact ⟨x', r', rfl⟩
  rw [ha] at hl
  have hx : VRel φ x x' := hl.2 0 x x' rfl rfl
  have hr : LRel φ r r' := ⟨by simpa using hl.1, fun i a b p q => hl.2 (i + 1) a b (by simpa using p) (by simpa using q)⟩
  have hx0 : args[0]? = some x' := by
    have : args.toList[0]? = some x' := by rw [ha]; rfl
    simpa using this
  split at e
  · obtain ⟨v', r1, r2⟩ := pFold_ok (P := P) (w := w) (g := Builtin.min2) (fun _ _ _ _ _ a b c => pMin_ok a b c) e hx hr
    refine ⟨v', ?_, r2⟩
    have : (Builtin.min_ ts ty args).run P w = .ok v' w := by
      unfold Builtin.min_
      rw [ha]; exact r1
    exact fun cs => by simp [builtin, this]
  · obtain ⟨v', r1, r2⟩ := pFold_ok (P := P) (w := w) (g := Builtin.max2) (fun _ _ _ _ _ a b c => pMax_ok a b c) e hx hr
    refine ⟨v', ?_, r2⟩
    have : (Builtin.max_ ts ty args).run P w = .ok v' w := by
      unfold Builtin.max_
      rw [ha]; exact r1
    exact fun cs => by simp [builtin, this]
  · split at e <;> first | (cases e; done) | skip
    unfold pBuiltin1 at e
    obtain ⟨t, h1, e1⟩ := Rs.bind_ok e
    obtain ⟨u, h2, e2⟩ := Rs.bind_ok e1
    have h1 := Rs.of_ok h1
    split at e2
    · obtain ⟨v', r1, r2⟩ := pLen_ok (ty := ty) hm h1 (undT_ok h2) hx0 e2 hx
      exact ⟨v', fun cs => by simp [builtin, r1], r2⟩
    · split at e2 <;> first | (cases e2; done) | skip
      obtain ⟨v', r1, r2⟩ := pCap_ok (w := w) (ty := ty) h1 (undT_ok h2) hx0 e2 hx
      exact ⟨v', fun cs => by simp [builtin, r1], r2⟩
    · cases e2

theorem opt_rel {ρ : Operand → Rs Value} {ρ' : Operand → Value} (hρ : ∀ x v, ρ x = .ok v → VRel φ v (ρ' x)) {o : Option Operand} {l : List Value} (e : mapR ρ o.toList = .ok l) : LRel φ l (o.map ρ').toList := by
  have := mapR_ok hρ e
  cases o <;> exact this

/-- ALL OPERATIONS THAT CHANGE NOTHING. -/
theorem pOp_ok (hm : HRel φ h w) {o : Oper} {ρ : Operand → Rs Value} {ρ' : Operand → Value} (hρ : ∀ x v, ρ x = .ok v → VRel φ v (ρ' x)) {v : Value} (e : pOp P h o.op ρ = .ok v) :
    ∃ v', (execOp ρ' o).run P w = .ok (.value v') w ∧ VRel φ v v' := by
  obtain ⟨dst, op, type, pos, after, guard⟩ := o
  cases op <;> simp only [pOp] at e <;> first | (cases e; done) | skip
  case move x => exact ⟨_, rfl, hρ _ _ e⟩
  case assign x => exact ⟨_, rfl, hρ _ _ e⟩
  case pick c a b =>
    obtain ⟨u, h1, e1⟩ := Rs.bind_ok e
    have hc := hρ _ _ h1
    unfold pPick at e1
    split at e1 <;> first | (cases e1; done) | skip
    · have hz : ρ' c = .bool true := by generalize ρ' c = z at hc; cases hc; rfl
      exact ⟨_, by simp [execOp, hz, asBool], hρ _ _ e1⟩
    · have hz : ρ' c = .bool false := by generalize ρ' c = z at hc; cases hc; rfl
      exact ⟨_, by simp [execOp, hz, asBool], hρ _ _ e1⟩
  case binOp op t x y u =>
    obtain ⟨a, h1, e1⟩ := Rs.bind_ok e
    obtain ⟨b, h2, e2⟩ := Rs.bind_ok e1
    obtain ⟨v', r1, r2⟩ := aBin_ok (P := P) hm e2 (hρ _ _ h1) (hρ _ _ h2)
    exact ⟨v', run_v r1, r2⟩
  case unOp op t x =>
    obtain ⟨a, h1, e1⟩ := Rs.bind_ok e
    obtain ⟨v', r1, r2⟩ := aUn_ok (P := P) (w := w) e1 (hρ _ _ h1)
    exact ⟨v', run_v r1, r2⟩
  case convert s d x =>
    obtain ⟨a, h1, e1⟩ := Rs.bind_ok e
    obtain ⟨v', r1, r2⟩ := pConv_ok (P := P) hm e1 (hρ _ _ h1)
    exact ⟨v', run_v r1, r2⟩
  case sliceToArrayPointer t x =>
    obtain ⟨a, h1, e1⟩ := Rs.bind_ok e
    obtain ⟨v', r1, r2⟩ := pArray_ok (P := P) (w := w) e1 (hρ _ _ h1)
    exact ⟨v', run_v r1, r2⟩
  case makeInterface t x =>
    obtain ⟨a, h1, e1⟩ := Rs.bind_ok e
    obtain ⟨v', r1, r2⟩ := pIface_ok (P := P) (w := w) e1 (hρ _ _ h1)
    exact ⟨v', run_v r1, r2⟩
  case makeFunc fn f c =>
    obtain ⟨h1, e1⟩ := ifb_no e
    exact ⟨_, rfl, pFunc_ok hρ (fun l hl => by subst hl; cases h1) e1⟩
  case slice t x lo hi mx =>
    obtain ⟨a, h1, e1⟩ := Rs.bind_ok e
    obtain ⟨l1, h2, e2⟩ := Rs.bind_ok e1
    obtain ⟨l2, h3, e3⟩ := Rs.bind_ok e2
    obtain ⟨l3, h4, e4⟩ := Rs.bind_ok e3
    obtain ⟨v', r1, r2⟩ := pSlice_ok (P := P) hm e4 (hρ _ _ h1) (opt_rel hρ h2) (opt_rel hρ h3) (opt_rel hρ h4)
    exact ⟨v', run_v r1, r2⟩
  case fieldAddr t x f =>
    obtain ⟨a, h1, e1⟩ := Rs.bind_ok e
    obtain ⟨v', r1, r2⟩ := pFieldAddr_ok (P := P) (w := w) e1 (hρ _ _ h1)
    exact ⟨v', run_v r1, r2⟩
  case field t x f =>
    obtain ⟨a, h1, e1⟩ := Rs.bind_ok e
    obtain ⟨v', r1, r2⟩ := pField_ok (P := P) (w := w) e1 (hρ _ _ h1)
    exact ⟨v', run_v r1, r2⟩
  case indexAddr t x i =>
    obtain ⟨a, h1, e1⟩ := Rs.bind_ok e
    obtain ⟨b, h2, e2⟩ := Rs.bind_ok e1
    obtain ⟨v', r1, r2⟩ := pIndexAddr_ok (P := P) (w := w) e2 (hρ _ _ h1) (hρ _ _ h2)
    exact ⟨v', run_v r1, r2⟩
  case index t x i =>
    obtain ⟨a, h1, e1⟩ := Rs.bind_ok e
    obtain ⟨b, h2, e2⟩ := Rs.bind_ok e1
    obtain ⟨v', r1, r2⟩ := pIndex_ok (P := P) (w := w) e2 (hρ _ _ h1) (hρ _ _ h2)
    exact ⟨v', run_v r1, r2⟩
  case lookup t m k ok =>
    obtain ⟨a, h1, e1⟩ := Rs.bind_ok e
    obtain ⟨b, h2, e2⟩ := Rs.bind_ok e1
    obtain ⟨v', r1, r2⟩ := pLookup_ok (P := P) hm e2 (hρ _ _ h1) (hρ _ _ h2)
    exact ⟨v', run_v r1, r2⟩
  case extract t i =>
    obtain ⟨a, h1, e1⟩ := Rs.bind_ok e
    obtain ⟨v', r1, r2⟩ := pExtract_ok (P := P) (w := w) e1 (hρ _ _ h1)
    exact ⟨v', run_v r1, r2⟩
  case nilCheck x =>
    obtain ⟨a, h1, e1⟩ := Rs.bind_ok e
    exact pNilCheck_ok rfl e1 (hρ _ _ h1)
  case build t parts =>
    obtain ⟨v', r1, r2⟩ := pBuild_ok (P := P) (w := w) hρ e
    exact ⟨v', run_v r1, r2⟩
  case typeAssert x xt t ok =>
    obtain ⟨a, h1, e1⟩ := Rs.bind_ok e
    obtain ⟨v', r1, r2⟩ := pAssert_ok (P := P) (w := w) e1 (hρ _ _ h1)
    exact ⟨v', run_v r1, r2⟩
  case load t x =>
    obtain ⟨a, h1, e1⟩ := Rs.bind_ok e
    obtain ⟨v', r1, r2⟩ := pLoad_ok (P := P) hm e1 (hρ _ _ h1)
    exact ⟨v', run_v r1, r2⟩
  case call c =>
    unfold pCall at e
    obtain ⟨callee, args, argTypes⟩ := c
    split at e <;> first | (cases e; done) | skip
    rename_i b hb
    simp only at hb
    subst hb
    obtain ⟨vs, h1, e1⟩ := Rs.bind_ok e
    have hl : LRel φ vs (args.map ρ').toList := by simpa using mapR_ok hρ h1
    obtain ⟨v', r1, r2⟩ := pBuiltin_ok (P := P) (ty := type) hm e1 hl
    refine ⟨v', ?_, r2⟩
    unfold execOp resolve invoke
    simp only [Sem.run_bind, Sem.run_pure, Result.andThen_ok]
    exact r1 _
end
end Go.Proofs.YtihplijjkcdcjaaGreatDoor.Abs

