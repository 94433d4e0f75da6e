/-
  The evaluator's whole numbers are the model's.
-/
import Derived.Test.YtbakhdgiimjnkaaGreatDoorAbsPlain
namespace Go.Proofs.YtbakhdgiimjnkaaGreatDoor.Abs

theorem kEq_eq {a b : IntKind} (h : kEq a b = true) : a = b := by cases a <;> cases b <;> first | rfl | cases h
theorem kEq_self (a : IntKind) : kEq a a = true := by cases a <;> rfl
theorem kEq_ne {a b : IntKind} (h : kEq a b = false) : a ≠ b := by rintro rfl; rw [kEq_self] at h; cases h
theorem kMod_eq (k : IntKind) : kMod k = 2 ^ k.bits := by cases k <;> rfl
theorem kLim_le (k : IntKind) : kLim k ≤ kMod k := by cases k <;> decide
/-- how many bits a number has that is none below zero -/
def kB (k : IntKind) : Nat := if k.signed then k.bits - 1 else k.bits
theorem kLim_eq (k : IntKind) : kLim k = 2 ^ kB k := by cases k <;> rfl
theorem wrap_small (k : IntKind) (n : Nat) (h : n < kLim k) : k.wrap (Int.ofNat n) = Int.ofNat n := by
  cases k <;> simp [IntKind.wrap, IntKind.bits, IntKind.signed, kLim] at h ⊢ <;> omega
theorem wrapN_eq (k : IntKind) (n : Nat) : wrapN k n = k.wrap (Int.ofNat n) := by
  unfold wrapN
  rw [ifb_eq]
  split
  · rename_i h; exact (wrap_small k n (by simpa using h)).symm
  · rfl

theorem iAdd_eq (k : IntKind) (a b : Int) : iAdd k a b = k.wrap (a + b) := by
  cases a with
  | negSucc m => rfl
  | ofNat m =>
    cases b with
    | ofNat n => exact wrapN_eq k (m + n)
    | negSucc n =>
      have h : iAdd k (Int.ofNat m) (Int.negSucc n) = ifb (Nat.blt n m) (wrapN k (Nat.sub m (Nat.succ n))) (k.wrap (Int.ofNat m + Int.negSucc n)) := rfl
      rw [h, ifb_eq]
      split
      · rename_i hl
        have hl' : n < m := by simpa using hl
        rw [wrapN_eq]
        congr 1
        show ((m - (n + 1) : Nat) : Int) = (m : Int) + Int.negSucc n
        omega
      · rfl
theorem iSub_eq (k : IntKind) (a b : Int) : iSub k a b = k.wrap (a - b) := by
  cases a with
  | negSucc m => rfl
  | ofNat m =>
    cases b with
    | negSucc n => rfl
    | ofNat n =>
      have h : iSub k (Int.ofNat m) (Int.ofNat n) = ifb (Nat.ble n m) (wrapN k (Nat.sub m n)) (k.wrap (Int.ofNat m - Int.ofNat n)) := rfl
      rw [h, ifb_eq]
      split
      · rename_i hl
        have hl' : n ≤ m := by simpa using hl
        rw [wrapN_eq]
        congr 1
        show ((m - n : Nat) : Int) = (m : Int) - (n : Int)
        omega
      · rfl
theorem iMul_eq (k : IntKind) (a b : Int) : iMul k a b = k.wrap (a * b) := by
  cases a with
  | negSucc m => rfl
  | ofNat m =>
    cases b with
    | negSucc n => rfl
    | ofNat n => exact wrapN_eq k (m * n)
theorem iQuo_eq (k : IntKind) (a b : Int) : iQuo k a b = k.wrap (a.tdiv b) := by
  cases a with
  | negSucc m => rfl
  | ofNat m =>
    cases b with
    | negSucc n => rfl
    | ofNat n => exact wrapN_eq k (m / n)
theorem iRem_eq (a b : Int) : iRem a b = a.tmod b := by
  cases a with
  | negSucc m => rfl
  | ofNat m =>
    cases b with
    | negSucc n => rfl
    | ofNat n => rfl
theorem iBeq_eq (a b : Int) : iBeq a b = (a == b) := by
  rw [Bool.eq_iff_iff, beq_iff_eq]
  cases a <;> cases b
  · show Nat.beq _ _ = true ↔ _
    rw [Nat.beq_eq]; simp; omega
  · show false = true ↔ _
    simp
  · show false = true ↔ _
    simp
  · show Nat.beq _ _ = true ↔ _
    rw [Nat.beq_eq]; simp
theorem iBlt_eq (a b : Int) : iBlt a b = decide (a < b) := by
  rw [Bool.eq_iff_iff, decide_eq_true_iff]
  cases a <;> cases b
  · show Nat.blt _ _ = true ↔ _
    rw [Nat.blt_eq]; simp
  · show false = true ↔ _
    simp; omega
  · show true = true ↔ _
    simp; omega
  · show Nat.blt _ _ = true ↔ _
    rw [Nat.blt_eq]; omega
theorem iBle_eq (a b : Int) : iBle a b = decide (a ≤ b) := by
  rw [Bool.eq_iff_iff, decide_eq_true_iff]
  cases a <;> cases b
  · show Nat.ble _ _ = true ↔ _
    rw [Nat.ble_eq]; simp
  · show false = true ↔ _
    simp; omega
  · show true = true ↔ _
    simp; omega
  · show Nat.ble _ _ = true ↔ _
    rw [Nat.ble_eq]; omega
theorem ofInt_ofNat (w m : Nat) : BitVec.ofInt w (Int.ofNat m) = BitVec.ofNat w m := by
  apply BitVec.eq_of_toNat_eq
  simp
theorem iBit2_eq (op : BinOp) (f : Nat → Nat → Nat) (k : IntKind) (a b : Int)
    (h : ∀ m n, m < kLim k → n < kLim k → Int.ofNat (f m n) = iBits op k (Int.ofNat m) (Int.ofNat n)) : iBit2 op f k a b = iBits op k a b := by
  cases a with
  | negSucc m => rfl
  | ofNat m =>
    cases b with
    | negSucc n => rfl
    | ofNat n =>
      have e : iBit2 op f k (Int.ofNat m) (Int.ofNat n) = ifb (Nat.blt m (kLim k)) (ifb (Nat.blt n (kLim k)) (.ofNat (f m n)) (iBits op k (Int.ofNat m) (Int.ofNat n))) (iBits op k (Int.ofNat m) (Int.ofNat n)) := rfl
      rw [e, ifb_eq, ifb_eq]
      split
      · split
        · rename_i h1 h2; exact h m n (by simpa using h1) (by simpa using h2)
        · rfl
      · rfl
theorem lt_mod {k : IntKind} {m : Nat} (h : m < kLim k) : m % 2 ^ k.bits = m := by
  have h2 := kLim_le k
  rw [kMod_eq] at h2
  exact Nat.mod_eq_of_lt (by omega)
theorem iAnd_eq (k : IntKind) (a b : Int) : iBit2 .and Nat.land k a b = k.wrap (BitVec.ofInt k.bits a &&& BitVec.ofInt k.bits b).toNat := by
  refine iBit2_eq .and Nat.land k a b fun m n hm hn => ?_
  show Int.ofNat (m &&& n) = k.wrap (BitVec.ofInt k.bits (Int.ofNat m) &&& BitVec.ofInt k.bits (Int.ofNat n)).toNat
  rw [ofInt_ofNat, ofInt_ofNat, BitVec.toNat_and, BitVec.toNat_ofNat, BitVec.toNat_ofNat, lt_mod hm, lt_mod hn]
  exact (wrap_small k _ (by rw [kLim_eq] at *; exact Nat.and_lt_two_pow _ hn)).symm
theorem iOr_eq (k : IntKind) (a b : Int) : iBit2 .or Nat.lor k a b = k.wrap (BitVec.ofInt k.bits a ||| BitVec.ofInt k.bits b).toNat := by
  refine iBit2_eq .or Nat.lor k a b fun m n hm hn => ?_
  show Int.ofNat (m ||| n) = k.wrap (BitVec.ofInt k.bits (Int.ofNat m) ||| BitVec.ofInt k.bits (Int.ofNat n)).toNat
  rw [ofInt_ofNat, ofInt_ofNat, BitVec.toNat_or, BitVec.toNat_ofNat, BitVec.toNat_ofNat, lt_mod hm, lt_mod hn]
  exact (wrap_small k _ (by rw [kLim_eq] at *; exact Nat.or_lt_two_pow hm hn)).symm
theorem iXor_eq (k : IntKind) (a b : Int) : iBit2 .xor Nat.xor k a b = k.wrap (BitVec.ofInt k.bits a ^^^ BitVec.ofInt k.bits b).toNat := by
  refine iBit2_eq .xor Nat.xor k a b fun m n hm hn => ?_
  show Int.ofNat (m ^^^ n) = k.wrap (BitVec.ofInt k.bits (Int.ofNat m) ^^^ BitVec.ofInt k.bits (Int.ofNat n)).toNat
  rw [ofInt_ofNat, ofInt_ofNat, BitVec.toNat_xor, BitVec.toNat_ofNat, BitVec.toNat_ofNat, lt_mod hm, lt_mod hn]
  exact (wrap_small k _ (by rw [kLim_eq] at *; exact Nat.xor_lt_two_pow hm hn)).symm
theorem intR_eq (k : IntKind) (n : Int) : intR k n = .ok (.int k n) := by unfold intR; rw [intK_eq]

theorem pow_min (k : IntKind) (n : Nat) (hs : k.signed = false) (m : Nat) : k.wrap (Int.ofNat m * 2 ^ (min n k.bits)) = Int.ofNat ((m <<< n) % kMod k) := by
  have e : k.wrap (Int.ofNat m * 2 ^ (min n k.bits)) = (Int.ofNat m * 2 ^ (min n k.bits)) % (2 ^ k.bits : Int) := by simp [IntKind.wrap, hs]
  rw [e, kMod_eq, Nat.shiftLeft_eq]
  have e2 : (Int.ofNat m * 2 ^ (min n k.bits) : Int) % (2 ^ k.bits : Int) = Int.ofNat ((m * 2 ^ (min n k.bits)) % 2 ^ k.bits) := by
    push_cast
    simp
  rw [e2]
  congr 1
  rcases Nat.le_total n k.bits with hl | hl
  · rw [Nat.min_eq_left hl]
  · rw [Nat.min_eq_right hl]
    have : 2 ^ n = 2 ^ k.bits * 2 ^ (n - k.bits) := by rw [← Nat.pow_add]; congr 1; omega
    rw [this, Nat.mul_mod_left, ← Nat.mul_assoc, Nat.mul_right_comm, Nat.mul_mod_left]
theorem iShl_eq (k : IntKind) (a : Int) (n : Nat) : iShl k a n = k.wrap (a * 2 ^ (min n k.bits)) := by
  cases a with
  | negSucc m => rfl
  | ofNat m =>
    have e : iShl k (Int.ofNat m) n = ifb (Nat.ble n 64) (ifb (kSg k) (k.wrap (Int.ofNat m * 2 ^ (min n k.bits))) (.ofNat (Nat.mod (Nat.shiftLeft m n) (kMod k)))) (k.wrap (Int.ofNat m * 2 ^ (min n k.bits))) := rfl
    rw [e, ifb_eq, ifb_eq]
    split
    · split
      · rfl
      · rename_i h1 h2
        exact (pow_min k n (by cases k <;> first | rfl | exact absurd rfl h2) m).symm
    · rfl
theorem iShr_eq (k : IntKind) (a : Int) (n : Nat) : iShr k a n = a.fdiv (2 ^ (min n k.bits)) := by
  cases a with
  | negSucc m => rfl
  | ofNat m =>
    have e : iShr k (Int.ofNat m) n = ifb (Nat.blt m (kMod k)) (.ofNat (Nat.shiftRight m n)) ((Int.ofNat m).fdiv (2 ^ (min n k.bits))) := rfl
    rw [e, ifb_eq]
    split
    · rename_i h1
      have h1' : m < 2 ^ k.bits := by rw [← kMod_eq]; simpa using h1
      have e2 : (Int.ofNat m).fdiv (2 ^ (min n k.bits)) = Int.ofNat (m / 2 ^ (min n k.bits)) := by
        rw [Int.fdiv_eq_ediv_of_nonneg _ (by exact_mod_cast Nat.zero_le _)]
        push_cast
        simp
      rw [e2]
      congr 1
      show m >>> n = _
      rw [Nat.shiftRight_eq_div_pow]
      rcases Nat.le_total n k.bits with hl | hl
      · rw [Nat.min_eq_left hl]
      · rw [Nat.min_eq_right hl, Nat.div_eq_of_lt h1', Nat.div_eq_of_lt (Nat.lt_of_lt_of_le h1' (Nat.pow_le_pow_right (by omega) hl))]
    · rfl
end Go.Proofs.YtbakhdgiimjnkaaGreatDoor.Abs
