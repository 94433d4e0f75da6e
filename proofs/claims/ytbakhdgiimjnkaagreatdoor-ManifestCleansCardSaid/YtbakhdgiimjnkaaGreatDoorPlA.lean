/-
  The evaluator and what is proved of it (several texts in one).
-/
import Derived.Test.YtbakhdgiimjnkaaGreatDoorSumDef
import Derived.Test.YtbakhdgiimjnkaaGreatDoorAbsSum
import Derived.Test.YtbakhdgiimjnkaaGreatDoorAbsE
import Derived.Test.YtbakhdgiimjnkaaGreatDoorAbsA
/-
  Lists of keys and values, plain: the first one counts. No program in sight.
-/
namespace Go.Proofs.YtbakhdgiimjnkaaGreatDoor
section
variable {K V : Type} [BEq K] [LawfulBEq K]
def aget (l : List (K × V)) (k : K) : Option V := (l.find? fun e => e.1 == k).map (·.2)
def aput : List (K × V) → K → V → List (K × V)
  | [], k, v => [(k, v)]
  | e :: l, k, v => if k == e.1 then (k, v) :: l else e :: aput l k v
def adel : List (K × V) → K → List (K × V)
  | [], _ => []
  | e :: l, k => if k == e.1 then l else e :: adel l k
def akeys (l : List (K × V)) : List K := l.map (·.1)

omit [LawfulBEq K] in
theorem aget_nil (k : K) : aget ([] : List (K × V)) k = none := rfl
open Classical in
theorem aget_cons (e : K × V) (l : List (K × V)) (k : K) : aget (e :: l) k = if e.1 = k then some e.2 else aget l k := by
  unfold aget
  by_cases h : e.1 = k
  · rw [if_pos h, List.find?_cons_of_pos (by simpa using h)]; rfl
  · rw [if_neg h, List.find?_cons_of_neg (by simpa using h)]
open Classical in
theorem aget_aput (l : List (K × V)) (k j : K) (v : V) : aget (aput l k v) j = if k = j then some v else aget l j := by
  induction l with
  | nil => rw [show aput [] k v = [(k, v)] from rfl, aget_cons]
  | cons e l ih =>
    show aget (if k == e.1 then (k, v) :: l else e :: aput l k v) j = _
    by_cases h : k = e.1
    · rw [if_pos (by simpa using h), aget_cons, aget_cons]
      subst h
      split
      · rfl
      · rfl
    · rw [if_neg (by simpa using h), aget_cons, aget_cons, ih]
      by_cases h1 : e.1 = j
      · rw [if_pos h1, if_neg (fun x => h (x.trans h1.symm)), if_pos h1]
      · rw [if_neg h1, if_neg h1]
theorem aget_none {l : List (K × V)} {k : K} : aget l k = none ↔ k ∉ akeys l := by
  classical
  induction l with
  | nil => simp [aget_nil, akeys]
  | cons e l ih =>
    rw [aget_cons]
    by_cases h : e.1 = k
    · rw [if_pos h]
      simp [akeys, h]
    · rw [if_neg h, ih]
      simp [akeys, Ne.symm h]
theorem aget_mem {l : List (K × V)} {k : K} {v : V} (h : aget l k = some v) : (k, v) ∈ l := by
  classical
  induction l with
  | nil => cases h
  | cons e l ih =>
    rw [aget_cons] at h
    split at h
    · rename_i e1
      cases h
      subst e1
      exact List.mem_cons_self
    · exact List.mem_cons_of_mem _ (ih h)
theorem aget_of_mem {l : List (K × V)} {k : K} {v : V} (hn : (akeys l).Nodup) (h : (k, v) ∈ l) : aget l k = some v := by
  classical
  induction l with
  | nil => cases h
  | cons e l ih =>
    obtain ⟨h1, h2⟩ := List.nodup_cons.1 hn
    rw [aget_cons]
    rcases List.mem_cons.1 h with rfl | h
    · rw [if_pos rfl]
    · rw [if_neg (fun x => h1 (by show e.1 ∈ akeys l; rw [show e.1 = k from x]; exact List.mem_map_of_mem (f := (·.1)) h)), ih h2 h]
open Classical in
theorem akeys_aput (l : List (K × V)) (k : K) (v : V) : akeys (aput l k v) = if k ∈ akeys l then akeys l else akeys l ++ [k] := by
  induction l with
  | nil => simp [akeys, aput]
  | cons e l ih =>
    show akeys (if k == e.1 then (k, v) :: l else e :: aput l k v) = _
    by_cases h : k = e.1
    · rw [if_pos (by simpa using h), if_pos (by simp [akeys, h])]
      simp [akeys, h]
    · rw [if_neg (by simpa using h)]
      show e.1 :: akeys (aput l k v) = _
      rw [ih]
      have : k ∈ akeys (e :: l) ↔ k ∈ akeys l := by simp [akeys, h]
      by_cases h1 : k ∈ akeys l
      · rw [if_pos h1, if_pos (this.2 h1)]; rfl
      · rw [if_neg h1, if_neg (fun x => h1 (this.1 x))]; rfl
theorem nodup_aput {l : List (K × V)} (h : (akeys l).Nodup) (k : K) (v : V) : (akeys (aput l k v)).Nodup := by
  classical
  rw [akeys_aput]
  split
  · exact h
  · rename_i hk
    rw [List.nodup_append]
    exact ⟨h, by simp, fun a ha b hb => by simp at hb; subst hb; rintro rfl; exact hk ha⟩
theorem aput_new {l : List (K × V)} {k : K} (h : k ∉ akeys l) (v : V) : aput l k v = l ++ [(k, v)] := by
  induction l with
  | nil => rfl
  | cons e l ih =>
    have h1 : k ≠ e.1 ∧ k ∉ akeys l := by simpa [akeys] using h
    show (if k == e.1 then (k, v) :: l else e :: aput l k v) = _
    rw [if_neg (by simpa using h1.1), ih h1.2]
    rfl
theorem akeys_adel (l : List (K × V)) (k : K) : akeys (adel l k) = (akeys l).erase k := by
  induction l with
  | nil => rfl
  | cons e l ih =>
    show akeys (if k == e.1 then l else e :: adel l k) = (e.1 :: akeys l).erase k
    rw [List.erase_cons]
    by_cases h : k = e.1
    · rw [if_pos (by simpa using h), if_pos (by simpa using h.symm)]
    · rw [if_neg (by simpa using h), if_neg (by simpa using Ne.symm h)]
      show e.1 :: akeys (adel l k) = _
      rw [ih]
theorem nodup_adel {l : List (K × V)} (h : (akeys l).Nodup) (k : K) : (akeys (adel l k)).Nodup := by
  rw [akeys_adel]; exact h.erase k
open Classical in
theorem aget_adel {l : List (K × V)} (hn : (akeys l).Nodup) (k j : K) : aget (adel l k) j = if k = j then none else aget l j := by
  induction l with
  | nil => rw [show adel ([] : List (K × V)) k = [] from rfl, aget_nil]; split <;> rfl
  | cons e l ih =>
    obtain ⟨h1, h2⟩ := List.nodup_cons.1 hn
    show aget (if k == e.1 then l else e :: adel l k) j = _
    by_cases h : k = e.1
    · rw [if_pos (by simpa using h), aget_cons]
      subst h
      by_cases h3 : e.1 = j
      · rw [if_pos h3]; subst h3; exact aget_none.2 h1
      · rw [if_neg h3, if_neg h3]
    · rw [if_neg (by simpa using h), aget_cons, aget_cons, ih h2]
      by_cases h1 : e.1 = j
      · rw [if_pos h1, if_neg (fun x => h (x.trans h1.symm)), if_pos h1]
      · rw [if_neg h1, if_neg h1]
omit [LawfulBEq K] in
theorem mem_adel {l : List (K × V)} {k : K} {e : K × V} (h : e ∈ adel l k) : e ∈ l := by
  induction l with
  | nil => cases h
  | cons a l ih =>
    have h' : e ∈ (if k == a.1 then l else a :: adel l k) := h
    split at h'
    · exact List.mem_cons_of_mem _ h'
    · rcases List.mem_cons.1 h' with rfl | h'
      · exact List.mem_cons_self
      · exact List.mem_cons_of_mem _ (ih h')
omit [LawfulBEq K] in
theorem mem_aput {l : List (K × V)} {k : K} {v : V} {e : K × V} (h : e ∈ aput l k v) : e ∈ l ∨ e = (k, v) := by
  induction l with
  | nil => exact .inr (by simpa [aput] using h)
  | cons a l ih =>
    have h' : e ∈ (if k == a.1 then (k, v) :: l else a :: aput l k v) := h
    split at h'
    · rcases List.mem_cons.1 h' with rfl | h'
      · exact .inr rfl
      · exact .inl (List.mem_cons_of_mem _ h')
    · rcases List.mem_cons.1 h' with rfl | h'
      · exact .inl List.mem_cons_self
      · exact (ih h').imp (List.mem_cons_of_mem _) id
end
end Go.Proofs.YtbakhdgiimjnkaaGreatDoor

/-
  Numbers as bytes, seven bits each: laying and reading, plain. No program in sight.
-/
namespace Go.Proofs.YtbakhdgiimjnkaaGreatDoor

/-- a number's bytes -/
def uintB (v : Nat) : List UInt8 := if h : v < 128 then [UInt8.ofNat v] else UInt8.ofNat (v % 128 + 128) :: uintB (v / 128)
termination_by v
decreasing_by omega
theorem uintB_small {v : Nat} (h : v < 128) : uintB v = [UInt8.ofNat v] := by rw [uintB, dif_pos h]
theorem uintB_big {v : Nat} (h : ¬ v < 128) : uintB v = UInt8.ofNat (v % 128 + 128) :: uintB (v / 128) := by rw [uintB, dif_neg h]
theorem uintB_pos (v : Nat) : 0 < (uintB v).length := by
  by_cases h : v < 128
  · rw [uintB_small h]; simp
  · rw [uintB_big h]; simp
theorem uintB_le (k : Nat) : ∀ v, v < 2 ^ (7 * (k + 1)) → (uintB v).length ≤ k + 1 := by
  induction k with
  | zero => intro v hv; rw [uintB_small (by omega)]; simp
  | succ k ih =>
    intro v hv
    by_cases h : v < 128
    · rw [uintB_small h]; simp
    · rw [uintB_big h, List.length_cons]
      have : v / 128 < 2 ^ (7 * (k + 1)) := by
        rw [Nat.div_lt_iff_lt_mul (by omega)]
        calc v < 2 ^ (7 * (k + 1 + 1)) := hv
          _ = 2 ^ (7 * (k + 1)) * 128 := by rw [show 7 * (k + 1 + 1) = 7 * (k + 1) + 7 by omega, Nat.pow_add]
      have := ih _ this
      omega
theorem uintB_le10 {v : Nat} (h : v < 18446744073709551616) : (uintB v).length ≤ 10 := uintB_le 9 v (by omega)

/-- a number that is read: itself and how many bytes it has -/
def numGo : List UInt8 → Nat → Nat → Option (Nat × Nat)
  | [], _, _ => none
  | x :: l, i, acc =>
    if 10 ≤ i then none
    else if 128 ≤ x.toNat then numGo l (i + 1) (acc ||| ((x.toNat % 128) <<< (7 * i)) % 18446744073709551616)
    else if (x.toNat = 0 ∧ 0 < i) ∨ (i = 9 ∧ 1 < x.toNat) then none
    else some (acc ||| ((x.toNat % 128) <<< (7 * i)) % 18446744073709551616, i + 1)
theorem or_shift {acc a k : Nat} (h : acc < 2 ^ k) : acc ||| (a <<< k) = acc + a * 2 ^ k := by
  rw [Nat.or_comm, ← Nat.shiftLeft_add_eq_or_of_lt h, Nat.shiftLeft_eq, Nat.add_comm]
theorem numGo_uint (r : List UInt8) : ∀ (v i acc : Nat), v < 2 ^ (64 - 7 * i) → i ≤ 9 → acc < 2 ^ (7 * i) → (0 < i → 0 < v) → numGo (uintB v ++ r) i acc = some (acc + v * 2 ^ (7 * i), i + (uintB v).length) := by
  intro v
  induction v using Nat.strongRecOn with
  | ind v ih =>
    intro i acc hv hi hacc hpos
    have hbound : v * 2 ^ (7 * i) < 18446744073709551616 := by
      have h1 : v * 2 ^ (7 * i) < 2 ^ (64 - 7 * i) * 2 ^ (7 * i) := Nat.mul_lt_mul_of_pos_right hv (Nat.two_pow_pos _)
      rw [← Nat.pow_add, show 64 - 7 * i + 7 * i = 64 by omega] at h1
      exact h1
    by_cases h : v < 128
    · rw [uintB_small h]
      have ht : (UInt8.ofNat v).toNat = v := by simp; omega
      show numGo (UInt8.ofNat v :: r) i acc = _
      unfold numGo
      rw [if_neg (by omega), ht, if_neg (by omega), if_neg, Nat.mod_eq_of_lt h, Nat.mod_eq_of_lt (by rw [Nat.shiftLeft_eq]; exact hbound), or_shift hacc]
      · rfl
      · rintro (⟨h1, h2⟩ | ⟨h1, h2⟩)
        · have := hpos h2; omega
        · subst h1; simp at hv; omega
    · rw [uintB_big h]
      have ht : (UInt8.ofNat (v % 128 + 128)).toNat = v % 128 + 128 := by simp; omega
      show numGo (UInt8.ofNat (v % 128 + 128) :: (uintB (v / 128) ++ r)) i acc = _
      unfold numGo
      have hi8 : i ≤ 8 := by
        rcases Nat.lt_or_ge i 9 with h1 | h1
        · omega
        · have : i = 9 := by omega
          subst this
          simp at hv
          omega
      have hm : (v % 128 + 128) % 128 = v % 128 := by omega
      have hle : v % 128 * 2 ^ (7 * i) ≤ v * 2 ^ (7 * i) := Nat.mul_le_mul_right _ (Nat.mod_le _ _)
      have e7 : 2 ^ (7 * (i + 1)) = 2 ^ (7 * i) * 128 := by rw [show 7 * (i + 1) = 7 * i + 7 by omega, Nat.pow_add]
      rw [if_neg (by omega), ht, if_pos (by omega), hm, Nat.mod_eq_of_lt (by rw [Nat.shiftLeft_eq]; omega), or_shift hacc, ih (v / 128) (by omega) (i + 1)]
      · rw [List.length_cons]
        congr 1
        refine Prod.ext ?_ ?_
        · show acc + v % 128 * 2 ^ (7 * i) + v / 128 * 2 ^ (7 * (i + 1)) = acc + v * 2 ^ (7 * i)
          rw [e7, Nat.add_assoc, ← Nat.mul_assoc, Nat.mul_comm (v / 128) (2 ^ (7 * i)), Nat.mul_assoc, Nat.mul_comm (v % 128), ← Nat.mul_add, Nat.mul_comm (2 ^ (7 * i)), Nat.mul_comm (v / 128), Nat.mod_add_div]
        · show i + 1 + _ = i + (_ + 1)
          omega
      · rw [Nat.div_lt_iff_lt_mul (by omega)]
        calc v < 2 ^ (64 - 7 * i) := hv
          _ = 2 ^ (64 - 7 * (i + 1)) * 128 := by rw [show 64 - 7 * i = 64 - 7 * (i + 1) + 7 by omega, Nat.pow_add]
      · omega
      · rw [e7]
        have : v % 128 < 128 := Nat.mod_lt _ (by omega)
        calc acc + v % 128 * 2 ^ (7 * i) < 2 ^ (7 * i) + v % 128 * 2 ^ (7 * i) := by omega
          _ = (1 + v % 128) * 2 ^ (7 * i) := by rw [Nat.add_mul, Nat.one_mul]
          _ ≤ 128 * 2 ^ (7 * i) := Nat.mul_le_mul_right _ (by omega)
          _ = 2 ^ (7 * i) * 128 := Nat.mul_comm _ _
      · omega
theorem numGo_lt {l : List UInt8} {i acc v n : Nat} (h : numGo l i acc = some (v, n)) (ha : acc < 18446744073709551616) : v < 18446744073709551616 ∧ i < n ∧ n ≤ i + l.length ∧ n ≤ 10 := by
  induction l generalizing i acc with
  | nil => cases h
  | cons x l ih =>
    have hor : acc ||| ((x.toNat % 128) <<< (7 * i)) % 18446744073709551616 < 18446744073709551616 := Nat.or_lt_two_pow (n := 64) ha (Nat.mod_lt _ (by omega))
    unfold numGo at h
    split at h
    · cases h
    · split at h
      · obtain ⟨h1, h2, h3, h4⟩ := ih h hor
        rw [List.length_cons]
        omega
      · split at h
        · cases h
        · cases h
          rw [List.length_cons]
          omega

/-- a reader: bytes ahead, and whether it has failed -/
structure Rd where
  b : List UInt8
  bad : Bool
def rdUint (r : Rd) : Nat × Rd :=
  match numGo r.b 0 0 with
  | none => (0, ⟨r.b, true⟩)
  | some (v, n) => if r.bad then (0, ⟨r.b, true⟩) else (v, ⟨r.b.drop n, false⟩)
def rdInt (most : Nat) (r : Rd) : Nat × Rd :=
  match numGo r.b 0 0 with
  | none => (0, ⟨r.b, true⟩)
  | some (v, n) => if r.bad = true ∨ most < v then (0, ⟨r.b, true⟩) else (v, ⟨r.b.drop n, false⟩)
def rdText (most : Nat) (r : Rd) : List UInt8 × Rd :=
  if (rdInt most r).2.bad = true ∨ (rdInt most r).2.b.length < (rdInt most r).1 then ([], ⟨(rdInt most r).2.b, true⟩)
  else ((rdInt most r).2.b.take (rdInt most r).1, ⟨(rdInt most r).2.b.drop (rdInt most r).1, false⟩)
theorem numGo_uint0 {v : Nat} (hv : v < 18446744073709551616) (r : List UInt8) : numGo (uintB v ++ r) 0 0 = some (v, (uintB v).length) := by
  rw [numGo_uint r v 0 0 (by simpa using hv) (by omega) (by simp) (by omega)]
  simp
theorem rdUint_uint {v : Nat} (hv : v < 18446744073709551616) (r : List UInt8) : rdUint ⟨uintB v ++ r, false⟩ = (v, ⟨r, false⟩) := by
  unfold rdUint
  simp only [numGo_uint0 hv, List.drop_left]
  rfl
theorem rdInt_uint {v most : Nat} (hv : v < 18446744073709551616) (hm : v ≤ most) (r : List UInt8) : rdInt most ⟨uintB v ++ r, false⟩ = (v, ⟨r, false⟩) := by
  unfold rdInt
  simp only [numGo_uint0 hv, List.drop_left]
  rw [if_neg (by simp; omega)]
def textB (s : List UInt8) : List UInt8 := uintB s.length ++ s
theorem rdText_text {s : List UInt8} {most : Nat} (hs : s.length ≤ most) (hs2 : s.length < 18446744073709551616) (r : List UInt8) : rdText most ⟨textB s ++ r, false⟩ = (s, ⟨r, false⟩) := by
  unfold rdText textB
  rw [List.append_assoc, rdInt_uint hs2 hs, if_neg (by simp)]
  simp
theorem rdInt_le (most : Nat) (r : Rd) : (rdInt most r).1 ≤ most ∧ (rdInt most r).2.b.length ≤ r.b.length := by
  unfold rdInt
  split
  · simp
  · split
    · simp
    · refine ⟨by simp; omega, by simp⟩
theorem rdUint_le (r : Rd) : (rdUint r).1 < 18446744073709551616 ∧ (rdUint r).2.b.length ≤ r.b.length := by
  unfold rdUint
  split
  · simp
  · rename_i v n h
    split
    · simp
    · exact ⟨(numGo_lt h (by omega)).1, by simp⟩
theorem rdText_le (most : Nat) (r : Rd) : (rdText most r).1.length ≤ most ∧ (rdText most r).2.b.length ≤ r.b.length := by
  have h := rdInt_le most r
  unfold rdText
  split
  · exact ⟨by simp, h.2⟩
  · exact ⟨by simp; omega, by simp; omega⟩
end Go.Proofs.YtbakhdgiimjnkaaGreatDoor

/-
  A version's bytes, plain: laying, reading, and that reading brings back what was laid. No program in sight.
-/
namespace Go.Proofs.YtbakhdgiimjnkaaGreatDoor

structure MF where
  num : Int
  level : Int
  first : List UInt8
  last : List UInt8
structure MV where
  files : List MF
  next : Int
  seq : Nat
  log : Int
def encF (f : MF) : List UInt8 := uintB f.num.toNat ++ (uintB f.level.toNat ++ (textB f.first ++ textB f.last))
def encFs : List MF → List UInt8
  | [] => []
  | f :: l => encF f ++ encFs l
def encV (v : MV) : List UInt8 := uintB v.files.length ++ (encFs v.files ++ (uintB v.next.toNat ++ (uintB v.seq ++ uintB v.log.toNat)))
/-- may a file be? -/
structure GoodF (next : Int) (f : MF) : Prop where
  n1 : 1 ≤ f.num
  n2 : f.num < next
  l0 : 0 ≤ f.level
  l6 : f.level ≤ 6
  fl : f.first.length ≤ 256
  ll : f.last.length ≤ 256
structure GoodV (v : MV) : Prop where
  most : v.files.length ≤ 1000
  n1 : 1 ≤ v.next
  n2 : v.next ≤ 999999
  l1 : 0 ≤ v.log
  l2 : v.log ≤ 999999
  all : ∀ f ∈ v.files, GoodF v.next f
  nodup : (v.files.map (·.num)).Nodup
theorem encFs_append (a b : List MF) : encFs (a ++ b) = encFs a ++ encFs b := by
  induction a with
  | nil => rfl
  | cons f a ih => show encF f ++ encFs (a ++ b) = (encF f ++ encFs a) ++ encFs b; rw [ih, List.append_assoc]

def decF (r : Rd) : MF × Rd :=
  let a := rdInt 999999 r
  let b := rdInt 6 a.2
  let c := rdText 256 b.2
  let d := rdText 256 c.2
  (⟨(a.1 : Int), (b.1 : Int), c.1, d.1⟩, d.2)
def decFs : Nat → Rd → List MF × Rd
  | 0, r => ([], r)
  | n + 1, r => let a := decF r; let b := decFs n a.2; (a.1 :: b.1, b.2)
def decV (l : List UInt8) : MV × Rd :=
  let n := rdInt 1000 ⟨l, false⟩
  let fs := decFs n.1 n.2
  let a := rdInt 999999 fs.2
  let b := rdUint a.2
  let c := rdInt 999999 b.2
  (⟨fs.1, (a.1 : Int), b.1, (c.1 : Int)⟩, c.2)
theorem decF_enc {next : Int} {f : MF} (h : GoodF next f) (hn : next ≤ 999999) (r : List UInt8) : decF ⟨encF f ++ r, false⟩ = (f, ⟨r, false⟩) := by
  obtain ⟨h1, h2, h3, h4, h5, h6⟩ := h
  unfold decF encF
  simp only [List.append_assoc]
  rw [rdInt_uint (by omega) (by omega)]
  simp only
  rw [rdInt_uint (by omega) (by omega)]
  simp only
  rw [rdText_text h5 (by omega)]
  simp only
  rw [rdText_text h6 (by omega)]
  simp only [Int.toNat_of_nonneg (Int.le_trans (by decide) h1), Int.toNat_of_nonneg h3]
theorem decFs_enc {next : Int} (hn : next ≤ 999999) (r : List UInt8) : ∀ (l : List MF), (∀ f ∈ l, GoodF next f) → decFs l.length ⟨encFs l ++ r, false⟩ = (l, ⟨r, false⟩)
  | [], _ => rfl
  | f :: l, h => by
    show (let a := decF ⟨(encF f ++ encFs l) ++ r, false⟩; let b := decFs l.length a.2; (a.1 :: b.1, b.2)) = _
    rw [List.append_assoc, decF_enc (h f List.mem_cons_self) hn]
    simp only
    rw [decFs_enc hn r l fun g hg => h g (List.mem_cons_of_mem _ hg)]
theorem decV_enc {v : MV} (h : GoodV v) (hs : v.seq < 18446744073709551616) : decV (encV v) = (v, ⟨[], false⟩) := by
  obtain ⟨h0, h1, h2, h3, h4, h5, _⟩ := h
  unfold decV encV
  rw [rdInt_uint (by omega) h0]
  simp only
  rw [decFs_enc h2 _ _ h5]
  simp only
  rw [rdInt_uint (by omega) (by omega)]
  simp only
  rw [rdUint_uint hs]
  simp only
  rw [← List.append_nil (uintB v.log.toNat), rdInt_uint (by omega) (by omega)]
  simp only [Int.toNat_of_nonneg (Int.le_trans (by decide : (0 : Int) ≤ 1) h1), Int.toNat_of_nonneg h3]
/-- what is read is within limits -/
theorem decF_le (r : Rd) : 0 ≤ (decF r).1.num ∧ (decF r).1.num ≤ 999999 ∧ 0 ≤ (decF r).1.level ∧ (decF r).1.level ≤ 6 ∧ (decF r).1.first.length ≤ 256 ∧ (decF r).1.last.length ≤ 256 ∧ (decF r).2.b.length ≤ r.b.length := by
  have a := rdInt_le 999999 r
  have b := rdInt_le 6 (rdInt 999999 r).2
  have c := rdText_le 256 (rdInt 6 (rdInt 999999 r).2).2
  have d := rdText_le 256 (rdText 256 (rdInt 6 (rdInt 999999 r).2).2).2
  unfold decF
  simp only
  omega
theorem decFs_length : ∀ (n : Nat) (r : Rd), (decFs n r).1.length = n
  | 0, _ => rfl
  | n + 1, r => by show (decFs n (decF r).2).1.length + 1 = n + 1; rw [decFs_length n]
theorem decFs_snoc : ∀ (n : Nat) (r : Rd), decFs (n + 1) r = ((decFs n r).1 ++ [(decF (decFs n r).2).1], (decF (decFs n r).2).2)
  | 0, r => rfl
  | n + 1, r => by
    show ((decF r).1 :: (decFs (n + 1) (decF r).2).1, (decFs (n + 1) (decF r).2).2) = _
    rw [decFs_snoc n (decF r).2]
    rfl
theorem encF_le {next : Int} {f : MF} (h : GoodF next f) (hn : next ≤ 999999) : (encF f).length ≤ 520 := by
  obtain ⟨h1, h2, h3, h4, h5, h6⟩ := h
  have a := uintB_le 2 f.num.toNat (by omega)
  have b := uintB_le 0 f.level.toNat (by omega)
  have c := uintB_le 1 f.first.length (by omega)
  have d := uintB_le 1 f.last.length (by omega)
  unfold encF textB
  simp only [List.length_append]
  omega
theorem encFs_le {next : Int} (hn : next ≤ 999999) : ∀ (l : List MF), (∀ f ∈ l, GoodF next f) → (encFs l).length ≤ 520 * l.length
  | [], _ => by simp [encFs]
  | f :: l, h => by
    have h1 := encF_le (h f List.mem_cons_self) hn
    have h2 := encFs_le hn l fun g hg => h g (List.mem_cons_of_mem _ hg)
    show (encF f ++ encFs l).length ≤ 520 * (l.length + 1)
    rw [List.length_append]
    omega
theorem encV_le {v : MV} (h : GoodV v) (hs : v.seq < 18446744073709551616) : (encV v).length ≤ 520 * v.files.length + 18 := by
  obtain ⟨h0, h1, h2, h3, h4, h5, _⟩ := h
  have a := encFs_le h2 _ h5
  have b := uintB_le 1 v.files.length (by omega)
  have c := uintB_le 2 v.next.toNat (by omega)
  have d := uintB_le10 hs
  have e := uintB_le 2 v.log.toNat (by omega)
  unfold encV
  simp only [List.length_append]
  omega
end Go.Proofs.YtbakhdgiimjnkaaGreatDoor

/-
  A file system that crashes, plain: names, what is safe of them, the changes since; files by numbers. No program in sight.
-/
namespace Go.Proofs.YtbakhdgiimjnkaaGreatDoor
noncomputable section

abbrev Nm := List UInt8
/-- a list of names and files: the first one counts -/
abbrev Nms := List (Nm × Nat)
/-- a change of the directory: a file gets a name, and a name is gone -/
structure Chg where
  name : Nm
  file : Option Nat
  gone : Nm
def Chg.go (l : Nms) (c : Chg) : Nms :=
  match c.file with
  | none => if c.gone = [] then l else adel l c.gone
  | some f => aput (if c.gone = [] then l else adel l c.gone) c.name f
/-- a file: its bytes, how many are safe -/
structure DF where
  bytes : List UInt8
  safe : Nat
structure DD where
  quota : Int
  names : Nms
  safe : Nms
  chgs : List Chg
  appends : Int
  syncs : Int
abbrev Fs := Nat → DF
def DD.total (d : DD) (F : Fs) : Nat := (d.names.map fun e => (F e.2).bytes.length).sum
def DD.keys (d : DD) : List Nm := Abs.sortB (akeys d.names)
/-- a pick modulo a number -/
def pickN (picks : List Int) (i n : Nat) : Nat :=
  match picks[i]? with
  | none => 0
  | some p => if p < 0 then 0 else p.toNat % n
def Fs.put (F : Fs) (i : Nat) (f : DF) : Fs := fun j => if j = i then f else F j
/-- what a crash leaves of a file -/
def cutF (picks : List Int) (i : Nat) (f : DF) : DF :=
  let n := f.safe + pickN picks (i + 1) (f.bytes.length - f.safe + 1)
  ⟨f.bytes.take n, n⟩
def cutFs (picks : List Int) (l : Nms) : List Nm → Nat → Fs → Fs
  | [], _, F => F
  | k :: ks, i, F => match aget l k with
    | none => cutFs picks l ks (i + 1) F
    | some f => cutFs picks l ks (i + 1) (F.put f (cutF picks i (F f)))
def DD.kept (d : DD) (picks : List Int) : Nms := (d.chgs.take (pickN picks 0 (d.chgs.length + 1))).foldl Chg.go d.safe
def DD.crash (d : DD) (picks : List Int) : DD := { d with names := d.kept picks, safe := d.kept picks, chgs := [] }
def DD.crashF (d : DD) (picks : List Int) (F : Fs) : Fs := cutFs picks (d.kept picks) (Abs.sortB (akeys (d.kept picks))) 0 F
theorem pickN_lt (picks : List Int) (i n : Nat) (h : 0 < n) : pickN picks i n < n := by
  unfold pickN
  split
  · exact h
  · split
    · exact h
    · exact Nat.mod_lt _ h
end
end Go.Proofs.YtbakhdgiimjnkaaGreatDoor

/-
  Frames, plain: a payload's length and sum, and the payload; what a scan tells. No program in sight.
-/
namespace Go.Proofs.YtbakhdgiimjnkaaGreatDoor
noncomputable section
def le32 (n : Nat) : List UInt8 := [UInt8.ofNat (n % 256), UInt8.ofNat (n / 256 % 256), UInt8.ofNat (n / 65536 % 256), UInt8.ofNat (n / 16777216 % 256)]
def rd32 (l : List UInt8) : Nat :=
  match l with
  | a :: b :: c :: d :: _ => a.toNat + b.toNat * 256 + c.toNat * 65536 + d.toNat * 16777216
  | _ => 0
theorem le32_len (n : Nat) : (le32 n).length = 4 := rfl
theorem rd32_le32 {n : Nat} (h : n < 4294967296) (x : List UInt8) : rd32 (le32 n ++ x) = n := by
  show (UInt8.ofNat (n % 256)).toNat + (UInt8.ofNat (n / 256 % 256)).toNat * 256 + (UInt8.ofNat (n / 65536 % 256)).toNat * 65536 + (UInt8.ofNat (n / 16777216 % 256)).toNat * 16777216 = n
  simp only [UInt8.toNat_ofNat']
  omega
theorem rd32_lt (l : List UInt8) : rd32 l < 4294967296 := by
  unfold rd32
  split
  · rename_i a b c d _
    have := a.toNat_lt; have := b.toNat_lt; have := c.toNat_lt; have := d.toNat_lt
    omega
  · omega
/-- a sum that goes on -/
def moreN (c : Nat) (l : List UInt8) : Nat := 4294967295 ^^^ (l.foldl (fun c b => crcByte c b.toNat) (4294967295 ^^^ c))
def sumN (length payload : List UInt8) : Nat := moreN (moreN 0 length) payload
theorem crcGo_bytes : ∀ (l : List UInt8) (c : Nat), crcGo (Abs.byteCells l) c = some (l.foldl (fun c b => crcByte c b.toNat) c)
  | [], c => rfl
  | b :: l, c => by
    have h : b.toNat < 256 := b.toNat_lt
    show crcStep (.int .u8 (Int.ofNat b.toNat)) c (crcGo (Abs.byteCells l)) = _
    unfold crcStep
    show Abs.ifb (Nat.blt b.toNat 256) (Abs.natK (crcByte c b.toNat) (crcGo (Abs.byteCells l))) none = _
    rw [show Nat.blt b.toNat 256 = true by simpa using h]
    show Abs.natK (crcByte c b.toNat) (crcGo (Abs.byteCells l)) = _
    rw [Abs.natK_eq, crcGo_bytes l]
    rfl
def frameB (p : List UInt8) : List UInt8 := le32 p.length ++ (le32 (sumN (le32 p.length) p) ++ p)
theorem frameB_len (p : List UInt8) : (frameB p).length = 8 + p.length := by
  unfold frameB
  rw [List.length_append, List.length_append, le32_len, le32_len]
  omega
/-- the payloads, how many bytes they took, and how the rest is: 0 none, 1 cut, 2 wrong -/
def scanB (b : List UInt8) : List (List UInt8) × Nat × Nat :=
  if b.length = 0 then ([], 0, 0)
  else if b.length < 8 then ([], 0, 1)
  else if 65536 < rd32 b then ([], 0, 2)
  else if b.length - 8 < rd32 b then ([], 0, 1)
  else if rd32 (b.drop 4) ≠ sumN (b.take 4) ((b.drop 8).take (rd32 b)) then ([], 0, 2)
  else
    let r := scanB (b.drop (8 + rd32 b))
    ((b.drop 8).take (rd32 b) :: r.1, 8 + rd32 b + r.2.1, r.2.2)
termination_by b.length
decreasing_by simp only [List.length_drop]; omega
theorem scanB_eq (b : List UInt8) : scanB b = if b.length = 0 then ([], 0, 0)
  else if b.length < 8 then ([], 0, 1)
  else if 65536 < rd32 b then ([], 0, 2)
  else if b.length - 8 < rd32 b then ([], 0, 1)
  else if rd32 (b.drop 4) ≠ sumN (b.take 4) ((b.drop 8).take (rd32 b)) then ([], 0, 2)
  else ((b.drop 8).take (rd32 b) :: (scanB (b.drop (8 + rd32 b))).1, 8 + rd32 b + (scanB (b.drop (8 + rd32 b))).2.1, (scanB (b.drop (8 + rd32 b))).2.2) := by
  conv => lhs; rw [scanB]
theorem moreN_lt {c : Nat} (hc : c < 4294967296) (l : List UInt8) (hb : ∀ c b, c < 4294967296 → crcByte c b < 4294967296 ∨ 256 ≤ b) : moreN c l < 4294967296 := by
  have key : ∀ (l : List UInt8) (c : Nat), c < 4294967296 → l.foldl (fun c b => crcByte c b.toNat) c < 4294967296 := by
    intro l
    induction l with
    | nil => exact fun c h => h
    | cons b l ih => exact fun c h => ih _ ((hb c b.toNat h).resolve_right (by have := b.toNat_lt; omega))
  exact Nat.xor_lt_two_pow (n := 32) (by decide) (key l _ (Nat.xor_lt_two_pow (n := 32) (by decide) hc))
/-- a frame is read back, and what stands behind it -/
theorem scanB_frame {p : List UInt8} (hp : p.length ≤ 65536) (hs : sumN (le32 p.length) p < 4294967296) (x : List UInt8) : scanB (frameB p ++ x) = (p :: (scanB x).1, 8 + p.length + (scanB x).2.1, (scanB x).2.2) := by
  rw [scanB]
  have hl : (frameB p ++ x).length = 8 + p.length + x.length := by rw [List.length_append, frameB_len]
  have h1 : rd32 (frameB p ++ x) = p.length := by
    unfold frameB
    rw [List.append_assoc]
    exact rd32_le32 (by omega) _
  have d4 : (frameB p ++ x).drop 4 = le32 (sumN (le32 p.length) p) ++ (p ++ x) := by
    unfold frameB
    rw [List.append_assoc, List.append_assoc, List.drop_left' (le32_len _)]
  have d8 : (frameB p ++ x).drop 8 = p ++ x := by
    rw [show (8 : Nat) = 4 + 4 from rfl, ← List.drop_drop, d4, List.drop_left' (le32_len _)]
  have t4 : (frameB p ++ x).take 4 = le32 p.length := by
    unfold frameB
    rw [List.append_assoc, List.take_left' (le32_len _)]
  have d9 : (frameB p ++ x).drop (8 + p.length) = x := by
    rw [← List.drop_drop, d8, List.drop_left' rfl]
  rw [if_neg (by omega), if_neg (by omega), h1, if_neg (by omega), if_neg (by omega), d4, d8, t4, d9, List.take_left' rfl, rd32_le32 hs, if_neg (by simp)]
theorem scanB_nil : scanB [] = ([], 0, 0) := by rw [scanB]; rfl
end
end Go.Proofs.YtbakhdgiimjnkaaGreatDoor

