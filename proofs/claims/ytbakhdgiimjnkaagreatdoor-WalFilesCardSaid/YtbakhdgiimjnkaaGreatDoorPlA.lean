/-
  The evaluator and what is proved of it (several texts in one).
-/
import Derived.Test.YtbakhdgiimjnkaaGreatDoorSumDef
import Derived.Test.YtbakhdgiimjnkaaGreatDoorAbsSum
import Derived.Test.YtbakhdgiimjnkaaGreatDoorAbsE
import Derived.Test.YtbakhdgiimjnkaaGreatDoorAbsA
set_option linter.unusedVariables false
set_option linter.unusedSimpArgs false
/-
  Lists of keys and values, plain: the first one counts. No program in sight.
-/
namespace Go.Proofs.YtbakhdgiimjnkaaGreatDoor
section
variable {K V : Type} [BEq K] [LawfulBEq K]
def aget (l : List (K × V)) (k : K) : Option V := (l.find? fun e => e.1 == k).map (·.2)
def aput : List (K × V) → K → V → List (K × V)
  | [], k, v => [(k, v)]
  | e :: l, k, v => if k == e.1 then (k, v) :: l else e :: aput l k v
def adel : List (K × V) → K → List (K × V)
  | [], _ => []
  | e :: l, k => if k == e.1 then l else e :: adel l k
def akeys (l : List (K × V)) : List K := l.map (·.1)

omit [LawfulBEq K] in
theorem aget_nil (k : K) : aget ([] : List (K × V)) k = none := rfl
open Classical in
theorem aget_cons (e : K × V) (l : List (K × V)) (k : K) : aget (e :: l) k = if e.1 = k then some e.2 else aget l k := by
  unfold aget
  by_cases h : e.1 = k
  · rw [if_pos h, List.find?_cons_of_pos (by simpa using h)]; rfl
  · rw [if_neg h, List.find?_cons_of_neg (by simpa using h)]
open Classical in
theorem aget_aput (l : List (K × V)) (k j : K) (v : V) : aget (aput l k v) j = if k = j then some v else aget l j := by
  induction l with
  | nil => rw [show aput [] k v = [(k, v)] from rfl, aget_cons]
  | cons e l ih =>
    show aget (if k == e.1 then (k, v) :: l else e :: aput l k v) j = _
    by_cases h : k = e.1
    · rw [if_pos (by simpa using h), aget_cons, aget_cons]
      subst h
      split
      · rfl
      · rfl
    · rw [if_neg (by simpa using h), aget_cons, aget_cons, ih]
      by_cases h1 : e.1 = j
      · rw [if_pos h1, if_neg (fun x => h (x.trans h1.symm)), if_pos h1]
      · rw [if_neg h1, if_neg h1]
theorem aget_none {l : List (K × V)} {k : K} : aget l k = none ↔ k ∉ akeys l := by
  classical
  induction l with
  | nil => simp [aget_nil, akeys]
  | cons e l ih =>
    rw [aget_cons]
    by_cases h : e.1 = k
    · rw [if_pos h]
      simp [akeys, h]
    · rw [if_neg h, ih]
      simp [akeys, Ne.symm h]
theorem aget_mem {l : List (K × V)} {k : K} {v : V} (h : aget l k = some v) : (k, v) ∈ l := by
  classical
  induction l with
  | nil => cases h
  | cons e l ih =>
    rw [aget_cons] at h
    split at h
    · rename_i e1
      cases h
      subst e1
      exact List.mem_cons_self
    · exact List.mem_cons_of_mem _ (ih h)
open Classical in
theorem akeys_aput (l : List (K × V)) (k : K) (v : V) : akeys (aput l k v) = if k ∈ akeys l then akeys l else akeys l ++ [k] := by
  induction l with
  | nil => simp [akeys, aput]
  | cons e l ih =>
    show akeys (if k == e.1 then (k, v) :: l else e :: aput l k v) = _
    by_cases h : k = e.1
    · rw [if_pos (by simpa using h), if_pos (by simp [akeys, h])]
      simp [akeys, h]
    · rw [if_neg (by simpa using h)]
      show e.1 :: akeys (aput l k v) = _
      rw [ih]
      have : k ∈ akeys (e :: l) ↔ k ∈ akeys l := by simp [akeys, h]
      by_cases h1 : k ∈ akeys l
      · rw [if_pos h1, if_pos (this.2 h1)]; rfl
      · rw [if_neg h1, if_neg (fun x => h1 (this.1 x))]; rfl
theorem nodup_aput {l : List (K × V)} (h : (akeys l).Nodup) (k : K) (v : V) : (akeys (aput l k v)).Nodup := by
  classical
  rw [akeys_aput]
  split
  · exact h
  · rename_i hk
    rw [List.nodup_append]
    exact ⟨h, by simp, fun a ha b hb => by simp at hb; subst hb; rintro rfl; exact hk ha⟩
theorem aput_new {l : List (K × V)} {k : K} (h : k ∉ akeys l) (v : V) : aput l k v = l ++ [(k, v)] := by
  induction l with
  | nil => rfl
  | cons e l ih =>
    have h1 : k ≠ e.1 ∧ k ∉ akeys l := by simpa [akeys] using h
    show (if k == e.1 then (k, v) :: l else e :: aput l k v) = _
    rw [if_neg (by simpa using h1.1), ih h1.2]
    rfl
theorem akeys_adel (l : List (K × V)) (k : K) : akeys (adel l k) = (akeys l).erase k := by
  induction l with
  | nil => rfl
  | cons e l ih =>
    show akeys (if k == e.1 then l else e :: adel l k) = (e.1 :: akeys l).erase k
    rw [List.erase_cons]
    by_cases h : k = e.1
    · rw [if_pos (by simpa using h), if_pos (by simpa using h.symm)]
    · rw [if_neg (by simpa using h), if_neg (by simpa using Ne.symm h)]
      show e.1 :: akeys (adel l k) = _
      rw [ih]
theorem nodup_adel {l : List (K × V)} (h : (akeys l).Nodup) (k : K) : (akeys (adel l k)).Nodup := by
  rw [akeys_adel]; exact h.erase k
open Classical in
theorem aget_adel {l : List (K × V)} (hn : (akeys l).Nodup) (k j : K) : aget (adel l k) j = if k = j then none else aget l j := by
  induction l with
  | nil => rw [show adel ([] : List (K × V)) k = [] from rfl, aget_nil]; split <;> rfl
  | cons e l ih =>
    obtain ⟨h1, h2⟩ := List.nodup_cons.1 hn
    show aget (if k == e.1 then l else e :: adel l k) j = _
    by_cases h : k = e.1
    · rw [if_pos (by simpa using h), aget_cons]
      subst h
      by_cases h3 : e.1 = j
      · rw [if_pos h3]; subst h3; exact aget_none.2 h1
      · rw [if_neg h3, if_neg h3]
    · rw [if_neg (by simpa using h), aget_cons, aget_cons, ih h2]
      by_cases h1 : e.1 = j
      · rw [if_pos h1, if_neg (fun x => h (x.trans h1.symm)), if_pos h1]
      · rw [if_neg h1, if_neg h1]
omit [LawfulBEq K] in
theorem mem_adel {l : List (K × V)} {k : K} {e : K × V} (h : e ∈ adel l k) : e ∈ l := by
  induction l with
  | nil => cases h
  | cons a l ih =>
    have h' : e ∈ (if k == a.1 then l else a :: adel l k) := h
    split at h'
    · exact List.mem_cons_of_mem _ h'
    · rcases List.mem_cons.1 h' with rfl | h'
      · exact List.mem_cons_self
      · exact List.mem_cons_of_mem _ (ih h')
omit [LawfulBEq K] in
theorem mem_aput {l : List (K × V)} {k : K} {v : V} {e : K × V} (h : e ∈ aput l k v) : e ∈ l ∨ e = (k, v) := by
  induction l with
  | nil => exact .inr (by simpa [aput] using h)
  | cons a l ih =>
    have h' : e ∈ (if k == a.1 then (k, v) :: l else a :: aput l k v) := h
    split at h'
    · rcases List.mem_cons.1 h' with rfl | h'
      · exact .inr rfl
      · exact .inl (List.mem_cons_of_mem _ h')
    · rcases List.mem_cons.1 h' with rfl | h'
      · exact .inl List.mem_cons_self
      · exact (ih h').imp (List.mem_cons_of_mem _) id
end
end Go.Proofs.YtbakhdgiimjnkaaGreatDoor

/-
  Numbers as bytes, seven bits each: laying and reading, plain. No program in sight.
-/
namespace Go.Proofs.YtbakhdgiimjnkaaGreatDoor

/-- a number that is read: itself and how many bytes it has -/
def numGo : List UInt8 → Nat → Nat → Option (Nat × Nat)
  | [], _, _ => none
  | x :: l, i, acc =>
    if 10 ≤ i then none
    else if 128 ≤ x.toNat then numGo l (i + 1) (acc ||| ((x.toNat % 128) <<< (7 * i)) % 18446744073709551616)
    else if (x.toNat = 0 ∧ 0 < i) ∨ (i = 9 ∧ 1 < x.toNat) then none
    else some (acc ||| ((x.toNat % 128) <<< (7 * i)) % 18446744073709551616, i + 1)
/-- a reader: bytes ahead, and whether it has failed -/
structure Rd where
  b : List UInt8
  bad : Bool
end Go.Proofs.YtbakhdgiimjnkaaGreatDoor

/-
  A version's bytes, plain: laying, reading, and that reading brings back what was laid. No program in sight.
-/
namespace Go.Proofs.YtbakhdgiimjnkaaGreatDoor

structure MF where
  num : Int
  level : Int
  first : List UInt8
  last : List UInt8
structure MV where
  files : List MF
  next : Int
  seq : Nat
  log : Int
/-- may a file be? -/
structure GoodF (next : Int) (f : MF) : Prop where
  n1 : 1 ≤ f.num
  n2 : f.num < next
  l0 : 0 ≤ f.level
  l6 : f.level ≤ 6
  fl : f.first.length ≤ 256
  ll : f.last.length ≤ 256
structure GoodV (v : MV) : Prop where
  most : v.files.length ≤ 1000
  n1 : 1 ≤ v.next
  n2 : v.next ≤ 999999
  l1 : 0 ≤ v.log
  l2 : v.log ≤ 999999
  all : ∀ f ∈ v.files, GoodF v.next f
  nodup : (v.files.map (·.num)).Nodup
end Go.Proofs.YtbakhdgiimjnkaaGreatDoor

/-
  A file system that crashes, plain: names, what is safe of them, the changes since; files by numbers. No program in sight.
-/
namespace Go.Proofs.YtbakhdgiimjnkaaGreatDoor
noncomputable section

abbrev Nm := List UInt8
/-- a list of names and files: the first one counts -/
abbrev Nms := List (Nm × Nat)
/-- a change of the directory: a file gets a name, and a name is gone -/
structure Chg where
  name : Nm
  file : Option Nat
  gone : Nm
def Chg.go (l : Nms) (c : Chg) : Nms :=
  match c.file with
  | none => if c.gone = [] then l else adel l c.gone
  | some f => aput (if c.gone = [] then l else adel l c.gone) c.name f
/-- a file: its bytes, how many are safe -/
structure DF where
  bytes : List UInt8
  safe : Nat
structure DD where
  quota : Int
  names : Nms
  safe : Nms
  chgs : List Chg
  appends : Int
  syncs : Int
abbrev Fs := Nat → DF
def DD.total (d : DD) (F : Fs) : Nat := (d.names.map fun e => (F e.2).bytes.length).sum
def DD.keys (d : DD) : List Nm := Abs.sortB (akeys d.names)
/-- a pick modulo a number -/
def pickN (picks : List Int) (i n : Nat) : Nat :=
  match picks[i]? with
  | none => 0
  | some p => if p < 0 then 0 else p.toNat % n
def Fs.put (F : Fs) (i : Nat) (f : DF) : Fs := fun j => if j = i then f else F j
/-- what a crash leaves of a file -/
def cutF (picks : List Int) (i : Nat) (f : DF) : DF :=
  let n := f.safe + pickN picks (i + 1) (f.bytes.length - f.safe + 1)
  ⟨f.bytes.take n, n⟩
def cutFs (picks : List Int) (l : Nms) : List Nm → Nat → Fs → Fs
  | [], _, F => F
  | k :: ks, i, F => match aget l k with
    | none => cutFs picks l ks (i + 1) F
    | some f => cutFs picks l ks (i + 1) (F.put f (cutF picks i (F f)))
def DD.kept (d : DD) (picks : List Int) : Nms := (d.chgs.take (pickN picks 0 (d.chgs.length + 1))).foldl Chg.go d.safe
def DD.crash (d : DD) (picks : List Int) : DD := { d with names := d.kept picks, safe := d.kept picks, chgs := [] }
def DD.crashF (d : DD) (picks : List Int) (F : Fs) : Fs := cutFs picks (d.kept picks) (Abs.sortB (akeys (d.kept picks))) 0 F
theorem pickN_lt (picks : List Int) (i n : Nat) (h : 0 < n) : pickN picks i n < n := by
  unfold pickN
  split
  · exact h
  · split
    · exact h
    · exact Nat.mod_lt _ h
end
end Go.Proofs.YtbakhdgiimjnkaaGreatDoor

/-
  Frames, plain: a payload's length and sum, and the payload; what a scan tells. No program in sight.
-/
namespace Go.Proofs.YtbakhdgiimjnkaaGreatDoor
noncomputable section
def le32 (n : Nat) : List UInt8 := [UInt8.ofNat (n % 256), UInt8.ofNat (n / 256 % 256), UInt8.ofNat (n / 65536 % 256), UInt8.ofNat (n / 16777216 % 256)]
def rd32 (l : List UInt8) : Nat :=
  match l with
  | a :: b :: c :: d :: _ => a.toNat + b.toNat * 256 + c.toNat * 65536 + d.toNat * 16777216
  | _ => 0
theorem le32_len (n : Nat) : (le32 n).length = 4 := rfl
theorem rd32_le32 {n : Nat} (h : n < 4294967296) (x : List UInt8) : rd32 (le32 n ++ x) = n := by
  show (UInt8.ofNat (n % 256)).toNat + (UInt8.ofNat (n / 256 % 256)).toNat * 256 + (UInt8.ofNat (n / 65536 % 256)).toNat * 65536 + (UInt8.ofNat (n / 16777216 % 256)).toNat * 16777216 = n
  simp only [UInt8.toNat_ofNat']
  omega
theorem rd32_lt (l : List UInt8) : rd32 l < 4294967296 := by
  unfold rd32
  split
  · rename_i a b c d _
    have := a.toNat_lt; have := b.toNat_lt; have := c.toNat_lt; have := d.toNat_lt
    omega
  · omega
/-- a sum that goes on -/
def moreN (c : Nat) (l : List UInt8) : Nat := 4294967295 ^^^ (l.foldl (fun c b => crcByte c b.toNat) (4294967295 ^^^ c))
def sumN (length payload : List UInt8) : Nat := moreN (moreN 0 length) payload
theorem crcGo_bytes : ∀ (l : List UInt8) (c : Nat), crcGo (Abs.byteCells l) c = some (l.foldl (fun c b => crcByte c b.toNat) c)
  | [], c => rfl
  | b :: l, c => by
    have h : b.toNat < 256 := b.toNat_lt
    show crcStep (.int .u8 (Int.ofNat b.toNat)) c (crcGo (Abs.byteCells l)) = _
    unfold crcStep
    show Abs.ifb (Nat.blt b.toNat 256) (Abs.natK (crcByte c b.toNat) (crcGo (Abs.byteCells l))) none = _
    rw [show Nat.blt b.toNat 256 = true by simpa using h]
    show Abs.natK (crcByte c b.toNat) (crcGo (Abs.byteCells l)) = _
    rw [Abs.natK_eq, crcGo_bytes l]
    rfl
def frameB (p : List UInt8) : List UInt8 := le32 p.length ++ (le32 (sumN (le32 p.length) p) ++ p)
theorem frameB_len (p : List UInt8) : (frameB p).length = 8 + p.length := by
  unfold frameB
  rw [List.length_append, List.length_append, le32_len, le32_len]
  omega
/-- the payloads, how many bytes they took, and how the rest is: 0 none, 1 cut, 2 wrong -/
def scanB (b : List UInt8) : List (List UInt8) × Nat × Nat :=
  if b.length = 0 then ([], 0, 0)
  else if b.length < 8 then ([], 0, 1)
  else if 65536 < rd32 b then ([], 0, 2)
  else if b.length - 8 < rd32 b then ([], 0, 1)
  else if rd32 (b.drop 4) ≠ sumN (b.take 4) ((b.drop 8).take (rd32 b)) then ([], 0, 2)
  else
    let r := scanB (b.drop (8 + rd32 b))
    ((b.drop 8).take (rd32 b) :: r.1, 8 + rd32 b + r.2.1, r.2.2)
termination_by b.length
decreasing_by simp only [List.length_drop]; omega
theorem scanB_eq (b : List UInt8) : scanB b = if b.length = 0 then ([], 0, 0)
  else if b.length < 8 then ([], 0, 1)
  else if 65536 < rd32 b then ([], 0, 2)
  else if b.length - 8 < rd32 b then ([], 0, 1)
  else if rd32 (b.drop 4) ≠ sumN (b.take 4) ((b.drop 8).take (rd32 b)) then ([], 0, 2)
  else ((b.drop 8).take (rd32 b) :: (scanB (b.drop (8 + rd32 b))).1, 8 + rd32 b + (scanB (b.drop (8 + rd32 b))).2.1, (scanB (b.drop (8 + rd32 b))).2.2) := by
  conv => lhs; rw [scanB]
theorem moreN_lt {c : Nat} (hc : c < 4294967296) (l : List UInt8) (hb : ∀ c b, c < 4294967296 → crcByte c b < 4294967296 ∨ 256 ≤ b) : moreN c l < 4294967296 := by
  have key : ∀ (l : List UInt8) (c : Nat), c < 4294967296 → l.foldl (fun c b => crcByte c b.toNat) c < 4294967296 := by
    intro l
    induction l with
    | nil => exact fun c h => h
    | cons b l ih => exact fun c h => ih _ ((hb c b.toNat h).resolve_right (by have := b.toNat_lt; omega))
  exact Nat.xor_lt_two_pow (n := 32) (by decide) (key l _ (Nat.xor_lt_two_pow (n := 32) (by decide) hc))
/-- a frame is read back, and what stands behind it -/
theorem scanB_frame {p : List UInt8} (hp : p.length ≤ 65536) (hs : sumN (le32 p.length) p < 4294967296) (x : List UInt8) : scanB (frameB p ++ x) = (p :: (scanB x).1, 8 + p.length + (scanB x).2.1, (scanB x).2.2) := by
  rw [scanB]
  have hl : (frameB p ++ x).length = 8 + p.length + x.length := by rw [List.length_append, frameB_len]
  have h1 : rd32 (frameB p ++ x) = p.length := by
    unfold frameB
    rw [List.append_assoc]
    exact rd32_le32 (by omega) _
  have d4 : (frameB p ++ x).drop 4 = le32 (sumN (le32 p.length) p) ++ (p ++ x) := by
    unfold frameB
    rw [List.append_assoc, List.append_assoc, List.drop_left' (le32_len _)]
  have d8 : (frameB p ++ x).drop 8 = p ++ x := by
    rw [show (8 : Nat) = 4 + 4 from rfl, ← List.drop_drop, d4, List.drop_left' (le32_len _)]
  have t4 : (frameB p ++ x).take 4 = le32 p.length := by
    unfold frameB
    rw [List.append_assoc, List.take_left' (le32_len _)]
  have d9 : (frameB p ++ x).drop (8 + p.length) = x := by
    rw [← List.drop_drop, d8, List.drop_left' rfl]
  rw [if_neg (by omega), if_neg (by omega), h1, if_neg (by omega), if_neg (by omega), d4, d8, t4, d9, List.take_left' rfl, rd32_le32 hs, if_neg (by simp)]
theorem scanB_nil : scanB [] = ([], 0, 0) := by rw [scanB]; rfl
end
end Go.Proofs.YtbakhdgiimjnkaaGreatDoor

