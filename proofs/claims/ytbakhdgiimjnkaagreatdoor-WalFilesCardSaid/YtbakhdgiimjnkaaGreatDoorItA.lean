/-
  The evaluator and what is proved of it (several texts in one).
-/
import Derived.Test.YtbakhdgiimjnkaaGreatDoorEvB
import Derived.Test.YtbakhdgiimjnkaaGreatDoorTy
import Derived.Test.YtbakhdgiimjnkaaGreatDoorSumDef
import Derived.Test.YtbakhdgiimjnkaaGreatDoorDkA
import Derived.Test.YtbakhdgiimjnkaaGreatDoorEvSet
set_option linter.unusedVariables false
set_option linter.unusedSimpArgs false
/-
  strconv.Itoa of a number below a million, at the evaluator.
-/
namespace Go.Proofs.YtbakhdgiimjnkaaGreatDoor
open Abs
set_option maxHeartbeats 16000000
set_option maxRecDepth 20000
set_option linter.unusedSimpArgs false
attribute [local irreducible] Abs.Ev Abs.EvF Abs.EvO Abs.EvA Abs.Seq Abs.Blk Abs.Body Abs.Scp Abs.EvG Abs.EvAg Abs.Nx
attribute [local go_sem] Tryz.underlying2 Ty.sz2 Ty.by2 Ty.ag2 Ty.ze2 Tryz.underlying3 Ty.sz3 Ty.by3 Ty.ag3 Ty.ze3 Tryz.underlying4 Ty.sz4 Ty.by4 Ty.ag4 Ty.ze4 Tryz.underlying5 Ty.sz5 Ty.by5 Ty.ag5 Ty.ze5 Tryz.underlying9 Ty.sz9 Ty.by9 Ty.ag9 Ty.ze9 Tryz.underlying24 Ty.sz24 Ty.by24 Ty.ag24 Ty.ze24 Tryz.underlying28 Ty.sz28 Ty.by28 Ty.ag28 Ty.ze28 Tryz.underlying121 Ty.sz121 Ty.by121 Ty.ag121 Ty.ze121 Tryz.underlying176 Ty.sz176 Ty.by176 Ty.ag176 Ty.ze176 Tryz.underlying196 Ty.sz196 Ty.by196 Ty.ag196 Ty.ze196
section
variable {Sm : Summ} {Q : Ans → Prop}
def pow10L : List Int := [1, 10, 100, 1000, 10000, 100000, 1000000, 10000000, 100000000, 1000000000, 10000000000, 100000000000, 1000000000000, 10000000000000, 100000000000000, 1000000000000000, 10000000000000000, 100000000000000000, 1000000000000000000, 10000000000000000000]
def dig (n : Nat) : UInt8 := UInt8.ofNat (48 + n % 10)
/-- how many digits (below a million) -/
def ndig (n : Nat) : Nat := if n < 10 then 1 else if n < 100 then 2 else if n < 1000 then 3 else if n < 10000 then 4 else if n < 100000 then 5 else 6
def six (n : Nat) : List UInt8 := [dig (n / 100000), dig (n / 10000), dig (n / 1000), dig (n / 100), dig (n / 10), dig n]
def decB (n : Nat) : List UInt8 := (six n).drop (6 - ndig n)
structure NoItoa (Sm : Summ) : Prop where
  itoa : Sm 58 = none
  iitoa : Sm 87 = none
  format : Sm 114 = none
  small : Sm 131 = none
  num : Sm 132 = none
  base : Sm 133 = none
  len : Sm 147 = none
  log : Sm 153 = none
  bool : Sm 154 = none
def bitLen (n : Nat) : Nat := if n < 1 then 0 else if n < 2 then 1 else if n < 4 then 2 else if n < 8 then 3 else if n < 16 then 4 else if n < 32 then 5 else if n < 64 then 6 else if n < 128 then 7 else 8
def bitLen20 (n : Nat) : Nat := if n < 256 then bitLen n else if n < 65536 then 8 + bitLen (n / 256) else 16 + bitLen (n / 65536)
theorem bitLen_lt (n : Nat) : bitLen n < 9 := by
  unfold bitLen
  repeat' split
  all_goals omega
theorem tab_at {L : List UInt8} {f : Nat → UInt8} {i m : Nat} (hL : L = (List.range m).map f) (hi : i < m) : L[i]? = some (f i) := by
  rw [hL, List.getElem?_map, List.getElem?_range hi]
  rfl
theorem bitLen_nat (n : Nat) : (UInt8.ofNat (bitLen n)).toNat = bitLen n := by
  have := bitLen_lt n
  rw [UInt8.toNat_ofNat']
  exact Nat.mod_eq_of_lt (by omega)
theorem len64_ev (hn : NoItoa Sm) {s : St} {n : Nat} (h20 : n < 1000000) (h : Q (.val (.int .i64 ((bitLen20 n : Nat) : Int)) s)) :
    Ev Tryz.prog Sm (.inv (.fn (.func 147) #[]) [.int .u64 (n : Int)] s) Q := by
  refine Ev.func hn.len Tryz.func147 rfl (m := 25) rfl ?_
  simp only [Array.toList_empty, List.append_nil, ofList_cons, ofList_nil]
  (try first | refine EvO.nx ?_ | refine EvA.nx ?_); repeat' (first | refine Abs.go ?_ | with_reducible refine Abs.fork (fun hb => ?_) (fun hb => ?_))
  · rw [tab_at (f := fun i => UInt8.ofNat (bitLen i)) (m := 256) (i := n >>> 16) ?hL (by rw [Nat.shiftRight_eq_div_pow]; omega)]
    case hL => kernel_rfl
    (try first | refine EvO.nx ?_ | refine EvA.nx ?_); repeat' (first | refine Abs.go ?_ | with_reducible refine Abs.fork (fun hb => ?_) (fun hb => ?_))
    rw [bitLen_nat, Nat.shiftRight_eq_div_pow]
    unfold bitLen20 at h
    rw [if_neg (by omega), if_neg (by omega), Int.natCast_add] at h
    have hbl := bitLen_lt (n / 2 ^ 16)
    simp (disch := omega) only [Abs.wrap_i64]
    exact h
  · rw [tab_at (f := fun i => UInt8.ofNat (bitLen i)) (m := 256) (i := n >>> 8) ?hL (by rw [Nat.shiftRight_eq_div_pow]; omega)]
    case hL => kernel_rfl
    (try first | refine EvO.nx ?_ | refine EvA.nx ?_); repeat' (first | refine Abs.go ?_ | with_reducible refine Abs.fork (fun hb => ?_) (fun hb => ?_))
    rw [bitLen_nat, Nat.shiftRight_eq_div_pow]
    unfold bitLen20 at h
    rw [if_neg (by omega), if_pos (by omega), Int.natCast_add] at h
    have hbl := bitLen_lt (n / 2 ^ 8)
    simp (disch := omega) only [Abs.wrap_i64]
    exact h
  · rw [tab_at (f := fun i => UInt8.ofNat (bitLen i)) (m := 256) (i := n) ?hL (by omega)]
    case hL => kernel_rfl
    (try first | refine EvO.nx ?_ | refine EvA.nx ?_); repeat' (first | refine Abs.go ?_ | with_reducible refine Abs.fork (fun hb => ?_) (fun hb => ?_))
    rw [bitLen_nat]
    unfold bitLen20 at h
    rw [if_pos (by omega)] at h
    have hbl := bitLen_lt n
    simp (disch := omega) only [Abs.wrap_i64, Int.zero_add]
    exact h
theorem pow_at {i : Nat} (h : i < 7) : (pow10L.map fun z => Value.int .u64 z)[i]? = some (.int .u64 ((10 ^ i : Nat) : Int)) := by
  match i, h with
  | 0, _ => rfl
  | 1, _ => rfl
  | 2, _ => rfl
  | 3, _ => rfl
  | 4, _ => rfl
  | 5, _ => rfl
  | 6, _ => rfl
theorem num_digits {n : Nat} (h0 : 100 ≤ n) (h1 : n < 1000000) : bitLen20 n * 78913 / 262144 < 7 ∧ bitLen20 n * 78913 / 262144 + (if 10 ^ (bitLen20 n * 78913 / 262144) ≤ n then 1 else 0) = ndig n := by
  unfold bitLen20 bitLen ndig
  repeat' split
  all_goals (first | omega | (refine ⟨by omega, ?_⟩; simp only [Nat.reduceMul, Nat.reduceAdd, Nat.reduceDiv, Nat.reducePow] at *; omega) | (exfalso; simp only [Nat.reduceMul, Nat.reduceAdd, Nat.reduceDiv, Nat.reducePow] at *; omega))
theorem numDigits_ev (hn : NoItoa Sm) {s : St} {e : TypeId} (hT : s.heap.get 0 = some (.const (pow10L.map fun z => Value.int .u64 z) e)) {n : Nat} (h0 : 100 ≤ n) (h20 : n < 1000000) (h : Q (.val (.int .i64 ((ndig n : Nat) : Int)) s)) :
    Ev Tryz.prog Sm (.inv (.fn (.func 132) #[]) [.int .u64 (n : Int)] s) Q := by
  refine Ev.func hn.num Tryz.func132 rfl (m := 15) rfl ?_
  simp only [Array.toList_empty, List.append_nil, ofList_cons, ofList_nil]
  (try first | refine EvO.nx ?_ | refine EvA.nx ?_); repeat' (first | refine Abs.go ?_ | with_reducible refine Abs.fork (fun hb => ?_) (fun hb => ?_))
  refine len64_ev hn h20 ⟨_, _, rfl, ?_⟩
  obtain ⟨hd1, hd2⟩ := num_digits h0 h20
  generalize bitLen20 n = L at *
  (try first | refine EvO.nx ?_ | refine EvA.nx ?_); repeat' (first | refine Abs.go ?_ | with_reducible refine Abs.fork (fun hb => ?_) (fun hb => ?_))
  refine Ev.func hn.log Tryz.func153 rfl (m := 6) rfl ?_
  simp only [Array.toList_empty, List.append_nil, ofList_cons, ofList_nil]
  (try first | refine EvO.nx ?_ | refine EvA.nx ?_); repeat' (first | refine Abs.go ?_ | with_reducible refine Abs.fork (fun hb => ?_) (fun hb => ?_))
  refine ⟨_, _, rfl, ?_⟩
  have e1 : ((L : Int) * 78913).toNat >>> 18 = L * 78913 / 262144 := by
    rw [Nat.shiftRight_eq_div_pow]
    omega
  rw [e1]
  generalize L * 78913 / 262144 = k at *
  have hp := pow_at hd1
  (try first | refine EvO.nx ?_ | refine EvA.nx ?_); repeat' (first | refine Abs.goH (Abs.cc hT (hp)) ?_ | with_reducible refine Abs.fork (fun hb => ?_) (fun hb => ?_))
  have hb2 : ∀ (c : Bool) (Q' : Ans → Prop), Q' (.val (.int .i64 (if c = true then 1 else 0)) s) → Ev Tryz.prog Sm (.inv (.fn (.func 154) #[]) [.bool c] s) Q' := fun c Q' hq => by
    refine Ev.func hn.bool Tryz.func154 rfl (m := 4) rfl ?_
    simp only [Array.toList_empty, List.append_nil, ofList_cons, ofList_nil]
    cases c with
    | true =>
      (try first | refine EvO.nx ?_ | refine EvA.nx ?_); repeat' (first | refine Abs.go ?_ | with_reducible refine Abs.fork (fun hb => ?_) (fun hb => ?_))
      exact hq
    | false =>
      (try first | refine EvO.nx ?_ | refine EvA.nx ?_); repeat' (first | refine Abs.go ?_ | with_reducible refine Abs.fork (fun hb => ?_) (fun hb => ?_))
      exact hq
  refine hb2 _ _ ⟨_, _, rfl, ?_⟩
  have hk : (10 ^ k : Nat) ≤ 1000000 := by
    have : (10 : Nat) ^ k ≤ 10 ^ 6 := Nat.pow_le_pow_right (by decide) (by omega)
    simpa using this
  by_cases hx : 10 ^ k ≤ n
  · have hx2 : (((10 ^ k : Nat) : Int) ≤ (n : Int)) := by exact_mod_cast hx
    rw [if_pos hx] at hd2
    simp only [hx2, decide_true, if_true]
    (try first | refine EvO.nx ?_ | refine EvA.nx ?_); repeat' (first | refine Abs.go ?_ | with_reducible refine Abs.fork (fun hb => ?_) (fun hb => ?_))
    rw [show ((k : Int) + 1) = ((ndig n : Nat) : Int) by omega]
    exact h
  · have hx2 : ¬ (((10 ^ k : Nat) : Int) ≤ (n : Int)) := by exact_mod_cast hx
    rw [if_neg hx] at hd2
    simp only [hx2, decide_false, Bool.false_eq_true, if_false]
    (try first | refine EvO.nx ?_ | refine EvA.nx ?_); repeat' (first | refine Abs.go ?_ | with_reducible refine Abs.fork (fun hb => ?_) (fun hb => ?_))
    rw [show ((k : Int) + 0) = ((ndig n : Nat) : Int) by omega]
    exact h
/-- the string of pairs of digits -/
def smF (i : Nat) : UInt8 := if i % 2 = 0 then UInt8.ofNat (48 + i / 20) else UInt8.ofNat (48 + i / 2 % 10)
theorem tmod_100 (n : Nat) : (n : Int).tmod 100 = ((n % 100 : Nat) : Int) := by rw [Int.tmod_eq_emod_of_nonneg (by omega)]; rfl
theorem tmod_10000 (n : Nat) : (n : Int).tmod 10000 = ((n % 10000 : Nat) : Int) := by rw [Int.tmod_eq_emod_of_nonneg (by omega)]; rfl
theorem tdiv_100 (n : Nat) : (n : Int).tdiv 100 = ((n / 100 : Nat) : Int) := by rw [Int.tdiv_eq_ediv_of_nonneg (by omega)]; rfl
theorem tdiv_10000 (n : Nat) : (n : Int).tdiv 10000 = ((n / 10000 : Nat) : Int) := by rw [Int.tdiv_eq_ediv_of_nonneg (by omega)]; rfl
theorem smF_odd (k : Nat) (h : k < 100) : (smF (k * 2 + 1)).toNat = 48 + k % 10 := by
  unfold smF
  rw [if_neg (by omega), UInt8.toNat_ofNat', Nat.mod_eq_of_lt (by omega)]
  omega
theorem smF_even (k : Nat) (h : k < 100) : (smF (k * 2)).toNat = 48 + k / 10 := by
  unfold smF
  rw [if_pos (by omega), UInt8.toNat_ofNat', Nat.mod_eq_of_lt (by omega)]
  omega
theorem dig_nat (n : Nat) : (dig n).toNat = 48 + n % 10 := by
  unfold dig
  rw [UInt8.toNat_ofNat', Nat.mod_eq_of_lt (by omega)]
theorem byte3 (a b c : UInt8) : byteCells [a, b, c] = [.int .u8 (a.toNat : Int), .int .u8 (b.toNat : Int), .int .u8 (c.toNat : Int)] := by rw [byteCells_eq]; rfl
theorem byte4 (a b c d : UInt8) : byteCells [a, b, c, d] = [.int .u8 (a.toNat : Int), .int .u8 (b.toNat : Int), .int .u8 (c.toNat : Int), .int .u8 (d.toNat : Int)] := by rw [byteCells_eq]; rfl
theorem byte5 (a b c d e : UInt8) : byteCells [a, b, c, d, e] = [.int .u8 (a.toNat : Int), .int .u8 (b.toNat : Int), .int .u8 (c.toNat : Int), .int .u8 (d.toNat : Int), .int .u8 (e.toNat : Int)] := by rw [byteCells_eq]; rfl
theorem byte6 (a b c d e f : UInt8) : byteCells [a, b, c, d, e, f] = [.int .u8 (a.toNat : Int), .int .u8 (b.toNat : Int), .int .u8 (c.toNat : Int), .int .u8 (d.toNat : Int), .int .u8 (e.toNat : Int), .int .u8 (f.toNat : Int)] := by rw [byteCells_eq]; rfl
attribute [local go_sem] List.length_replicate List.length_set tmod_100 tmod_10000 tdiv_100 tdiv_10000 Nat.zero_mul Nat.sub_zero Nat.div_one
theorem base10_3 (hn : NoItoa Sm) {s : St} {b c : Nat} (hb : s.heap.get b = some (.cells (List.replicate 24 (.int .u8 0)) 176 0 false (0, 0))) {n : Nat} (h0 : 100 ≤ n) (h1 : n < 1000)
    (h : ∀ s' l, cutN l 1 3 = some (byteCells (decB n)) → s'.heap.get b = some (.cells l 176 0 false (0, 0)) → (∀ s0, s0.wf → Keep s0 s → s0.next ≤ b → Keep s0 s') → Q (.val (.tuple #[]) s')) :
    Ev Tryz.prog Sm (.inv (.fn (.func 133) #[]) [.slice (some ⟨b, 1, none⟩) 3 c, .int .u64 (n : Int)] s) Q := by
  refine Ev.func hn.base Tryz.func133 rfl (m := 167) rfl ?_
  simp only [Array.toList_empty, List.append_nil, ofList_cons, ofList_nil]
  (try first | refine EvO.nx ?_ | refine EvA.nx ?_); repeat' (first | refine Abs.go ?_ | with_reducible refine Abs.fork (fun hb => ?_) (fun hb => ?_))
  refine Ev.loop (fun _ a' s' => a' = _ ∧ s' = _) (k := 0) ⟨rfl, rfl⟩ ?_
  rintro k a' s' ⟨rfl, rfl⟩
  (try first | refine EvO.nx ?_ | refine EvA.nx ?_); repeat' (first | refine Abs.go ?_ | with_reducible refine Abs.fork (fun hb => ?_) (fun hb => ?_))
  (try first | refine EvO.nx ?_ | refine EvA.nx ?_); repeat' (first | refine Abs.goH hb ?_ | with_reducible refine Abs.fork (fun hb => ?_) (fun hb => ?_))
  refine Abs.Ev.regionD (n := 0) (l := [.go 0, .go 1, .go 2, .go 3, .go 4, .go 5, .go 6, .go 7, .go 8, .go 9, .go 10, .go 11, .go 12, .go 13, .go 14]) (by kernel_rfl) ?_
  (try first | refine EvO.nx ?_ | refine EvA.nx ?_); repeat' (first | refine Abs.goH hb ?_ | with_reducible refine Abs.fork (fun hb => ?_) (fun hb => ?_))
  have ei : ((((n % 100) : Nat) : Int) * 2 + 1).toNat = (n % 100) * 2 + 1 := by omega
  rw [tab_at (f := smF) (m := 200) ?hL (by omega), ei]
  case hL => kernel_rfl
  clear ei
  have es := smF_odd (n % 100) (by omega)
  (try first | refine EvO.nx ?_ | refine EvA.nx ?_); repeat' (first | refine Abs.goH (Abs.cc es (hb)) ?_ | with_reducible refine Abs.fork (fun hb => ?_) (fun hb => ?_))
  clear es
  have ei : ((((n % 100) : Nat) : Int) * 2).toNat = (n % 100) * 2 := by omega
  rw [tab_at (f := smF) (m := 200) ?hL (by omega), ei]
  case hL => kernel_rfl
  clear ei
  have es := smF_even (n % 100) (by omega)
  (try first | refine EvO.nx ?_ | refine EvA.nx ?_); repeat' (first | refine Abs.goH (Abs.cc es (hb)) ?_ | with_reducible refine Abs.fork (fun hb => ?_) (fun hb => ?_))
  clear es
  have hd : decB n = [dig (n / 100), dig (n / 10), dig n] := by
    unfold decB
    rw [show ndig n = 3 by unfold ndig; repeat' (first | rw [if_neg (by omega)] | rw [if_pos (by omega)])]
    rfl
  refine h _ _ ?_ (get_same _ _ _) fun s0 hwf k hlo => ?_
  · rw [hd, byte3]
    simp only [dig_nat]
    refine (show _ = some [_, _, _] from rfl).trans ?_
    refine congrArg some ?_
    simp only [List.cons.injEq, Value.int.injEq, true_and, and_true]
    omega
  · have hlt := k.wf _ _ hb
    ((repeat (refine Abs.Keep.set2 ?_ (by omega) (by omega) hwf)); exact Abs.Keep.grow k (by omega))
theorem base10_4 (hn : NoItoa Sm) {s : St} {b c : Nat} (hb : s.heap.get b = some (.cells (List.replicate 24 (.int .u8 0)) 176 0 false (0, 0))) {n : Nat} (h0 : 1000 ≤ n) (h1 : n < 10000)
    (h : ∀ s' l, cutN l 1 4 = some (byteCells (decB n)) → s'.heap.get b = some (.cells l 176 0 false (0, 0)) → (∀ s0, s0.wf → Keep s0 s → s0.next ≤ b → Keep s0 s') → Q (.val (.tuple #[]) s')) :
    Ev Tryz.prog Sm (.inv (.fn (.func 133) #[]) [.slice (some ⟨b, 1, none⟩) 4 c, .int .u64 (n : Int)] s) Q := by
  refine Ev.func hn.base Tryz.func133 rfl (m := 167) rfl ?_
  simp only [Array.toList_empty, List.append_nil, ofList_cons, ofList_nil]
  (try first | refine EvO.nx ?_ | refine EvA.nx ?_); repeat' (first | refine Abs.go ?_ | with_reducible refine Abs.fork (fun hb => ?_) (fun hb => ?_))
  refine Ev.loop (fun _ a' s' => a' = _ ∧ s' = _) (k := 0) ⟨rfl, rfl⟩ ?_
  rintro k a' s' ⟨rfl, rfl⟩
  (try first | refine EvO.nx ?_ | refine EvA.nx ?_); repeat' (first | refine Abs.go ?_ | with_reducible refine Abs.fork (fun hb => ?_) (fun hb => ?_))
  (try first | refine EvO.nx ?_ | refine EvA.nx ?_); repeat' (first | refine Abs.goH hb ?_ | with_reducible refine Abs.fork (fun hb => ?_) (fun hb => ?_))
  refine Abs.Ev.regionD (n := 0) (l := [.go 0, .go 1, .go 2, .go 3, .go 4, .go 5, .go 6, .go 7, .go 8, .go 9, .go 10, .go 11, .go 12, .go 13, .go 14]) (by kernel_rfl) ?_
  (try first | refine EvO.nx ?_ | refine EvA.nx ?_); repeat' (first | refine Abs.goH hb ?_ | with_reducible refine Abs.fork (fun hb => ?_) (fun hb => ?_))
  have ei : ((((n % 10000 % 100) : Nat) : Int) * 2 + 1).toNat = (n % 10000 % 100) * 2 + 1 := by omega
  rw [tab_at (f := smF) (m := 200) ?hL (by omega), ei]
  case hL => kernel_rfl
  clear ei
  have es := smF_odd (n % 10000 % 100) (by omega)
  (try first | refine EvO.nx ?_ | refine EvA.nx ?_); repeat' (first | refine Abs.goH (Abs.cc es (hb)) ?_ | with_reducible refine Abs.fork (fun hb => ?_) (fun hb => ?_))
  clear es
  have ei : ((((n % 10000 % 100) : Nat) : Int) * 2).toNat = (n % 10000 % 100) * 2 := by omega
  rw [tab_at (f := smF) (m := 200) ?hL (by omega), ei]
  case hL => kernel_rfl
  clear ei
  have es := smF_even (n % 10000 % 100) (by omega)
  (try first | refine EvO.nx ?_ | refine EvA.nx ?_); repeat' (first | refine Abs.goH (Abs.cc es (hb)) ?_ | with_reducible refine Abs.fork (fun hb => ?_) (fun hb => ?_))
  clear es
  refine Abs.Ev.regionD (n := 0) (l := [.go 0, .go 1, .go 2, .go 3, .go 4, .go 5, .go 6, .go 7, .go 8, .go 9, .go 10, .go 11, .go 12, .go 13, .go 14]) (by kernel_rfl) ?_
  (try first | refine EvO.nx ?_ | refine EvA.nx ?_); repeat' (first | refine Abs.goH hb ?_ | with_reducible refine Abs.fork (fun hb => ?_) (fun hb => ?_))
  have ei : ((((n % 10000 / 100) : Nat) : Int) * 2 + 1).toNat = (n % 10000 / 100) * 2 + 1 := by omega
  rw [tab_at (f := smF) (m := 200) ?hL (by omega), ei]
  case hL => kernel_rfl
  clear ei
  have es := smF_odd (n % 10000 / 100) (by omega)
  (try first | refine EvO.nx ?_ | refine EvA.nx ?_); repeat' (first | refine Abs.goH (Abs.cc es (hb)) ?_ | with_reducible refine Abs.fork (fun hb => ?_) (fun hb => ?_))
  clear es
  have ei : ((((n % 10000 / 100) : Nat) : Int) * 2).toNat = (n % 10000 / 100) * 2 := by omega
  rw [tab_at (f := smF) (m := 200) ?hL (by omega), ei]
  case hL => kernel_rfl
  clear ei
  have es := smF_even (n % 10000 / 100) (by omega)
  (try first | refine EvO.nx ?_ | refine EvA.nx ?_); repeat' (first | refine Abs.goH (Abs.cc es (hb)) ?_ | with_reducible refine Abs.fork (fun hb => ?_) (fun hb => ?_))
  clear es
  have hd : decB n = [dig (n / 1000), dig (n / 100), dig (n / 10), dig n] := by
    unfold decB
    rw [show ndig n = 4 by unfold ndig; repeat' (first | rw [if_neg (by omega)] | rw [if_pos (by omega)])]
    rfl
  refine h _ _ ?_ (get_same _ _ _) fun s0 hwf k hlo => ?_
  · rw [hd, byte4]
    simp only [dig_nat]
    refine (show _ = some [_, _, _, _] from rfl).trans ?_
    refine congrArg some ?_
    simp only [List.cons.injEq, Value.int.injEq, true_and, and_true]
    omega
  · have hlt := k.wf _ _ hb
    ((repeat (refine Abs.Keep.set2 ?_ (by omega) (by omega) hwf)); exact Abs.Keep.grow k (by omega))
theorem base10_5 (hn : NoItoa Sm) {s : St} {b c : Nat} (hb : s.heap.get b = some (.cells (List.replicate 24 (.int .u8 0)) 176 0 false (0, 0))) {n : Nat} (h0 : 10000 ≤ n) (h1 : n < 100000)
    (h : ∀ s' l, cutN l 1 5 = some (byteCells (decB n)) → s'.heap.get b = some (.cells l 176 0 false (0, 0)) → (∀ s0, s0.wf → Keep s0 s → s0.next ≤ b → Keep s0 s') → Q (.val (.tuple #[]) s')) :
    Ev Tryz.prog Sm (.inv (.fn (.func 133) #[]) [.slice (some ⟨b, 1, none⟩) 5 c, .int .u64 (n : Int)] s) Q := by
  refine Ev.func hn.base Tryz.func133 rfl (m := 167) rfl ?_
  simp only [Array.toList_empty, List.append_nil, ofList_cons, ofList_nil]
  (try first | refine EvO.nx ?_ | refine EvA.nx ?_); repeat' (first | refine Abs.go ?_ | with_reducible refine Abs.fork (fun hb => ?_) (fun hb => ?_))
  refine Ev.loop (fun _ a' s' => a' = _ ∧ s' = _) (k := 0) ⟨rfl, rfl⟩ ?_
  rintro k a' s' ⟨rfl, rfl⟩
  (try first | refine EvO.nx ?_ | refine EvA.nx ?_); repeat' (first | refine Abs.go ?_ | with_reducible refine Abs.fork (fun hb => ?_) (fun hb => ?_))
  (try first | refine EvO.nx ?_ | refine EvA.nx ?_); repeat' (first | refine Abs.goH hb ?_ | with_reducible refine Abs.fork (fun hb => ?_) (fun hb => ?_))
  refine Abs.Ev.regionD (n := 0) (l := [.go 0, .go 1, .go 2, .go 3, .go 4, .go 5, .go 6, .go 7, .go 8, .go 9, .go 10, .go 11, .go 12, .go 13, .go 14]) (by kernel_rfl) ?_
  (try first | refine EvO.nx ?_ | refine EvA.nx ?_); repeat' (first | refine Abs.goH hb ?_ | with_reducible refine Abs.fork (fun hb => ?_) (fun hb => ?_))
  have ei : ((((n % 10000 % 100) : Nat) : Int) * 2 + 1).toNat = (n % 10000 % 100) * 2 + 1 := by omega
  rw [tab_at (f := smF) (m := 200) ?hL (by omega), ei]
  case hL => kernel_rfl
  clear ei
  have es := smF_odd (n % 10000 % 100) (by omega)
  (try first | refine EvO.nx ?_ | refine EvA.nx ?_); repeat' (first | refine Abs.goH (Abs.cc es (hb)) ?_ | with_reducible refine Abs.fork (fun hb => ?_) (fun hb => ?_))
  clear es
  have ei : ((((n % 10000 % 100) : Nat) : Int) * 2).toNat = (n % 10000 % 100) * 2 := by omega
  rw [tab_at (f := smF) (m := 200) ?hL (by omega), ei]
  case hL => kernel_rfl
  clear ei
  have es := smF_even (n % 10000 % 100) (by omega)
  (try first | refine EvO.nx ?_ | refine EvA.nx ?_); repeat' (first | refine Abs.goH (Abs.cc es (hb)) ?_ | with_reducible refine Abs.fork (fun hb => ?_) (fun hb => ?_))
  clear es
  refine Abs.Ev.regionD (n := 0) (l := [.go 0, .go 1, .go 2, .go 3, .go 4, .go 5, .go 6, .go 7, .go 8, .go 9, .go 10, .go 11, .go 12, .go 13, .go 14]) (by kernel_rfl) ?_
  (try first | refine EvO.nx ?_ | refine EvA.nx ?_); repeat' (first | refine Abs.goH hb ?_ | with_reducible refine Abs.fork (fun hb => ?_) (fun hb => ?_))
  have ei : ((((n % 10000 / 100) : Nat) : Int) * 2 + 1).toNat = (n % 10000 / 100) * 2 + 1 := by omega
  rw [tab_at (f := smF) (m := 200) ?hL (by omega), ei]
  case hL => kernel_rfl
  clear ei
  have es := smF_odd (n % 10000 / 100) (by omega)
  (try first | refine EvO.nx ?_ | refine EvA.nx ?_); repeat' (first | refine Abs.goH (Abs.cc es (hb)) ?_ | with_reducible refine Abs.fork (fun hb => ?_) (fun hb => ?_))
  clear es
  have ei : ((((n % 10000 / 100) : Nat) : Int) * 2).toNat = (n % 10000 / 100) * 2 := by omega
  rw [tab_at (f := smF) (m := 200) ?hL (by omega), ei]
  case hL => kernel_rfl
  clear ei
  have es := smF_even (n % 10000 / 100) (by omega)
  (try first | refine EvO.nx ?_ | refine EvA.nx ?_); repeat' (first | refine Abs.goH (Abs.cc es (hb)) ?_ | with_reducible refine Abs.fork (fun hb => ?_) (fun hb => ?_))
  clear es
  have hd : decB n = [dig (n / 10000), dig (n / 1000), dig (n / 100), dig (n / 10), dig n] := by
    unfold decB
    rw [show ndig n = 5 by unfold ndig; repeat' (first | rw [if_neg (by omega)] | rw [if_pos (by omega)])]
    rfl
  refine h _ _ ?_ (get_same _ _ _) fun s0 hwf k hlo => ?_
  · rw [hd, byte5]
    simp only [dig_nat]
    refine (show _ = some [_, _, _, _, _] from rfl).trans ?_
    refine congrArg some ?_
    simp only [List.cons.injEq, Value.int.injEq, true_and, and_true]
    omega
  · have hlt := k.wf _ _ hb
    ((repeat (refine Abs.Keep.set2 ?_ (by omega) (by omega) hwf)); exact Abs.Keep.grow k (by omega))
theorem base10_6 (hn : NoItoa Sm) {s : St} {b c : Nat} (hb : s.heap.get b = some (.cells (List.replicate 24 (.int .u8 0)) 176 0 false (0, 0))) {n : Nat} (h0 : 100000 ≤ n) (h1 : n < 1000000)
    (h : ∀ s' l, cutN l 1 6 = some (byteCells (decB n)) → s'.heap.get b = some (.cells l 176 0 false (0, 0)) → (∀ s0, s0.wf → Keep s0 s → s0.next ≤ b → Keep s0 s') → Q (.val (.tuple #[]) s')) :
    Ev Tryz.prog Sm (.inv (.fn (.func 133) #[]) [.slice (some ⟨b, 1, none⟩) 6 c, .int .u64 (n : Int)] s) Q := by
  refine Ev.func hn.base Tryz.func133 rfl (m := 167) rfl ?_
  simp only [Array.toList_empty, List.append_nil, ofList_cons, ofList_nil]
  (try first | refine EvO.nx ?_ | refine EvA.nx ?_); repeat' (first | refine Abs.go ?_ | with_reducible refine Abs.fork (fun hb => ?_) (fun hb => ?_))
  refine Ev.loop (fun _ a' s' => a' = _ ∧ s' = _) (k := 0) ⟨rfl, rfl⟩ ?_
  rintro k a' s' ⟨rfl, rfl⟩
  (try first | refine EvO.nx ?_ | refine EvA.nx ?_); repeat' (first | refine Abs.go ?_ | with_reducible refine Abs.fork (fun hb => ?_) (fun hb => ?_))
  (try first | refine EvO.nx ?_ | refine EvA.nx ?_); repeat' (first | refine Abs.goH hb ?_ | with_reducible refine Abs.fork (fun hb => ?_) (fun hb => ?_))
  refine Abs.Ev.regionD (n := 0) (l := [.go 0, .go 1, .go 2, .go 3, .go 4, .go 5, .go 6, .go 7, .go 8, .go 9, .go 10, .go 11, .go 12, .go 13, .go 14]) (by kernel_rfl) ?_
  (try first | refine EvO.nx ?_ | refine EvA.nx ?_); repeat' (first | refine Abs.goH hb ?_ | with_reducible refine Abs.fork (fun hb => ?_) (fun hb => ?_))
  have ei : ((((n % 10000 % 100) : Nat) : Int) * 2 + 1).toNat = (n % 10000 % 100) * 2 + 1 := by omega
  rw [tab_at (f := smF) (m := 200) ?hL (by omega), ei]
  case hL => kernel_rfl
  clear ei
  have es := smF_odd (n % 10000 % 100) (by omega)
  (try first | refine EvO.nx ?_ | refine EvA.nx ?_); repeat' (first | refine Abs.goH (Abs.cc es (hb)) ?_ | with_reducible refine Abs.fork (fun hb => ?_) (fun hb => ?_))
  clear es
  have ei : ((((n % 10000 % 100) : Nat) : Int) * 2).toNat = (n % 10000 % 100) * 2 := by omega
  rw [tab_at (f := smF) (m := 200) ?hL (by omega), ei]
  case hL => kernel_rfl
  clear ei
  have es := smF_even (n % 10000 % 100) (by omega)
  (try first | refine EvO.nx ?_ | refine EvA.nx ?_); repeat' (first | refine Abs.goH (Abs.cc es (hb)) ?_ | with_reducible refine Abs.fork (fun hb => ?_) (fun hb => ?_))
  clear es
  refine Abs.Ev.regionD (n := 0) (l := [.go 0, .go 1, .go 2, .go 3, .go 4, .go 5, .go 6, .go 7, .go 8, .go 9, .go 10, .go 11, .go 12, .go 13, .go 14]) (by kernel_rfl) ?_
  (try first | refine EvO.nx ?_ | refine EvA.nx ?_); repeat' (first | refine Abs.goH hb ?_ | with_reducible refine Abs.fork (fun hb => ?_) (fun hb => ?_))
  have ei : ((((n % 10000 / 100) : Nat) : Int) * 2 + 1).toNat = (n % 10000 / 100) * 2 + 1 := by omega
  rw [tab_at (f := smF) (m := 200) ?hL (by omega), ei]
  case hL => kernel_rfl
  clear ei
  have es := smF_odd (n % 10000 / 100) (by omega)
  (try first | refine EvO.nx ?_ | refine EvA.nx ?_); repeat' (first | refine Abs.goH (Abs.cc es (hb)) ?_ | with_reducible refine Abs.fork (fun hb => ?_) (fun hb => ?_))
  clear es
  have ei : ((((n % 10000 / 100) : Nat) : Int) * 2).toNat = (n % 10000 / 100) * 2 := by omega
  rw [tab_at (f := smF) (m := 200) ?hL (by omega), ei]
  case hL => kernel_rfl
  clear ei
  have es := smF_even (n % 10000 / 100) (by omega)
  (try first | refine EvO.nx ?_ | refine EvA.nx ?_); repeat' (first | refine Abs.goH (Abs.cc es (hb)) ?_ | with_reducible refine Abs.fork (fun hb => ?_) (fun hb => ?_))
  clear es
  refine Abs.Ev.regionD (n := 0) (l := [.go 0, .go 1, .go 2, .go 3, .go 4, .go 5, .go 6, .go 7, .go 8, .go 9, .go 10, .go 11, .go 12, .go 13, .go 14]) (by kernel_rfl) ?_
  (try first | refine EvO.nx ?_ | refine EvA.nx ?_); repeat' (first | refine Abs.goH hb ?_ | with_reducible refine Abs.fork (fun hb => ?_) (fun hb => ?_))
  have ei : ((((n / 10000 % 100) : Nat) : Int) * 2 + 1).toNat = (n / 10000 % 100) * 2 + 1 := by omega
  rw [tab_at (f := smF) (m := 200) ?hL (by omega), ei]
  case hL => kernel_rfl
  clear ei
  have es := smF_odd (n / 10000 % 100) (by omega)
  (try first | refine EvO.nx ?_ | refine EvA.nx ?_); repeat' (first | refine Abs.goH (Abs.cc es (hb)) ?_ | with_reducible refine Abs.fork (fun hb => ?_) (fun hb => ?_))
  clear es
  have ei : ((((n / 10000 % 100) : Nat) : Int) * 2).toNat = (n / 10000 % 100) * 2 := by omega
  rw [tab_at (f := smF) (m := 200) ?hL (by omega), ei]
  case hL => kernel_rfl
  clear ei
  have es := smF_even (n / 10000 % 100) (by omega)
  (try first | refine EvO.nx ?_ | refine EvA.nx ?_); repeat' (first | refine Abs.goH (Abs.cc es (hb)) ?_ | with_reducible refine Abs.fork (fun hb => ?_) (fun hb => ?_))
  clear es
  have hd : decB n = [dig (n / 100000), dig (n / 10000), dig (n / 1000), dig (n / 100), dig (n / 10), dig n] := by
    unfold decB
    rw [show ndig n = 6 by unfold ndig; repeat' (first | rw [if_neg (by omega)] | rw [if_pos (by omega)])]
    rfl
  refine h _ _ ?_ (get_same _ _ _) fun s0 hwf k hlo => ?_
  · rw [hd, byte6]
    simp only [dig_nat]
    refine (show _ = some [_, _, _, _, _, _] from rfl).trans ?_
    refine congrArg some ?_
    simp only [List.cons.injEq, Value.int.injEq, true_and, and_true]
    omega
  · have hlt := k.wf _ _ hb
    ((repeat (refine Abs.Keep.set2 ?_ (by omega) (by omega) hwf)); exact Abs.Keep.grow k (by omega))
end
end Go.Proofs.YtbakhdgiimjnkaaGreatDoor

/-
  strconv.Itoa of a number below a million, at the evaluator (whole).
-/
namespace Go.Proofs.YtbakhdgiimjnkaaGreatDoor
open Abs
set_option maxHeartbeats 16000000
set_option maxRecDepth 20000
set_option linter.unusedSimpArgs false
attribute [local irreducible] Abs.Ev Abs.EvF Abs.EvO Abs.EvA Abs.Seq Abs.Blk Abs.Body Abs.Scp Abs.EvG Abs.EvAg Abs.Nx
attribute [local go_sem] Tryz.underlying2 Ty.sz2 Ty.by2 Ty.ag2 Ty.ze2 Tryz.underlying3 Ty.sz3 Ty.by3 Ty.ag3 Ty.ze3 Tryz.underlying4 Ty.sz4 Ty.by4 Ty.ag4 Ty.ze4 Tryz.underlying5 Ty.sz5 Ty.by5 Ty.ag5 Ty.ze5 Tryz.underlying9 Ty.sz9 Ty.by9 Ty.ag9 Ty.ze9 Tryz.underlying24 Ty.sz24 Ty.by24 Ty.ag24 Ty.ze24 Tryz.underlying28 Ty.sz28 Ty.by28 Ty.ag28 Ty.ze28 Tryz.underlying121 Ty.sz121 Ty.by121 Ty.ag121 Ty.ze121 Tryz.underlying176 Ty.sz176 Ty.by176 Ty.ag176 Ty.ze176 Tryz.underlying196 Ty.sz196 Ty.by196 Ty.ag196 Ty.ze196
section
variable {Sm : Summ} {Q : Ans → Prop}
theorem itoa_cut {w : List Value} {o n : Nat} {l : List UInt8} (h : cutN w o n = some (byteCells l)) : (cutN w o n).bind cellBytes = some l := by
  rw [h]
  exact cellBytes_byteCells l
theorem pair_all : ∀ n, n < 100 → ¬ n < 10 → List.drop (n * 2) (List.take (n * 2 + 2) ((List.range 200).map smF)) = decB n := by decide +kernel
theorem one_all : ∀ n, n < 10 → List.drop n (List.take (n + 1) [48, 49, 50, 51, 52, 53, 54, 55, 56, 57, 97, 98, 99, 100, 101, 102, 103, 104, 105, 106, 107, 108, 109, 110, 111, 112, 113, 114, 115, 116, 117, 118, 119, 120, 121, 122]) = decB n := by decide +kernel
theorem pair_at {L : List UInt8} (hL : L = (List.range 200).map smF) {n : Nat} (h10 : ¬ n < 10) (h1 : n < 100) : List.drop (n * 2) (List.take (n * 2 + 2) L) = decB n := by
  rw [hL]
  exact pair_all n h1 h10
attribute [local go_sem] List.append_eq List.length_append
theorem small_ev (hn : NoItoa Sm) {s : St} {n : Nat} (h1 : n < 100) (h : Q (.val (.string ⟨⟨decB n⟩⟩) s)) :
    Ev Tryz.prog Sm (.inv (.fn (.func 131) #[]) [.int .i64 (n : Int)] s) Q := by
  refine Ev.func hn.small Tryz.func131 rfl (m := 15) rfl ?_
  simp only [Array.toList_empty, List.append_nil, ofList_cons, ofList_nil]
  have e1 : ((n : Int) + 1).toNat = n + 1 := by omega
  have e2 : ((n : Int) * 2).toNat = n * 2 := by omega
  have e3 : ((n : Int) * 2 + 2).toNat = n * 2 + 2 := by omega
  by_cases h10 : n < 10
  · (try first | refine EvO.nx ?_ | refine EvA.nx ?_); repeat' (first | refine Abs.goH e1 ?_ | with_reducible refine Abs.fork (fun hb => ?_) (fun hb => ?_))
    rw [one_all n h10]
    exact h
  · (try first | refine EvO.nx ?_ | refine EvA.nx ?_); repeat' (first | refine Abs.goH (Abs.cc e2 (e3)) ?_ | with_reducible refine Abs.fork (fun hb => ?_) (fun hb => ?_))
    rw [pair_at ?hL h10 h1]
    case hL => kernel_rfl
    exact h
theorem itoa_ev (hn : NoItoa Sm) {s : St} (hwf : s.wf) {e : TypeId} (hT : s.heap.get 0 = some (.const (pow10L.map fun z => Value.int .u64 z) e)) {n : Nat} (h20 : n < 1000000) (h : ∀ s', Keep s s' → Q (.val (.string ⟨⟨decB n⟩⟩) s')) :
    Ev Tryz.prog Sm (.inv (.fn (.func 58) #[]) [.int .i64 (n : Int)] s) Q := by
  refine Ev.func hn.itoa Tryz.func58 rfl (m := 5) rfl ?_
  simp only [Array.toList_empty, List.append_nil, ofList_cons, ofList_nil]
  (try first | refine EvO.nx ?_ | refine EvA.nx ?_); repeat' (first | refine Abs.go ?_ | with_reducible refine Abs.fork (fun hb => ?_) (fun hb => ?_))
  refine Ev.func hn.iitoa Tryz.func87 rfl (m := 5) rfl ?_
  simp only [Array.toList_empty, List.append_nil, ofList_cons, ofList_nil]
  (try first | refine EvO.nx ?_ | refine EvA.nx ?_); repeat' (first | refine Abs.go ?_ | with_reducible refine Abs.fork (fun hb => ?_) (fun hb => ?_))
  refine Ev.func hn.format Tryz.func114 rfl (m := 54) rfl ?_
  simp only [Array.toList_empty, List.append_nil, ofList_cons, ofList_nil]
  by_cases h100 : n < 100
  · (try first | refine EvO.nx ?_ | refine EvA.nx ?_); repeat' (first | refine Abs.go ?_ | with_reducible refine Abs.fork (fun hb => ?_) (fun hb => ?_))
    refine small_ev hn h100 ⟨_, _, rfl, ?_⟩
    (try first | refine EvO.nx ?_ | refine EvA.nx ?_); repeat' (first | refine Abs.go ?_ | with_reducible refine Abs.fork (fun hb => ?_) (fun hb => ?_))
    refine ⟨_, _, rfl, ?_⟩
    (try first | refine EvO.nx ?_ | refine EvA.nx ?_); repeat' (first | refine Abs.go ?_ | with_reducible refine Abs.fork (fun hb => ?_) (fun hb => ?_))
    refine ⟨_, _, rfl, ?_⟩
    (try first | refine EvO.nx ?_ | refine EvA.nx ?_); repeat' (first | refine Abs.go ?_ | with_reducible refine Abs.fork (fun hb => ?_) (fun hb => ?_))
    exact h _ (Keep.refl hwf)
  · (try first | refine EvO.nx ?_ | refine EvA.nx ?_); repeat' (first | refine Abs.go ?_ | with_reducible refine Abs.fork (fun hb => ?_) (fun hb => ?_))
    have k1 := (Keep.refl hwf).new (.cells (List.replicate 24 (.int .u8 0)) 176 0 false (0, 0))
    have hb1 : (⟨s.heap.set s.next (.cells (List.replicate 24 (.int .u8 0)) 176 0 false (0, 0)), s.next + 1⟩ : St).heap.get s.next = some (.cells (List.replicate 24 (.int .u8 0)) 176 0 false (0, 0)) := get_same _ _ _
    change Ev _ _ (.inv _ _ ⟨s.heap.set s.next (.cells (List.replicate 24 (.int .u8 0)) 176 0 false (0, 0)), s.next + 1⟩) _
    generalize (⟨s.heap.set s.next (.cells (List.replicate 24 (.int .u8 0)) 176 0 false (0, 0)), s.next + 1⟩ : St) = s1 at *
    refine numDigits_ev hn (k1.old _ _ hT) (by omega) h20 ⟨_, _, rfl, ?_⟩
    have hc : ndig n = 3 ∧ n < 1000 ∨ ndig n = 4 ∧ 1000 ≤ n ∧ n < 10000 ∨ ndig n = 5 ∧ 10000 ≤ n ∧ n < 100000 ∨ ndig n = 6 ∧ 100000 ≤ n := by
      unfold ndig
      repeat' split
      all_goals omega
    have ed : (1 + ((ndig n : Nat) : Int)).toNat - 1 = ndig n := by omega
    rcases hc with ⟨e, hx⟩ | ⟨e, hx⟩ | ⟨e, hx⟩ | ⟨e, hx⟩
    all_goals (
      rw [e] at ed ⊢
      (try first | refine EvO.nx ?_ | refine EvA.nx ?_); repeat' (first | refine Abs.goH hb1 ?_ | with_reducible refine Abs.fork (fun hb => ?_) (fun hb => ?_))
      first
      | refine base10_3 hn hb1 (by omega) (by omega) (fun s2 l hl hb2 hk => ⟨_, _, rfl, ?_⟩)
      | refine base10_4 hn hb1 (by omega) (by omega) (fun s2 l hl hb2 hk => ⟨_, _, rfl, ?_⟩)
      | refine base10_5 hn hb1 (by omega) (by omega) (fun s2 l hl hb2 hk => ⟨_, _, rfl, ?_⟩)
      | refine base10_6 hn hb1 (by omega) (by omega) (fun s2 l hl hb2 hk => ⟨_, _, rfl, ?_⟩)
      have hcb := itoa_cut hl
      (try first | refine EvO.nx ?_ | refine EvA.nx ?_); repeat' (first | refine Abs.goH (Abs.cc hb2 (Abs.cc ed (hcb))) ?_ | with_reducible refine Abs.fork (fun hb => ?_) (fun hb => ?_))
      refine ⟨_, _, rfl, ?_⟩
      (try first | refine EvO.nx ?_ | refine EvA.nx ?_); repeat' (first | refine Abs.go ?_ | with_reducible refine Abs.fork (fun hb => ?_) (fun hb => ?_))
      refine ⟨_, _, rfl, ?_⟩
      (try first | refine EvO.nx ?_ | refine EvA.nx ?_); repeat' (first | refine Abs.go ?_ | with_reducible refine Abs.fork (fun hb => ?_) (fun hb => ?_))
      exact h _ (hk s hwf k1 (Nat.le_refl _)))
end
end Go.Proofs.YtbakhdgiimjnkaaGreatDoor

/-
  manifest.Name and isTable, strings.CutPrefix, at the evaluator.
-/
namespace Go.Proofs.YtbakhdgiimjnkaaGreatDoor
open Abs
set_option maxHeartbeats 16000000
set_option maxRecDepth 20000
set_option linter.unusedSimpArgs false
attribute [local irreducible] Abs.Ev Abs.EvF Abs.EvO Abs.EvA Abs.Seq Abs.Blk Abs.Body Abs.Scp Abs.EvG Abs.EvAg Abs.Nx
attribute [local go_sem] Tryz.underlying2 Ty.sz2 Ty.by2 Ty.ag2 Ty.ze2 Tryz.underlying3 Ty.sz3 Ty.by3 Ty.ag3 Ty.ze3 Tryz.underlying4 Ty.sz4 Ty.by4 Ty.ag4 Ty.ze4 Tryz.underlying5 Ty.sz5 Ty.by5 Ty.ag5 Ty.ze5 Tryz.underlying9 Ty.sz9 Ty.by9 Ty.ag9 Ty.ze9 Tryz.underlying24 Ty.sz24 Ty.by24 Ty.ag24 Ty.ze24 Tryz.underlying28 Ty.sz28 Ty.by28 Ty.ag28 Ty.ze28 Tryz.underlying121 Ty.sz121 Ty.by121 Ty.ag121 Ty.ze121 Tryz.underlying176 Ty.sz176 Ty.by176 Ty.ag176 Ty.ze176 Tryz.underlying196 Ty.sz196 Ty.by196 Ty.ag196 Ty.ze196
section
variable {Sm : Summ} {Q : Ans → Prop}
structure NoName (Sm : Summ) : Prop where
  itoa : NoItoa Sm
  name : Sm 22 = none
  isTable : Sm 60 = none
  cut : Sm 94 = none
  icut : Sm 120 = none
  ihas : Sm 117 = none
  rep : Sm 59 = some sumRep
  trim : Sm 84 = some sumTrim
theorem six_zero {n : Nat} (h : n < 1000000) : zeroes (6 - ndig n) ++ decB n = six n := by
  have key : ∀ d, d ≤ 6 → (six n).take d = zeroes d → zeroes d ++ (six n).drop d = six n := fun d _ e => by rw [← e, List.take_append_drop]
  have z : ∀ m, m % 10 = 0 → dig m = 48 := fun m hm => by unfold dig; rw [hm]; rfl
  unfold decB
  refine key _ (by omega) ?_
  unfold ndig
  repeat' split
  all_goals (unfold six; simp only [Nat.reduceSub, List.take_succ_cons, List.take_zero])
  · rw [z (n / 100000) (by omega), z (n / 10000) (by omega), z (n / 1000) (by omega), z (n / 100) (by omega), z (n / 10) (by omega)]; rfl
  · rw [z (n / 100000) (by omega), z (n / 10000) (by omega), z (n / 1000) (by omega), z (n / 100) (by omega)]; rfl
  · rw [z (n / 100000) (by omega), z (n / 10000) (by omega), z (n / 1000) (by omega)]; rfl
  · rw [z (n / 100000) (by omega), z (n / 10000) (by omega)]; rfl
  · rw [z (n / 100000) (by omega)]; rfl
  · rfl
theorem decB_len (n : Nat) : (decB n).length = ndig n ∧ 1 ≤ ndig n ∧ ndig n ≤ 6 := by
  have h : 1 ≤ ndig n ∧ ndig n ≤ 6 := by
    unfold ndig
    repeat' split
    all_goals omega
  refine ⟨?_, h⟩
  unfold decB
  rw [List.length_drop]
  show 6 - (6 - ndig n) = _
  omega
theorem rep_val {d : Nat} (h : d ≤ 5) (s : St) : sumRep [.string ⟨⟨[48]⟩⟩, .int .i64 ((d : Nat) : Int)] s = .ok (mkStr (zeroes d), s) := by
  match d, h with
  | 0, _ => rfl
  | 1, _ => rfl
  | 2, _ => rfl
  | 3, _ => rfl
  | 4, _ => rfl
  | 5, _ => rfl
theorem str_add (a b : List UInt8) (h : a.length + b.length < 9223372036854775808) : aStr .add a b = .ok (mkStr (a ++ b)) := by
  show ifb (Nat.blt (a.length + b.length) 9223372036854775808) _ _ = _
  rw [show Nat.blt (a.length + b.length) 9223372036854775808 = true by rw [Nat.blt_eq]; exact h]
  rfl
theorem cutPrefix_ev (hn : NoName Sm) {s : St} {a p : List UInt8} (h : Q (.val (.tuple #[.string ⟨⟨if p <+: a then a.drop p.length else a⟩⟩, .bool (decide (p <+: a))]) s)) :
    Ev Tryz.prog Sm (.inv (.fn (.func 94) #[]) [.string ⟨⟨a⟩⟩, .string ⟨⟨p⟩⟩] s) Q := by
  refine Ev.func hn.cut Tryz.func94 rfl (m := 11) rfl ?_
  simp only [Array.toList_empty, List.append_nil, ofList_cons, ofList_nil]
  (try first | refine EvO.nx ?_ | refine EvA.nx ?_); repeat' (first | refine Abs.go ?_ | with_reducible refine Abs.fork (fun hb => ?_) (fun hb => ?_))
  refine Ev.func hn.icut Tryz.func120 rfl (m := 15) rfl ?_
  simp only [Array.toList_empty, List.append_nil, ofList_cons, ofList_nil]
  (try first | refine EvO.nx ?_ | refine EvA.nx ?_); repeat' (first | refine Abs.go ?_ | with_reducible refine Abs.fork (fun hb => ?_) (fun hb => ?_))
  refine Ev.func hn.ihas Tryz.func117 rfl (m := 18) rfl ?_
  simp only [Array.toList_empty, List.append_nil, ofList_cons, ofList_nil]
  by_cases hp : p <+: a
  · have h1 : (List.take p.length a == p) = true := by rw [← List.prefix_iff_eq_take.1 hp]; simp
    have hl := hp.length_le
    rw [if_pos hp, show decide (p <+: a) = true by simpa using hp] at h
    (try first | refine EvO.nx ?_ | refine EvA.nx ?_); repeat' (first | refine Abs.goH h1 ?_ | with_reducible refine Abs.fork (fun hb => ?_) (fun hb => ?_))
    refine ⟨_, _, rfl, ?_⟩
    (try first | refine EvO.nx ?_ | refine EvA.nx ?_); repeat' (first | refine Abs.go ?_ | with_reducible refine Abs.fork (fun hb => ?_) (fun hb => ?_))
    refine ⟨_, _, rfl, ?_⟩
    (try first | refine EvO.nx ?_ | refine EvA.nx ?_); repeat' (first | refine Abs.go ?_ | with_reducible refine Abs.fork (fun hb => ?_) (fun hb => ?_))
    exact h
  · have h1 : (List.take p.length a == p) = false := by
      rw [beq_eq_false_iff_ne]
      intro e
      exact hp (List.prefix_iff_eq_take.2 e.symm)
    rw [if_neg hp, show decide (p <+: a) = false by simpa using hp] at h
    (try first | refine EvO.nx ?_ | refine EvA.nx ?_); repeat' (first | refine Abs.goH h1 ?_ | with_reducible refine Abs.fork (fun hb => ?_) (fun hb => ?_))
    all_goals (
      refine ⟨_, _, rfl, ?_⟩
      (try first | refine EvO.nx ?_ | refine EvA.nx ?_); repeat' (first | refine Abs.go ?_ | with_reducible refine Abs.fork (fun hb => ?_) (fun hb => ?_))
      refine ⟨_, _, rfl, ?_⟩
      (try first | refine EvO.nx ?_ | refine EvA.nx ?_); repeat' (first | refine Abs.go ?_ | with_reducible refine Abs.fork (fun hb => ?_) (fun hb => ?_))
      exact h)
def digits : List UInt8 := [48, 49, 50, 51, 52, 53, 54, 55, 56, 57]
end
end Go.Proofs.YtbakhdgiimjnkaaGreatDoor

