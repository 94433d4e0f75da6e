/-
  The document's own sums, frames and scans, at the evaluator: what they say is what the program's say.
-/
import Derived.Test.YtbakhdgiimjnkaaGreatDoorWlC
import Derived.Test.YtbakhdgiimjnkaaGreatDoorEvSet
set_option linter.unusedVariables false
set_option linter.unusedSimpArgs false
namespace Go.Proofs.YtbakhdgiimjnkaaGreatDoor
open Abs
set_option maxHeartbeats 16000000
set_option maxRecDepth 20000
set_option linter.unusedSimpArgs false
attribute [local irreducible] Abs.Ev Abs.EvF Abs.EvO Abs.EvA Abs.Seq Abs.Blk Abs.Body Abs.Scp Abs.EvG Abs.EvAg Abs.Nx
attribute [local go_sem] Tryz.underlying3 Ty.sz3 Ty.by3 Ty.ag3 Ty.ze3 Tryz.underlying4 Ty.sz4 Ty.by4 Ty.ag4 Ty.ze4 Tryz.underlying5 Ty.sz5 Ty.by5 Ty.ag5 Ty.ze5 Tryz.underlying9 Ty.sz9 Ty.by9 Ty.ag9 Ty.ze9 Tryz.underlying28 Ty.sz28 Ty.by28 Ty.ag28 Ty.ze28 Tryz.underlying59 Ty.sz59 Ty.by59 Ty.ag59 Ty.ze59 Tryz.underlying121 Ty.sz121 Ty.by121 Ty.ag121 Ty.ze121
section
variable {Sm : Summ} {Q : Ans → Prop}
structure NoCRef (Sm : Summ) : Prop where
  bit : Sm 126 = none
  more : Sm 103 = none
  sum : Sm 79 = none
  four : Sm 78 = none
  num : Sm 82 = none
  frame : Sm 38 = none
  scan : Sm 41 = none
/-- the document's register, a bit on -/
def dBit (d x : Nat) : Nat := if (d ^^^ x) &&& 1 = 1 then (d >>> 1) ^^^ 2197175160 else d >>> 1
theorem dBit_crc (c x : Nat) : dBit (c ^^^ x) (x &&& 1) = crcBit c ^^^ (x >>> 1) := by
  have h1 : ((c ^^^ x) ^^^ (x &&& 1)) &&& 1 = c &&& 1 := by
    rw [Nat.and_xor_distrib_right, Nat.and_xor_distrib_right, Nat.and_assoc, Nat.and_self, Nat.xor_assoc, Nat.xor_self, Nat.xor_zero]
  have h2 : (c ^^^ x) >>> 1 = c >>> 1 ^^^ x >>> 1 := Nat.shiftRight_xor_distrib
  unfold dBit
  rw [h1, h2]
  by_cases h : c &&& 1 = 1
  · rw [if_pos h, crcBit_odd h, Nat.xor_assoc, Nat.xor_comm (x >>> 1), ← Nat.xor_assoc]
  · rw [if_neg h, crcBit_even h]
theorem rbit_ev (hn : NoCRef Sm) {s : St} {d x : Nat} (hd : d < 4294967296) (hx : x < 4294967296) (h : Q (.val (.int .u32 ((dBit d x : Nat) : Int)) s)) :
    Ev Tryz.prog Sm (.inv (.fn (.func 126) #[]) [.int .u32 (d : Int), .int .u32 (x : Int)] s) Q := by
  refine Ev.func hn.bit Tryz.func126 rfl (m := 15) rfl ?_
  simp only [Array.toList_empty, List.append_nil, ofList_cons, ofList_nil]
  have hy : d ^^^ x < 4294967296 := Nat.xor_lt_two_pow (n := 32) hd hx
  have hsh := shr32 hd
  unfold dBit at h
  by_cases hc : (d ^^^ x) &&& 1 = 1
  · rw [if_pos hc] at h
    (try first | refine EvO.nx ?_ | refine EvA.nx ?_); repeat' (first | refine Abs.go ?_ | with_reducible refine Abs.fork (fun hb => ?_) (fun hb => ?_))
    exact h
  · rw [if_neg hc] at h
    (try first | refine EvO.nx ?_ | refine EvA.nx ?_); repeat' (first | refine Abs.go ?_ | with_reducible refine Abs.fork (fun hb => ?_) (fun hb => ?_))
    exact h
set_option maxRecDepth 20000 in
theorem rmore_ev (hn : NoCRef Sm) {s : St} {v : Value} {l : List UInt8} (hv : BytesB s v l) (hl : l.length ≤ 1073741824) {c : Nat} (hc : c < 4294967296) (h : Q (.val (.int .u32 ((moreN c l : Nat) : Int)) s)) :
    Ev Tryz.prog Sm (.inv (.fn (.func 103) #[]) [.int .u32 (c : Int), v] s) Q := by
  refine Ev.func hn.more Tryz.func103 rfl (m := 33) rfl ?_
  simp only [Array.toList_empty, List.append_nil, ofList_cons, ofList_nil]
  obtain ⟨⟨a, k, rfl⟩, hs⟩ := hv
  have hx0 : c ^^^ 4294967295 < 4294967296 := Nat.xor_lt_two_pow (n := 32) hc (by decide)
  have hbl := byteCells_len l
  (try first | refine EvO.nx ?_ | refine EvA.nx ?_); repeat' (first | refine Abs.go ?_ | with_reducible refine Abs.fork (fun hb => ?_) (fun hb => ?_))
  refine Ev.loop (fun q a' s' => s' = s ∧ ∃ T, ∃ i c' : Nat, a' = ⟨T, 33, []⟩ ∧ T.get 1 = some (.slice a l.length k) ∧ T.get 5 = some (.int .u32 ((c' : Nat) : Int)) ∧ T.get 6 = some (.int .i64 ((i : Nat) : Int)) ∧ c' < 4294967296 ∧ i ≤ l.length ∧ moreN c l = 4294967295 ^^^ ((l.drop i).foldl (fun c b => crcByte c b.toNat) c') ∧ q = l.length - i) (k := l.length)
    ⟨rfl, _, 0, c ^^^ 4294967295, rfl, ?g1, ?g5, ?g6, hx0, Nat.zero_le _, by rw [List.drop_zero, Nat.xor_comm c]; rfl, rfl⟩ ?_
  case g1 => simp (disch := first | omega | assumption) only [go_sem, ]
  case g5 => simp (disch := first | omega | assumption) only [go_sem, ]
  case g6 => simp (disch := first | omega | assumption) only [go_sem, ]; try rfl
  rintro q a' s' ⟨rfl, T, i, c', rfl, g1, g5, g6, hc', hi, hm, rfl⟩
  by_cases hil : i < l.length
  · obtain ⟨b, o, kc, w, e, hw, hvl, hat⟩ := list_at hs ⟨_, _, rfl⟩ (by omega)
    cases e
    have hx := hat i (by omega)
    have hd : l.drop i = l[i] :: l.drop (i + 1) := List.drop_eq_getElem_cons hil
    have hce : (byteCells l)[i]'(by omega) = .int .u8 ((l[i].toNat : Nat) : Int) := by
      simp only [byteCells_eq, List.getElem_map]
      rfl
    rw [hce] at hx
    rw [hd, List.foldl_cons] at hm
    have h8 : l[i].toNat < 256 := l[i].toNat_lt
    generalize l[i].toNat = x at *
    clear hd hce hat hvl
    (try first | refine EvO.nx ?_ | refine EvA.nx ?_); repeat' (first | refine Abs.goH (Abs.cc g1 (Abs.cc g5 (g6))) ?_ | with_reducible refine Abs.fork (fun hb => ?_) (fun hb => ?_))
    refine Ev.loop (fun q a'' s'' => s'' = s' ∧ ∃ T, ∃ j : Nat, a'' = ⟨T, 33, []⟩ ∧ T.get 1 = some (.slice (some ⟨b, o, none⟩) l.length k) ∧ T.get 5 = some (.int .u32 ((crcBits (c' ^^^ x) j ^^^ (x >>> j) : Nat) : Int)) ∧ T.get 6 = some (.int .i64 ((i : Nat) : Int)) ∧ T.get 7 = some (.int .i64 ((j : Nat) : Int)) ∧ j ≤ 8 ∧ q = 8 - j) (k := 8)
      ⟨rfl, _, 0, rfl, ?g1, ?g5, ?g6, ?g7, by omega, rfl⟩ ?_
    case g1 => simp (disch := first | omega | assumption) only [go_sem, g1]
    case g5 =>
      have e : crcBits (c' ^^^ x) 0 ^^^ (x >>> 0) = c' := by
        show (c' ^^^ x) ^^^ x = c'
        rw [Nat.xor_assoc, Nat.xor_self, Nat.xor_zero]
      rw [e]
      simp (disch := first | omega | assumption) only [go_sem, g5]
    case g6 => simp (disch := first | omega | assumption) only [go_sem, g6]
    case g7 => simp (disch := first | omega | assumption) only [go_sem, ]; try rfl
    clear g1 g5 g6 T
    rintro q a'' s'' ⟨rfl, T, j, rfl, g1, g5, g6, g7, hj, rfl⟩
    have hcx : c' ^^^ x < 4294967296 := Nat.xor_lt_two_pow (n := 32) hc' (by omega)
    have hcj := crcBits_lt hcx j
    have hxj : x >>> j < 256 := by
      rw [Nat.shiftRight_eq_div_pow]
      exact Nat.lt_of_le_of_lt (Nat.div_le_self _ _) h8
    by_cases hj8 : j < 8
    · have hdx := Nat.xor_lt_two_pow (n := 32) hcj (show x >>> j < 2 ^ 32 by omega)
      have h1 : (x >>> j) &&& 1 ≤ 1 := Nat.and_le_right
      have hb0 : (0 : Int) ≤ ((x >>> j : Nat) : Int) := Int.natCast_nonneg _
      have hb1 : ((x >>> j : Nat) : Int) < 4294967296 := Int.lt_of_lt_of_le (Int.ofNat_lt.2 hxj) (by decide)
      have hb2 : ((x >>> j : Nat) : Int) ≤ 4294967295 := Int.le_trans (Int.le_of_lt (Int.ofNat_lt.2 hxj)) (by decide)
      have hstep := dBit_crc (crcBits (c' ^^^ x) j) (x >>> j)
      rw [← crcBits_succ, ← Nat.shiftRight_add] at hstep
      generalize hD : crcBits (c' ^^^ x) j ^^^ (x >>> j) = D at *
      (try first | refine EvO.nx ?_ | refine EvA.nx ?_); repeat' (first | refine Abs.goH (Abs.cc g1 (Abs.cc g5 (Abs.cc g6 (Abs.cc g7 (Abs.cc hw (hx)))))) ?_ | with_reducible refine Abs.fork (fun hb => ?_) (fun hb => ?_))
      have hdx : D < 4294967296 := hdx
      refine rbit_ev (d := D) (x := x >>> j &&& 1) hn hdx (by omega) ?_
      rw [hstep]
      refine ⟨_, _, rfl, ?_⟩
      (try first | refine EvO.nx ?_ | refine EvA.nx ?_); repeat' (first | refine Abs.goH (Abs.cc g1 (Abs.cc g5 (Abs.cc g6 (g7)))) ?_ | with_reducible refine Abs.fork (fun hb => ?_) (fun hb => ?_))
      refine ⟨8 - (j + 1), by omega, rfl, _, j + 1, rfl, ?_, ?_, ?_, ?_, by omega, rfl⟩
      · simp (disch := first | omega | assumption) only [go_sem, g1]
      · simp (disch := first | omega | assumption) only [go_sem, ]
      · simp (disch := first | omega | assumption) only [go_sem, g6]
      · simp (disch := first | omega | assumption) only [go_sem, Int.natCast_add, Int.natCast_one]
    · obtain rfl : j = 8 := by omega
      have e8 : crcBits (c' ^^^ x) 8 ^^^ (x >>> 8) = crcByte c' x := by
        rw [show x >>> 8 = 0 by rw [Nat.shiftRight_eq_div_pow]; omega, Nat.xor_zero]
        rfl
      rw [e8] at g5
      have hlt : crcByte c' x < 4294967296 := crcBits_lt hcx 8
      (try first | refine EvO.nx ?_ | refine EvA.nx ?_); repeat' (first | refine Abs.goH (Abs.cc g1 (Abs.cc g5 (Abs.cc g6 (g7)))) ?_ | with_reducible refine Abs.fork (fun hb => ?_) (fun hb => ?_))
      refine ⟨l.length - (i + 1), by omega, rfl, _, i + 1, crcByte c' x, rfl, ?_, ?_, ?_, hlt, hil, hm, rfl⟩
      · simp (disch := first | omega | assumption) only [go_sem, g1]
      · simp (disch := first | omega | assumption) only [go_sem, g5]
      · simp (disch := first | omega | assumption) only [go_sem, Int.natCast_add, Int.natCast_one]
  · obtain rfl : i = l.length := by omega
    rw [List.drop_length, List.foldl_nil] at hm
    (try first | refine EvO.nx ?_ | refine EvA.nx ?_); repeat' (first | refine Abs.goH (Abs.cc g1 (Abs.cc g5 (g6))) ?_ | with_reducible refine Abs.fork (fun hb => ?_) (fun hb => ?_))
    rw [hm, Nat.xor_comm] at h
    exact h
theorem rsum_ev (hn : NoCRef Sm) {s : St} {v : Value} {l : List UInt8} (hv : BytesB s v l) (hl : l.length ≤ 1073741824) (h : Q (.val (.int .u32 ((moreN 0 l : Nat) : Int)) s)) :
    Ev Tryz.prog Sm (.inv (.fn (.func 79) #[]) [v] s) Q := by
  refine Ev.func hn.sum Tryz.func79 rfl (m := 5) rfl ?_
  simp only [Array.toList_empty, List.append_nil, ofList_cons, ofList_nil]
  (try first | refine EvO.nx ?_ | refine EvA.nx ?_); repeat' (first | refine Abs.go ?_ | with_reducible refine Abs.fork (fun hb => ?_) (fun hb => ?_))
  refine rmore_ev (c := 0) hn hv hl (by decide) ⟨_, _, rfl, ?_⟩
  (try first | refine EvO.nx ?_ | refine EvA.nx ?_); repeat' (first | refine Abs.go ?_ | with_reducible refine Abs.fork (fun hb => ?_) (fun hb => ?_))
  exact h
theorem rfour_ev (hn : NoCRef Sm) {s : St} (hwf : s.wf) {n : Nat} (h0 : n < 4294967296) (h : ∀ b s', Keep s s' → s.next ≤ b → s'.heap.get b = some (.cells (byteCells (le32 n)) 5 0 false (0, 0)) → Q (.val (.slice (some ⟨b, 0, none⟩) 4 4) s')) :
    Ev Tryz.prog Sm (.inv (.fn (.func 78) #[]) [.int .u32 (n : Int)] s) Q := by
  refine Ev.func hn.four Tryz.func78 rfl (m := 15) rfl ?_
  simp only [Array.toList_empty, List.append_nil, ofList_cons, ofList_nil]
  (try first | refine EvO.nx ?_ | refine EvA.nx ?_); repeat' (first | refine Abs.go ?_ | with_reducible refine Abs.fork (fun hb => ?_) (fun hb => ?_))
  refine h s.next _ ((Keep.refl hwf).new _) (Nat.le_refl _) ?_
  show (s.heap.set _ _).get _ = _
  rw [get_same, byteCells_eq]
  unfold le32
  have e1 : n >>> 8 = n / 256 := Nat.shiftRight_eq_div_pow n 8
  have e2 : n >>> 16 = n / 65536 := Nat.shiftRight_eq_div_pow n 16
  have e3 : n >>> 24 = n / 16777216 := Nat.shiftRight_eq_div_pow n 24
  have e4 : n / 16777216 % 256 = n / 16777216 := Nat.mod_eq_of_lt (by omega)
  simp only [wrap_u8_nat, e1, e2, e3, List.map_cons, List.map_nil, UInt8.toNat_ofNat', Int.ofNat_eq_natCast, Nat.reducePow, Nat.mod_mod, e4]
  rfl
theorem rnum_ev (hn : NoCRef Sm) {s : St} {b o n k : Nat} {w : List Value} {e : TypeId} {sz : Nat} {opn : Bool} {fz : Nat × Nat} {l : List UInt8} (hb : s.heap.get b = some (.cells w e sz opn fz)) (hl : n = l.length) (h4 : 4 ≤ n) (hc : cutN w o n = some (byteCells l)) (h : Q (.val (.int .u32 ((rd32 l : Nat) : Int)) s)) :
    Ev Tryz.prog Sm (.inv (.fn (.func 82) #[]) [.slice (some ⟨b, o, none⟩) n k] s) Q := by
  refine Ev.func hn.num Tryz.func82 rfl (m := 25) rfl ?_
  simp only [Array.toList_empty, List.append_nil, ofList_cons, ofList_nil]
  obtain ⟨h1, h2⟩ := cutN_some hc
  have hget : ∀ i, i < n → w[o + i]? = (byteCells l)[i]? := by
    intro i hi
    rw [h2, List.getElem?_take_of_lt hi, List.getElem?_drop]
  match l, hl with
  | [], hl => simp at hl; omega
  | [_], hl => simp at hl; omega
  | [_, _], hl => simp at hl; omega
  | [_, _, _], hl => simp at hl; omega
  | x0 :: x1 :: x2 :: x3 :: r, hl =>
    have g0 : w[o]? = some (.int .u8 (x0.toNat : Int)) := hget 0 (by omega)
    have g1 : w[o + 1]? = some (.int .u8 (x1.toNat : Int)) := hget 1 (by omega)
    have g2 : w[o + 2]? = some (.int .u8 (x2.toNat : Int)) := hget 2 (by omega)
    have g3 : w[o + 3]? = some (.int .u8 (x3.toNat : Int)) := hget 3 (by omega)
    have l0 := x0.toNat_lt
    have l1 := x1.toNat_lt
    have l2 := x2.toNat_lt
    have l3 := x3.toNat_lt
    have ho := or4 l0 l1 l2 l3
    change Q (.val (.int .u32 ((x0.toNat + x1.toNat * 256 + x2.toNat * 65536 + x3.toNat * 16777216 : Nat) : Int)) s) at h
    rw [← ho] at h
    have b1 : (((x0.toNat ||| x1.toNat <<< 8 % 4294967296 : Nat) : Int)) < 4294967296 := Int.ofNat_lt.2 (Nat.or_lt_two_pow (n := 32) (by omega) (Nat.mod_lt _ (by decide)))
    have b2 : (((x0.toNat ||| x1.toNat <<< 8 % 4294967296 ||| x2.toNat <<< 16 % 4294967296 : Nat) : Int)) < 4294967296 := Int.ofNat_lt.2 (Nat.or_lt_two_pow (n := 32) (Nat.or_lt_two_pow (n := 32) (by omega) (Nat.mod_lt _ (by decide))) (Nat.mod_lt _ (by decide)))
    clear hget hc h2 ho hl
    (try first | refine EvO.nx ?_ | refine EvA.nx ?_); repeat' (first | refine Abs.go ?_ | with_reducible refine Abs.fork (fun hb => ?_) (fun hb => ?_))
    refine Abs.Ev.regionD (n := 0) (l := [.go 0, .go 1, .go 2, .go 3, .go 4, .go 5, .go 6, .go 7, .go 8, .go 9, .go 10, .go 11, .go 12, .go 13, .go 14, .go 15, .go 16, .go 17, .go 18, .go 19, .go 20, .go 21, .go 22]) (by kernel_rfl) ?_
    (try first | refine EvO.nx ?_ | refine EvA.nx ?_); repeat' (first | refine Abs.goH (Abs.cc hb (Abs.cc g0 (Abs.cc g1 (Abs.cc g2 (g3))))) ?_ | with_reducible refine Abs.fork (fun hb => ?_) (fun hb => ?_))
    exact h
theorem own_of {s : St} {lo b : Nat} {l : List UInt8} (hb : s.heap.get b = some (.cells (byteCells l) 5 1 true (0, 0))) (hl : l ≠ []) (ho : lo ≤ b) (hs : l.length ≤ 140737488355328) : Own s lo 5 1 (.slice (some ⟨b, 0, none⟩) l.length open_) l.length (byteCells l) := by
  have hbl := byteCells_len l
  have hp : 0 < l.length := List.length_pos_iff.2 hl
  refine ⟨.room hb (Nat.zero_mod _) (by omega) (by rw [List.drop_zero, List.take_of_length_le (by omega)]), ?_, ?_, by unfold open_; omega⟩
  · rintro c ⟨o, m, k, e⟩
    cases e
    exact ⟨_, _, rfl⟩
  · rintro c ⟨o, m, e⟩
    cases e
    exact ho
theorem moreN_app (c : Nat) (a b : List UInt8) : moreN c (a ++ b) = moreN (moreN c a) b := by
  unfold moreN
  rw [List.foldl_append]
  congr 1
  rw [← Nat.xor_assoc, Nat.xor_self, Nat.zero_xor]
/-- bytes put behind a fresh empty slice -/
theorem EvO.appendZ {st : St} {lo bz : Nat} {xt : List TypeId} {x : Value} {m : List UInt8} {K : Value → St → Prop} (hwf : st.wf) (hz : st.heap.get bz = some (.cells [] 5 0 false (0, 0))) (hx : appSrc Tryz.prog st.heap 1 (cellsOf (.int .u8 0)) xt x = .ok (m.length, byteCells m)) (h1 : m.length ≤ 1000000000) (hlo : lo ≤ st.next)
    (h : ∀ v' st', Keep st st' → TxtB st' lo v' m → K v' st') : EvO (fun _ k => aAppend Tryz.prog st (28 :: xt) (.slice (some ⟨bz, 0, none⟩) 0 0) x fun v s => k v [] s) K := by
  by_cases hm : m = []
  · subst hm
    exact EvO.append0B ⟨_, _, rfl⟩ hx (by decide) (h _ st (Keep.refl hwf) (.zero hz))
  · refine EvO.appendO (l := []) (m := m) hwf (TxtB.zero (lo := lo) hz).buf hx hm (by simp; omega) fun st' k1 k3 k4 k5 => ?_
    rw [List.nil_append] at k1 ⊢
    exact h _ _ ((Keep.refl hwf).append k3 k4 k5 hwf (by rintro b ⟨n, e⟩; cases e)) (.own k1 hm hlo)
theorem TxtB.toOwn {s : St} {lo : Nat} {v : Value} {l : List UInt8} (h : TxtB s lo v l) (hl : l ≠ []) (hs : l.length ≤ 140737488355328) : Own s lo 5 1 v l.length (byteCells l) := by
  cases h with
  | nil => exact absurd rfl hl
  | zero _ => exact absurd rfl hl
  | own hb _ ho => exact own_of hb hl ho hs
theorem Own.blk {s : St} {lo : Nat} {v : Value} {l : List UInt8} (h : Own s lo 5 1 v l.length (byteCells l)) (hl : l ≠ []) : ∃ b o w, v = .slice (some ⟨b, o, none⟩) l.length open_ ∧ s.heap.get b = some (.cells w 5 1 true (0, 0)) ∧ (cutN w o l.length).bind cellBytes = some l := by
  have hp : 0 < l.length := List.length_pos_iff.2 hl
  obtain ⟨hs, a, c, rfl⟩ := h.vec.src
  cases a with
  | none =>
    exfalso
    have e : (0, ([] : List Value)) = (l.length, byteCells l) := Rs.ok.inj hs
    have : (0 : Nat) = l.length := congrArg Prod.fst e
    omega
  | some q =>
    obtain ⟨b, o, sp⟩ := q
    cases sp with
    | some _ => cases hs
    | none =>
      obtain ⟨o', n', e⟩ := h.room b ⟨_, _, _, rfl⟩
      cases e
      obtain ⟨w, hw⟩ := h.vec.kind ⟨_, _, rfl⟩ h.small
      obtain ⟨w', h3, h4, h5⟩ := src_parts hs
      rw [hw] at h3
      cases h3
      rw [Nat.mul_one] at h4 h5
      refine ⟨b, o, w, rfl, hw, ?_⟩
      rw [cutN_eq, if_pos h5, h4]
      exact cellBytes_byteCells l
set_option maxRecDepth 20000 in
theorem rframe_ev (hn : NoCRef Sm) {s : St} (hwf : s.wf) {v : Value} {l : List UInt8} (hv : BytesB s v l) (hl : l.length ≤ 100000000) (h : ∀ v' s', Keep s s' → Own s' s.next 5 1 v' (frameB l).length (byteCells (frameB l)) → Q (.val v' s')) :
    Ev Tryz.prog Sm (.inv (.fn (.func 38) #[]) [v] s) Q := by
  refine Ev.func hn.frame Tryz.func38 rfl (m := 21) rfl ?_
  simp only [Array.toList_empty, List.append_nil, ofList_cons, ofList_nil]
  obtain ⟨a, k, rfl⟩ := hv.1
  (try first | refine EvO.nx ?_ | refine EvA.nx ?_); repeat' (first | refine Abs.go ?_ | with_reducible refine Abs.fork (fun hb => ?_) (fun hb => ?_))
  refine rfour_ev hn hwf (by omega) fun b1 s1 k1 hb1 hx1 => ⟨_, _, rfl, ?_⟩
  have h4l : (le32 l.length).length = 4 := rfl
  have h4n : le32 l.length ≠ [] := by unfold le32; simp
  have e8 := frameB_len l
  have eF : frameB l = le32 l.length ++ (le32 (sumN (le32 l.length) l) ++ l) := rfl
  have hsl := sumN_lt (le32 l.length) l
  have hsm : moreN 0 (le32 l.length ++ l) = sumN (le32 l.length) l := moreN_app _ _ _
  generalize hL4 : le32 l.length = L4 at *
  (try first | refine EvO.nx ?_ | refine EvA.nx ?_); repeat' (first | refine Abs.go ?_ | with_reducible refine Abs.fork (fun hb => ?_) (fun hb => ?_))
  have k2 := k1.new (.cells [] 5 0 false (0, 0))
  have hx2 := ((Keep.refl k1.wf).new (.cells [] 5 0 false (0, 0))).old _ _ hx1
  have hcl4 := byteCells_len L4
  refine EvO.appendZ (lo := s.next) (m := L4) k2.wf (get_same _ _ _) ((appSrc_slice Tryz.underlying28).trans (by rw [h4l]; exact src_cells hx2 (by rw [hcl4, h4l]))) (by omega) k2.next fun v3 s3 k3 t3 => ?_
  have k03 := k2.trans k3
  have o3 := t3.toOwn h4n (by omega)
  have hx3 := k3.old _ _ hx2
  obtain ⟨va, vc, rfl⟩ := t3.bytes.1
  (try first | refine EvO.nx ?_ | refine EvA.nx ?_); repeat' (first | refine Abs.go ?_ | with_reducible refine Abs.fork (fun hb => ?_) (fun hb => ?_))
  have k4 := (Keep.refl k3.wf).new (.cells [] 5 0 false (0, 0))
  have hx4 := k4.old _ _ hx3
  refine EvO.appendZ (lo := s3.next) (m := L4) k4.wf (get_same _ _ _) ((appSrc_slice Tryz.underlying28).trans (by rw [h4l]; exact src_cells hx4 (by rw [hcl4, h4l]))) (by omega) k4.next fun v5 s5 k5 t5 => ?_
  have k35 := k4.trans k5
  have k05 := k03.trans k35
  have o5 := t5.toOwn h4n (by omega)
  obtain ⟨wa, wc, rfl⟩ := t5.bytes.1
  (try first | refine EvO.nx ?_ | refine EvA.nx ?_); repeat' (first | refine Abs.go ?_ | with_reducible refine Abs.fork (fun hb => ?_) (fun hb => ?_))
  refine Abs.EvO.appendOwnW (cs := byteCells L4) (nw := byteCells l) k5.wf Tryz.underlying28 Ty.sz5 Ty.by5 Ty.ze5 rfl (by decide) o5 k35.next ((appSrc_slice Tryz.underlying28).trans (hv.mono k05.old).2) (by rw [byteCells_len, Nat.mul_one]) (byteCells_one l) (by omega) (by omega) fun v6 s6 o6 w6 n6 b6 p6 => ?_
  have k36 : Keep s3 s6 := k35.but w6 n6 p6 k3.wf
  have k06 := k03.trans k36
  have hB6 : BytesB s6 v6 (L4 ++ l) := by
    obtain ⟨q1, q2⟩ := o6.vec.src
    rw [← byteCells_append] at q1
    exact ⟨by rw [List.length_append]; exact q2, by rw [List.length_append]; exact q1⟩
  have o36 := o3.mono fun b l _ hx => k36.old b _ hx
  (try first | refine EvO.nx ?_ | refine EvA.nx ?_); repeat' (first | refine Abs.go ?_ | with_reducible refine Abs.fork (fun hb => ?_) (fun hb => ?_))
  refine rsum_ev hn hB6 (by rw [List.length_append]; omega) ⟨_, _, rfl, ?_⟩
  rw [hsm]
  generalize sumN L4 l = S at *
  (try first | refine EvO.nx ?_ | refine EvA.nx ?_); repeat' (first | refine Abs.go ?_ | with_reducible refine Abs.fork (fun hb => ?_) (fun hb => ?_))
  refine rfour_ev hn k06.wf hsl fun b7 s7 k7 hb7 hx7 => ⟨_, _, rfl, ?_⟩
  have h4s : (le32 S).length = 4 := rfl
  generalize le32 S = L5 at *
  have hcl5 := byteCells_len L5
  have k07 := k06.trans k7
  have o37 := o36.mono fun b l _ hx => k7.old b _ hx
  (try first | refine EvO.nx ?_ | refine EvA.nx ?_); repeat' (first | refine Abs.go ?_ | with_reducible refine Abs.fork (fun hb => ?_) (fun hb => ?_))
  refine Abs.EvO.appendOwnW (cs := byteCells L4) (nw := byteCells L5) (m := 4) k7.wf Tryz.underlying28 Ty.sz5 Ty.by5 Ty.ze5 rfl (by decide) o37 k07.next ((appSrc_slice Tryz.underlying28).trans (src_cells hx7 (by rw [hcl5]; omega))) (by rw [byteCells_len]; omega) (byteCells_one L5) (by omega) (by omega) fun v8 s8 o8 w8 n8 b8 p8 => ?_
  have k08 : Keep s s8 := k07.but w8 n8 p8 hwf
  obtain ⟨_, xa, xc, rfl⟩ := o8.vec.src
  (try first | refine EvO.nx ?_ | refine EvA.nx ?_); repeat' (first | refine Abs.go ?_ | with_reducible refine Abs.fork (fun hb => ?_) (fun hb => ?_))
  refine Abs.EvO.appendOwnW (nw := byteCells l) w8 Tryz.underlying28 Ty.sz5 Ty.by5 Ty.ze5 rfl (by decide) o8 k08.next ((appSrc_slice Tryz.underlying28).trans (hv.mono k08.old).2) (by rw [byteCells_len, Nat.mul_one]) (byteCells_one l) (by omega) (by omega) fun v9 s9 o9 w9 n9 b9 p9 => ?_
  have k09 : Keep s s9 := k08.but w9 n9 p9 hwf
  (try first | refine EvO.nx ?_ | refine EvA.nx ?_); repeat' (first | refine Abs.go ?_ | with_reducible refine Abs.fork (fun hb => ?_) (fun hb => ?_))
  refine h v9 s9 k09 ?_
  rw [e8, eF, byteCells_append, byteCells_append, ← List.append_assoc]
  rw [h4l, show 4 + 4 + l.length = 8 + l.length by omega] at o9
  exact o9
theorem mkl0 : aMakeSlice Tryz.prog 28 0 0 = .ok (.cells [] 28 0 false (0, 0), fun n => .slice (some ⟨n, 0, none⟩) 0 0) := by kernel_rfl
/-- what a scan asks of a frame -/
theorem frame_same {m : List UInt8} (h : 8 + rd32 m ≤ m.length) : frameB ((m.drop 8).take (rd32 m)) = m.take (8 + rd32 m) ↔ rd32 (m.drop 4) = sumN (m.take 4) ((m.drop 8).take (rd32 m)) := by
  have hpl : ((m.drop 8).take (rd32 m)).length = rd32 m := by rw [List.length_take, List.length_drop]; omega
  have e1 : frameB ((m.drop 8).take (rd32 m)) = m.take 4 ++ (le32 (sumN (m.take 4) ((m.drop 8).take (rd32 m))) ++ (m.drop 8).take (rd32 m)) := by
    unfold frameB
    rw [hpl, le32_rd32 (by omega)]
  have e2 : m.take (8 + rd32 m) = m.take 4 ++ ((m.drop 4).take 4 ++ (m.drop 8).take (rd32 m)) := by
    rw [show 8 + rd32 m = 4 + (4 + rd32 m) by omega, List.take_add, List.take_add, List.drop_drop]
  have e3 : (m.drop 4).take 4 = le32 (rd32 (m.drop 4)) := (le32_rd32 (by rw [List.length_drop]; omega)).symm
  rw [e1, e2, List.append_right_inj, List.append_left_inj, e3]
  constructor
  · intro e
    have h1 : rd32 (le32 (sumN (m.take 4) ((m.drop 8).take (rd32 m))) ++ []) = rd32 (le32 (rd32 (m.drop 4)) ++ []) := congrArg (fun l => rd32 (l ++ [])) e
    rw [rd32_le32 (sumN_lt _ _), rd32_le32 (rd32_lt _)] at h1
    exact h1.symm
  · intro e
    rw [e]
attribute [local go_sem] mkl0 Nat.zero_mul Nat.sub_zero Nat.div_one Nat.mul_one u8_lit0
set_option maxRecDepth 20000 in
theorem rscan_ev (hn : NoCRef Sm) {s : St} (hwf : s.wf) {bv : Value} {lo : Nat} {l : List UInt8} (hv : TxtB s lo bv l) (hl : l.length ≤ 100000000)
    (h : ∀ v s' vs, Keep s s' → Vec s' 28 1 v (scanB l).1.length vs → (∀ c, inBlk v c → s.next ≤ c) → AllT s' s.next vs (scanB l).1 → Q (.val (.tuple #[v, .int .i64 ((scanB l).2.1 : Int), .int .i64 ((scanB l).2.2 : Int)]) s')) :
    Ev Tryz.prog Sm (.inv (.fn (.func 41) #[]) [bv] s) Q := by
  refine Ev.func hn.scan Tryz.func41 rfl (m := 67) rfl ?_
  simp only [Array.toList_empty, List.append_nil, ofList_cons, ofList_nil]
  obtain ⟨a, c, hbv⟩ : ∃ a c, bv = .slice a l.length c := hv.bytes.1
  have hnew := (Keep.refl hwf).new (.cells [] 28 0 false (0, 0))
  (try first | refine EvO.nx ?_ | refine EvA.nx ?_); repeat' (first | refine Abs.go ?_ | with_reducible refine Abs.fork (fun hb => ?_) (fun hb => ?_))
  refine Ev.loop (fun q a' s2 => ∃ T used v vs ps, a' = ⟨T, 67, []⟩ ∧ T.get 0 = some (.slice a l.length c) ∧ T.get 5 = some v ∧ T.get 6 = some (.int .i64 ((used : Nat) : Int)) ∧ used ≤ l.length ∧ ps.length ≤ used ∧ q = l.length - used ∧ Keep s s2 ∧ Vec s2 28 1 v ps.length vs ∧ (∀ c, inBlk v c → s.next ≤ c) ∧ AllT s2 s.next vs ps ∧
      scanB l = (ps ++ (scanB (l.drop used)).1, used + (scanB (l.drop used)).2.1, (scanB (l.drop used)).2.2)) (k := l.length)
    ⟨_, 0, .slice (some ⟨s.next, 0, none⟩) 0 0, [], [], rfl, ?g0, ?g5, ?g6, Nat.zero_le _, Nat.le_refl _, rfl, hnew, .full (src_cells (get_same _ _ _) rfl), ?gl, ⟨rfl, fun i v l h => by simp at h⟩, by rw [List.drop_zero, List.nil_append, Nat.zero_add]⟩ ?_
  case g0 => rw [← hbv]; simp (disch := first | omega | assumption) only [go_sem, ]
  case g5 => simp (disch := first | omega | assumption) only [go_sem, ]
  case g6 => simp (disch := first | omega | assumption) only [go_sem, ]; try rfl
  case gl =>
    rintro c ⟨o, m, k, e⟩
    cases e
    exact Nat.le_refl _
  rintro q a' s2 ⟨T, used, v, vs, ps, rfl, g0, g5, g6, hu, hpu, rfl, k2, o2, lo2, t2, hsc⟩
  obtain ⟨_, va, vc, hva⟩ := o2.src
  by_cases hlt : used < l.length
  · obtain ⟨b, hb1, hb2, hb3⟩ : ∃ b, a = some ⟨b, 0, none⟩ ∧ c = open_ ∧ s.heap.get b = some (.cells (byteCells l) 5 1 true (0, 0)) := by
      cases hv with
      | nil => exact absurd hlt (by simp)
      | zero _ => exact absurd hlt (by simp)
      | own hx _ _ => cases hbv; exact ⟨_, rfl, rfl, hx⟩
    subst hb1 hb2
    have hbk := k2.old _ _ hb3
    have hbl := byteCells_len l
    have hml : (l.drop used).length = l.length - used := by rw [List.length_drop]
    generalize hm2 : l.drop used = m at *
    have hcm : ∀ o n, o + n ≤ m.length → cutN (byteCells l) (used + o) n = some (byteCells ((m.drop o).take n)) := fun o n ho => by
      rw [cut_drop (by omega), ← hm2, List.drop_drop]
    have hsm := scanB_eq m
    rw [if_neg (by omega)] at hsm
    by_cases h8 : m.length < 8
    · rw [if_pos h8] at hsm
      rw [hsm, List.append_nil] at hsc
      (try first | refine EvO.nx ?_ | refine EvA.nx ?_); repeat' (first | refine Abs.goH (Abs.cc g0 (Abs.cc g5 (Abs.cc g6 (Abs.cc hbk (hbl))))) ?_ | with_reducible refine Abs.fork (fun hb => ?_) (fun hb => ?_))
      have h' := h v s2 vs k2 (by rw [hsc]; exact o2) lo2 (by rw [hsc]; exact t2)
      rw [hsc] at h'
      exact h'
    · rw [if_neg h8] at hsm
      have hc0 := hcm 0 m.length (by omega)
      rw [List.drop_zero, List.take_length, Nat.add_zero] at hc0
      have hrl := rd32_lt m
      (try first | refine EvO.nx ?_ | refine EvA.nx ?_); repeat' (first | refine Abs.goH (Abs.cc g0 (Abs.cc g5 (Abs.cc g6 (Abs.cc hbk (hbl))))) ?_ | with_reducible refine Abs.fork (fun hb => ?_) (fun hb => ?_))
      refine rnum_ev hn hbk hml.symm (by omega) (by rw [← hml]; exact hc0) ⟨_, _, rfl, ?_⟩
      by_cases hbig : 65536 < rd32 m
      · rw [if_pos hbig] at hsm
        rw [hsm, List.append_nil] at hsc
        (try first | refine EvO.nx ?_ | refine EvA.nx ?_); repeat' (first | refine Abs.goH (Abs.cc g0 (Abs.cc g5 (g6))) ?_ | with_reducible refine Abs.fork (fun hb => ?_) (fun hb => ?_))
        have h' := h v s2 vs k2 (by rw [hsc]; exact o2) lo2 (by rw [hsc]; exact t2)
        rw [hsc] at h'
        exact h'
      · rw [if_neg hbig] at hsm
        have hmod : (rd32 m : Int) % 18446744073709551616 = (rd32 m : Int) := by omega
        by_cases hcut : m.length - 8 < rd32 m
        · rw [if_pos hcut] at hsm
          rw [hsm, List.append_nil] at hsc
          (try first | refine EvO.nx ?_ | refine EvA.nx ?_); repeat' (first | refine Abs.goH (Abs.cc g0 (Abs.cc g5 (g6))) ?_ | with_reducible refine Abs.fork (fun hb => ?_) (fun hb => ?_))
          have h' := h v s2 vs k2 (by rw [hsc]; exact o2) lo2 (by rw [hsc]; exact t2)
          rw [hsc] at h'
          exact h'
        · rw [if_neg hcut] at hsm
          have kz := k2.new (.cells [] 5 0 false (0, 0))
          have hbkz := get_old (b := b) (c := s2.next) (x := .cells [] 5 0 false (0, 0)) hbk (Nat.ne_of_lt (k2.wf _ _ hbk))
          have hn8 : (8 + (rd32 m : Int)).toNat - 8 = rd32 m := by omega
          have hc8 := hcm 8 (rd32 m) (by omega)
          have hpl : ((m.drop 8).take (rd32 m)).length = rd32 m := by rw [List.length_take, List.length_drop]; omega
          (try first | refine EvO.nx ?_ | refine EvA.nx ?_); repeat' (first | refine Abs.goH (Abs.cc g0 (Abs.cc g5 (Abs.cc g6 (Abs.cc hbk (Abs.cc hbkz (Abs.cc hbl (hn8))))))) ?_ | with_reducible refine Abs.fork (fun hb => ?_) (fun hb => ?_))
          have hB8 : BytesB ⟨s2.heap.set s2.next (.cells [] 5 0 false (0, 0)), s2.next + 1⟩ (.slice (some ⟨b, used + 8, none⟩) (rd32 m) open_) ((m.drop 8).take (rd32 m)) := (BytesC.part hbkz hpl.symm hc8).bytes
          have hsB8 := hB8.2
          rw [hpl] at hsB8
          refine EvO.appendZ (lo := s2.next) (m := (m.drop 8).take (rd32 m)) kz.wf (get_same _ _ _) ((appSrc_slice Tryz.underlying28).trans (by rw [hpl]; exact hsB8)) (by omega) (Nat.le_succ _) fun cv s3 k3 t3 => ?_
          have k23 := (Keep.refl k2.wf).new (.cells [] 5 0 false (0, 0)) |>.trans k3
          have hbk3 := k23.old _ _ hbk
          have hcB := t3.bytes
          obtain ⟨ca, cc, rfl⟩ := hcB.1
          have o3 := o2.mono fun b x _ hx => k23.old b x hx
          have hcs : (cutN (byteCells l) used (8 + rd32 m)).bind cellBytes = some (m.take (8 + rd32 m)) := by
            have h1 := hcm 0 (8 + rd32 m) (by omega)
            rw [List.drop_zero, Nat.add_zero] at h1
            rw [h1]
            exact cellBytes_byteCells _
          have hn88 : (8 + (rd32 m : Int)).toNat = 8 + rd32 m := by omega
          have hfs := frame_same (m := m) (by omega)
          (try first | refine EvO.nx ?_ | refine EvA.nx ?_); repeat' (first | refine Abs.go ?_ | with_reducible refine Abs.fork (fun hb => ?_) (fun hb => ?_))
          refine Abs.Ev.regionD (n := 0) (l := [.go 0, .go 3, .go 4, .go 5, .go 6, .go 7, .go 8, .go 1, .go 2, .again 5, .again 7, .again 8, .go 9]) (by kernel_rfl) ?_
          (try first | refine EvO.nx ?_ | refine EvA.nx ?_); repeat' (first | refine Abs.goH (Abs.cc g0 (Abs.cc g5 (Abs.cc g6 (Abs.cc hbk3 (Abs.cc hbl (Abs.cc hn88 (hcs))))))) ?_ | with_reducible refine Abs.fork (fun hb => ?_) (fun hb => ?_))
          refine rframe_ev hn k3.wf hcB (by omega) fun fv s4 k4 o4 => ⟨_, _, rfl, ?_⟩
          have hfl := frameB_len ((m.drop 8).take (rd32 m))
          generalize frameB ((m.drop 8).take (rd32 m)) = FB at *
          obtain ⟨fb, fo, fw, rfl, hfb, hfc⟩ := Own.blk o4 (by intro e; rw [e, List.length_nil] at hfl; omega)
          have hbk4 := k4.old _ _ hbk3
          by_cases hne : rd32 (m.drop 4) ≠ sumN (m.take 4) ((m.drop 8).take (rd32 m))
          · rw [if_pos hne] at hsm
            rw [hsm, List.append_nil] at hsc
            have hF : (FB == m.take (8 + rd32 m)) = false := by simpa using fun e => hne (hfs.1 e)
            (try first | refine EvO.nx ?_ | refine EvA.nx ?_); repeat' (first | refine Abs.goH (Abs.cc g0 (Abs.cc g5 (Abs.cc g6 (Abs.cc hbk4 (Abs.cc hfb (Abs.cc hfc (Abs.cc hbl (Abs.cc hn88 (Abs.cc hcs (hF)))))))))) ?_ | with_reducible refine Abs.fork (fun hb => ?_) (fun hb => ?_))
            have h' := h v s4 vs ((k2.trans k23).trans k4) (by rw [hsc]; exact o3.mono fun b x _ hx => k4.old b x hx) lo2 (by rw [hsc]; exact (t2.mono k23.old).mono k4.old)
            rw [hsc] at h'
            exact h'
          · rw [if_neg hne] at hsm
            have hEq : rd32 (m.drop 4) = sumN (m.take 4) ((m.drop 8).take (rd32 m)) := by omega
            have hF : FB = m.take (8 + rd32 m) := hfs.2 hEq
            subst hF
            (try first | refine EvO.nx ?_ | refine EvA.nx ?_); repeat' (first | refine Abs.goH (Abs.cc g0 (Abs.cc g5 (Abs.cc g6 (Abs.cc hbk4 (Abs.cc hfb (Abs.cc hfc (Abs.cc hbl (Abs.cc hn88 (hcs))))))))) ?_ | with_reducible refine Abs.fork (fun hb => ?_) (fun hb => ?_))
            have kb := (Keep.refl k4.wf).new (.cells [.slice ca ((m.drop 8).take (rd32 m)).length cc] 28 0 false (0, 0))
            have k5 := ((k2.trans k23).trans k4).trans kb
            have k35 := k4.trans kb
            have o5 := o3.mono fun b x _ hx => k35.old b x hx
            refine EvO.appendV (m := 1) (nw := [.slice ca ((m.drop 8).take (rd32 m)).length cc]) kb.wf Tryz.underlying59 Ty.sz28 Ty.by28 Ty.ze28 rfl (by decide) o5 (by unfold open_; omega) ((appSrc_slice Tryz.underlying59).trans (src_cells (get_same _ _ _) rfl)) rfl rfl (by decide) (by omega) (by omega) fun v6 s6 o6 e6 w6 n6 b6 p6 => ?_
            have lo6 : ∀ c, inBlk v6 c → s.next ≤ c := fun c hc => by
              obtain ⟨bb, oo, e, hb⟩ := e6
              rw [e] at hc
              obtain ⟨_, _, _, e'⟩ := hc
              cases e'
              rcases hb with hb | hb
              · rw [hb]; exact k5.next
              · exact lo2 _ hb.blk
            have k6 := k5.appendV w6 n6 p6 hwf fun b hb => lo2 b hb.blk
            have t6 : AllT s6 s.next (vs ++ [.slice ca ((m.drop 8).take (rd32 m)).length cc]) (ps ++ [(m.drop 8).take (rd32 m)]) :=
              (((t2.mono k23.old).mono k35.old).but b6).snoc (((t3.mono k35.old (Nat.le_refl _)).but (by decide) b6).down k2.next)
            (try first | refine EvO.nx ?_ | refine EvA.nx ?_); repeat' (first | refine Abs.goH (Abs.cc g0 (Abs.cc g5 (g6))) ?_ | with_reducible refine Abs.fork (fun hb => ?_) (fun hb => ?_))
            refine ⟨l.length - (used + (8 + rd32 m)), by omega, _, used + (8 + rd32 m), v6, _, _, rfl, ?_, ?_, ?_, by omega, by rw [List.length_append, List.length_singleton]; omega, rfl, k6, by rw [List.length_append, List.length_singleton]; exact o6, lo6, t6, ?_⟩
            · simp (disch := first | omega | assumption) only [go_sem, g0]
            · simp (disch := first | omega | assumption) only [go_sem, ]
            · have e9 : ((used + (8 + rd32 m) : Nat) : Int) = (used : Int) + 8 + (rd32 m : Int) := by omega
              simp (disch := first | omega | assumption) only [go_sem, e9]
            · rw [← List.drop_drop, hm2, hsc, hsm]
              simp only [List.append_assoc, List.singleton_append, Nat.add_assoc]
  · obtain rfl : used = l.length := by omega
    rw [List.drop_length, scanB_nil, List.append_nil, Nat.add_zero] at hsc
    (try first | refine EvO.nx ?_ | refine EvA.nx ?_); repeat' (first | refine Abs.goH (Abs.cc g0 (Abs.cc g5 (g6))) ?_ | with_reducible refine Abs.fork (fun hb => ?_) (fun hb => ?_))
    have h' := h v s2 vs k2 (by rw [hsc]; exact o2) lo2 (by rw [hsc]; exact t2)
    rw [hsc] at h'
    exact h'
end
end Go.Proofs.YtbakhdgiimjnkaaGreatDoor
