/-
  The document's own sums, frames and scans, at the evaluator: what they say is what the program's say.
-/
import Derived.Test.YtbakhdgiimjnkaaGreatDoorWlC
import Derived.Test.YtbakhdgiimjnkaaGreatDoorEvSet
set_option linter.unusedVariables false
set_option linter.unusedSimpArgs false
namespace Go.Proofs.YtbakhdgiimjnkaaGreatDoor
open Abs
set_option maxHeartbeats 16000000
set_option maxRecDepth 20000
set_option linter.unusedSimpArgs false
attribute [local irreducible] Abs.Ev Abs.EvF Abs.EvO Abs.EvA Abs.Seq Abs.Blk Abs.Body Abs.Scp Abs.EvG Abs.EvAg Abs.Nx
attribute [local go_sem] Tryz.underlying3 Ty.sz3 Ty.by3 Ty.ag3 Ty.ze3 Tryz.underlying4 Ty.sz4 Ty.by4 Ty.ag4 Ty.ze4 Tryz.underlying5 Ty.sz5 Ty.by5 Ty.ag5 Ty.ze5 Tryz.underlying9 Ty.sz9 Ty.by9 Ty.ag9 Ty.ze9 Tryz.underlying28 Ty.sz28 Ty.by28 Ty.ag28 Ty.ze28 Tryz.underlying59 Ty.sz59 Ty.by59 Ty.ag59 Ty.ze59 Tryz.underlying121 Ty.sz121 Ty.by121 Ty.ag121 Ty.ze121
section
variable {Sm : Summ} {Q : Ans → Prop}
structure NoCRef (Sm : Summ) : Prop where
  bit : Sm 126 = none
  more : Sm 103 = none
  sum : Sm 79 = none
  four : Sm 78 = none
  num : Sm 82 = none
  frame : Sm 38 = none
  scan : Sm 41 = none
/-- the document's register, a bit on -/
def dBit (d x : Nat) : Nat := if (d ^^^ x) &&& 1 = 1 then (d >>> 1) ^^^ 2197175160 else d >>> 1
theorem dBit_crc (c x : Nat) : dBit (c ^^^ x) (x &&& 1) = crcBit c ^^^ (x >>> 1) := by
  have h1 : ((c ^^^ x) ^^^ (x &&& 1)) &&& 1 = c &&& 1 := by
    rw [Nat.and_xor_distrib_right, Nat.and_xor_distrib_right, Nat.and_assoc, Nat.and_self, Nat.xor_assoc, Nat.xor_self, Nat.xor_zero]
  have h2 : (c ^^^ x) >>> 1 = c >>> 1 ^^^ x >>> 1 := Nat.shiftRight_xor_distrib
  unfold dBit
  rw [h1, h2]
  by_cases h : c &&& 1 = 1
  · rw [if_pos h, crcBit_odd h, Nat.xor_assoc, Nat.xor_comm (x >>> 1), ← Nat.xor_assoc]
  · rw [if_neg h, crcBit_even h]
theorem rbit_ev (hn : NoCRef Sm) {s : St} {d x : Nat} (hd : d < 4294967296) (hx : x < 4294967296) (h : Q (.val (.int .u32 ((dBit d x : Nat) : Int)) s)) :
    Ev Tryz.prog Sm (.inv (.fn (.func 126) #[]) [.int .u32 (d : Int), .int .u32 (x : Int)] s) Q := by
  refine Ev.func hn.bit Tryz.func126 rfl (m := 15) rfl ?_
  simp only [Array.toList_empty, List.append_nil, ofList_cons, ofList_nil]
  have hy : d ^^^ x < 4294967296 := Nat.xor_lt_two_pow (n := 32) hd hx
  have hsh := shr32 hd
  unfold dBit at h
  by_cases hc : (d ^^^ x) &&& 1 = 1
  · rw [if_pos hc] at h
    (try first | refine EvO.nx ?_ | refine EvA.nx ?_); repeat' (first | refine Abs.go ?_ | with_reducible refine Abs.fork (fun hb => ?_) (fun hb => ?_))
    exact h
  · rw [if_neg hc] at h
    (try first | refine EvO.nx ?_ | refine EvA.nx ?_); repeat' (first | refine Abs.go ?_ | with_reducible refine Abs.fork (fun hb => ?_) (fun hb => ?_))
    exact h
set_option maxRecDepth 20000 in
theorem rmore_ev (hn : NoCRef Sm) {s : St} {v : Value} {l : List UInt8} (hv : BytesB s v l) (hl : l.length ≤ 1073741824) {c : Nat} (hc : c < 4294967296) (h : Q (.val (.int .u32 ((moreN c l : Nat) : Int)) s)) :
    Ev Tryz.prog Sm (.inv (.fn (.func 103) #[]) [.int .u32 (c : Int), v] s) Q := by
  refine Ev.func hn.more Tryz.func103 rfl (m := 33) rfl ?_
  simp only [Array.toList_empty, List.append_nil, ofList_cons, ofList_nil]
  obtain ⟨⟨a, k, rfl⟩, hs⟩ := hv
  have hx0 : c ^^^ 4294967295 < 4294967296 := Nat.xor_lt_two_pow (n := 32) hc (by decide)
  have hbl := byteCells_len l
  (try first | refine EvO.nx ?_ | refine EvA.nx ?_); repeat' (first | refine Abs.go ?_ | with_reducible refine Abs.fork (fun hb => ?_) (fun hb => ?_))
  refine Ev.loop (fun q a' s' => s' = s ∧ ∃ T, ∃ i c' : Nat, a' = ⟨T, 33, []⟩ ∧ T.get 1 = some (.slice a l.length k) ∧ T.get 5 = some (.int .u32 ((c' : Nat) : Int)) ∧ T.get 6 = some (.int .i64 ((i : Nat) : Int)) ∧ c' < 4294967296 ∧ i ≤ l.length ∧ moreN c l = 4294967295 ^^^ ((l.drop i).foldl (fun c b => crcByte c b.toNat) c') ∧ q = l.length - i) (k := l.length)
    ⟨rfl, _, 0, c ^^^ 4294967295, rfl, ?g1, ?g5, ?g6, hx0, Nat.zero_le _, by rw [List.drop_zero, Nat.xor_comm c]; rfl, rfl⟩ ?_
  case g1 => simp (disch := first | omega | assumption) only [go_sem, ]
  case g5 => simp (disch := first | omega | assumption) only [go_sem, ]
  case g6 => simp (disch := first | omega | assumption) only [go_sem, ]; try rfl
  rintro q a' s' ⟨rfl, T, i, c', rfl, g1, g5, g6, hc', hi, hm, rfl⟩
  by_cases hil : i < l.length
  · obtain ⟨b, o, kc, w, e, hw, hvl, hat⟩ := list_at hs ⟨_, _, rfl⟩ (by omega)
    cases e
    have hx := hat i (by omega)
    have hd : l.drop i = l[i] :: l.drop (i + 1) := List.drop_eq_getElem_cons hil
    have hce : (byteCells l)[i]'(by omega) = .int .u8 ((l[i].toNat : Nat) : Int) := by
      simp only [byteCells_eq, List.getElem_map]
      rfl
    rw [hce] at hx
    rw [hd, List.foldl_cons] at hm
    have h8 : l[i].toNat < 256 := l[i].toNat_lt
    generalize l[i].toNat = x at *
    clear hd hce hat hvl
    (try first | refine EvO.nx ?_ | refine EvA.nx ?_); repeat' (first | refine Abs.goH (Abs.cc g1 (Abs.cc g5 (g6))) ?_ | with_reducible refine Abs.fork (fun hb => ?_) (fun hb => ?_))
    refine Ev.loop (fun q a'' s'' => s'' = s' ∧ ∃ T, ∃ j : Nat, a'' = ⟨T, 33, []⟩ ∧ T.get 1 = some (.slice (some ⟨b, o, none⟩) l.length k) ∧ T.get 5 = some (.int .u32 ((crcBits (c' ^^^ x) j ^^^ (x >>> j) : Nat) : Int)) ∧ T.get 6 = some (.int .i64 ((i : Nat) : Int)) ∧ T.get 7 = some (.int .i64 ((j : Nat) : Int)) ∧ j ≤ 8 ∧ q = 8 - j) (k := 8)
      ⟨rfl, _, 0, rfl, ?g1, ?g5, ?g6, ?g7, by omega, rfl⟩ ?_
    case g1 => simp (disch := first | omega | assumption) only [go_sem, g1]
    case g5 =>
      have e : crcBits (c' ^^^ x) 0 ^^^ (x >>> 0) = c' := by
        show (c' ^^^ x) ^^^ x = c'
        rw [Nat.xor_assoc, Nat.xor_self, Nat.xor_zero]
      rw [e]
      simp (disch := first | omega | assumption) only [go_sem, g5]
    case g6 => simp (disch := first | omega | assumption) only [go_sem, g6]
    case g7 => simp (disch := first | omega | assumption) only [go_sem, ]; try rfl
    clear g1 g5 g6 T
    rintro q a'' s'' ⟨rfl, T, j, rfl, g1, g5, g6, g7, hj, rfl⟩
    have hcx : c' ^^^ x < 4294967296 := Nat.xor_lt_two_pow (n := 32) hc' (by omega)
    have hcj := crcBits_lt hcx j
    have hxj : x >>> j < 256 := by
      rw [Nat.shiftRight_eq_div_pow]
      exact Nat.lt_of_le_of_lt (Nat.div_le_self _ _) h8
    by_cases hj8 : j < 8
    · have hdx := Nat.xor_lt_two_pow (n := 32) hcj (show x >>> j < 2 ^ 32 by omega)
      have h1 : (x >>> j) &&& 1 ≤ 1 := Nat.and_le_right
      have hb0 : (0 : Int) ≤ ((x >>> j : Nat) : Int) := Int.natCast_nonneg _
      have hb1 : ((x >>> j : Nat) : Int) < 4294967296 := Int.lt_of_lt_of_le (Int.ofNat_lt.2 hxj) (by decide)
      have hb2 : ((x >>> j : Nat) : Int) ≤ 4294967295 := Int.le_trans (Int.le_of_lt (Int.ofNat_lt.2 hxj)) (by decide)
      have hstep := dBit_crc (crcBits (c' ^^^ x) j) (x >>> j)
      rw [← crcBits_succ, ← Nat.shiftRight_add] at hstep
      generalize hD : crcBits (c' ^^^ x) j ^^^ (x >>> j) = D at *
      (try first | refine EvO.nx ?_ | refine EvA.nx ?_); repeat' (first | refine Abs.goH (Abs.cc g1 (Abs.cc g5 (Abs.cc g6 (Abs.cc g7 (Abs.cc hw (hx)))))) ?_ | with_reducible refine Abs.fork (fun hb => ?_) (fun hb => ?_))
      have hdx : D < 4294967296 := hdx
      refine rbit_ev (d := D) (x := x >>> j &&& 1) hn hdx (by omega) ?_
      rw [hstep]
      refine ⟨_, _, rfl, ?_⟩
      (try first | refine EvO.nx ?_ | refine EvA.nx ?_); repeat' (first | refine Abs.goH (Abs.cc g1 (Abs.cc g5 (Abs.cc g6 (g7)))) ?_ | with_reducible refine Abs.fork (fun hb => ?_) (fun hb => ?_))
      refine ⟨8 - (j + 1), by omega, rfl, _, j + 1, rfl, ?_, ?_, ?_, ?_, by omega, rfl⟩
      · simp (disch := first | omega | assumption) only [go_sem, g1]
      · simp (disch := first | omega | assumption) only [go_sem, ]
      · simp (disch := first | omega | assumption) only [go_sem, g6]
      · simp (disch := first | omega | assumption) only [go_sem, Int.natCast_add, Int.natCast_one]
    · obtain rfl : j = 8 := by omega
      have e8 : crcBits (c' ^^^ x) 8 ^^^ (x >>> 8) = crcByte c' x := by
        rw [show x >>> 8 = 0 by rw [Nat.shiftRight_eq_div_pow]; omega, Nat.xor_zero]
        rfl
      rw [e8] at g5
      have hlt : crcByte c' x < 4294967296 := crcBits_lt hcx 8
      (try first | refine EvO.nx ?_ | refine EvA.nx ?_); repeat' (first | refine Abs.goH (Abs.cc g1 (Abs.cc g5 (Abs.cc g6 (g7)))) ?_ | with_reducible refine Abs.fork (fun hb => ?_) (fun hb => ?_))
      refine ⟨l.length - (i + 1), by omega, rfl, _, i + 1, crcByte c' x, rfl, ?_, ?_, ?_, hlt, hil, hm, rfl⟩
      · simp (disch := first | omega | assumption) only [go_sem, g1]
      · simp (disch := first | omega | assumption) only [go_sem, g5]
      · simp (disch := first | omega | assumption) only [go_sem, Int.natCast_add, Int.natCast_one]
  · obtain rfl : i = l.length := by omega
    rw [List.drop_length, List.foldl_nil] at hm
    (try first | refine EvO.nx ?_ | refine EvA.nx ?_); repeat' (first | refine Abs.goH (Abs.cc g1 (Abs.cc g5 (g6))) ?_ | with_reducible refine Abs.fork (fun hb => ?_) (fun hb => ?_))
    rw [hm, Nat.xor_comm] at h
    exact h
theorem rsum_ev (hn : NoCRef Sm) {s : St} {v : Value} {l : List UInt8} (hv : BytesB s v l) (hl : l.length ≤ 1073741824) (h : Q (.val (.int .u32 ((moreN 0 l : Nat) : Int)) s)) :
    Ev Tryz.prog Sm (.inv (.fn (.func 79) #[]) [v] s) Q := by
  refine Ev.func hn.sum Tryz.func79 rfl (m := 5) rfl ?_
  simp only [Array.toList_empty, List.append_nil, ofList_cons, ofList_nil]
  (try first | refine EvO.nx ?_ | refine EvA.nx ?_); repeat' (first | refine Abs.go ?_ | with_reducible refine Abs.fork (fun hb => ?_) (fun hb => ?_))
  refine rmore_ev (c := 0) hn hv hl (by decide) ⟨_, _, rfl, ?_⟩
  (try first | refine EvO.nx ?_ | refine EvA.nx ?_); repeat' (first | refine Abs.go ?_ | with_reducible refine Abs.fork (fun hb => ?_) (fun hb => ?_))
  exact h
theorem rfour_ev (hn : NoCRef Sm) {s : St} (hwf : s.wf) {n : Nat} (h0 : n < 4294967296) (h : ∀ b s', Keep s s' → s.next ≤ b → s'.heap.get b = some (.cells (byteCells (le32 n)) 5 0 false (0, 0)) → Q (.val (.slice (some ⟨b, 0, none⟩) 4 4) s')) :
    Ev Tryz.prog Sm (.inv (.fn (.func 78) #[]) [.int .u32 (n : Int)] s) Q := by
  refine Ev.func hn.four Tryz.func78 rfl (m := 15) rfl ?_
  simp only [Array.toList_empty, List.append_nil, ofList_cons, ofList_nil]
  (try first | refine EvO.nx ?_ | refine EvA.nx ?_); repeat' (first | refine Abs.go ?_ | with_reducible refine Abs.fork (fun hb => ?_) (fun hb => ?_))
  refine h s.next _ ((Keep.refl hwf).new _) (Nat.le_refl _) ?_
  show (s.heap.set _ _).get _ = _
  rw [get_same, byteCells_eq]
  unfold le32
  have e1 : n >>> 8 = n / 256 := Nat.shiftRight_eq_div_pow n 8
  have e2 : n >>> 16 = n / 65536 := Nat.shiftRight_eq_div_pow n 16
  have e3 : n >>> 24 = n / 16777216 := Nat.shiftRight_eq_div_pow n 24
  have e4 : n / 16777216 % 256 = n / 16777216 := Nat.mod_eq_of_lt (by omega)
  simp only [wrap_u8_nat, e1, e2, e3, List.map_cons, List.map_nil, UInt8.toNat_ofNat', Int.ofNat_eq_natCast, Nat.reducePow, Nat.mod_mod, e4]
  rfl
theorem own_of {s : St} {lo b : Nat} {l : List UInt8} (hb : s.heap.get b = some (.cells (byteCells l) 5 1 true (0, 0))) (hl : l ≠ []) (ho : lo ≤ b) (hs : l.length ≤ 140737488355328) : Own s lo 5 1 (.slice (some ⟨b, 0, none⟩) l.length open_) l.length (byteCells l) := by
  have hbl := byteCells_len l
  have hp : 0 < l.length := List.length_pos_iff.2 hl
  refine ⟨.room hb (Nat.zero_mod _) (by omega) (by rw [List.drop_zero, List.take_of_length_le (by omega)]), ?_, ?_, by unfold open_; omega⟩
  · rintro c ⟨o, m, k, e⟩
    cases e
    exact ⟨_, _, rfl⟩
  · rintro c ⟨o, m, e⟩
    cases e
    exact ho
theorem moreN_app (c : Nat) (a b : List UInt8) : moreN c (a ++ b) = moreN (moreN c a) b := by
  unfold moreN
  rw [List.foldl_append]
  congr 1
  rw [← Nat.xor_assoc, Nat.xor_self, Nat.zero_xor]
/-- bytes put behind a fresh empty slice -/
theorem EvO.appendZ {st : St} {lo bz : Nat} {xt : List TypeId} {x : Value} {m : List UInt8} {K : Value → St → Prop} (hwf : st.wf) (hz : st.heap.get bz = some (.cells [] 5 0 false (0, 0))) (hx : appSrc Tryz.prog st.heap 1 (cellsOf (.int .u8 0)) xt x = .ok (m.length, byteCells m)) (h1 : m.length ≤ 1000000000) (hlo : lo ≤ st.next)
    (h : ∀ v' st', Keep st st' → TxtB st' lo v' m → K v' st') : EvO (fun _ k => aAppend Tryz.prog st (28 :: xt) (.slice (some ⟨bz, 0, none⟩) 0 0) x fun v s => k v [] s) K := by
  by_cases hm : m = []
  · subst hm
    exact EvO.append0B ⟨_, _, rfl⟩ hx (by decide) (h _ st (Keep.refl hwf) (.zero hz))
  · refine EvO.appendO (l := []) (m := m) hwf (TxtB.zero (lo := lo) hz).buf hx hm (by simp; omega) fun st' k1 k3 k4 k5 => ?_
    rw [List.nil_append] at k1 ⊢
    exact h _ _ ((Keep.refl hwf).append k3 k4 k5 hwf (by rintro b ⟨n, e⟩; cases e)) (.own k1 hm hlo)
theorem TxtB.toOwn {s : St} {lo : Nat} {v : Value} {l : List UInt8} (h : TxtB s lo v l) (hl : l ≠ []) (hs : l.length ≤ 140737488355328) : Own s lo 5 1 v l.length (byteCells l) := by
  cases h with
  | nil => exact absurd rfl hl
  | zero _ => exact absurd rfl hl
  | own hb _ ho => exact own_of hb hl ho hs
theorem Own.blk {s : St} {lo : Nat} {v : Value} {l : List UInt8} (h : Own s lo 5 1 v l.length (byteCells l)) (hl : l ≠ []) : ∃ b o w, v = .slice (some ⟨b, o, none⟩) l.length open_ ∧ s.heap.get b = some (.cells w 5 1 true (0, 0)) ∧ (cutN w o l.length).bind cellBytes = some l := by
  have hp : 0 < l.length := List.length_pos_iff.2 hl
  obtain ⟨hs, a, c, rfl⟩ := h.vec.src
  cases a with
  | none =>
    exfalso
    have e : (0, ([] : List Value)) = (l.length, byteCells l) := Rs.ok.inj hs
    have : (0 : Nat) = l.length := congrArg Prod.fst e
    omega
  | some q =>
    obtain ⟨b, o, sp⟩ := q
    cases sp with
    | some _ => cases hs
    | none =>
      obtain ⟨o', n', e⟩ := h.room b ⟨_, _, _, rfl⟩
      cases e
      obtain ⟨w, hw⟩ := h.vec.kind ⟨_, _, rfl⟩ h.small
      obtain ⟨w', h3, h4, h5⟩ := src_parts hs
      rw [hw] at h3
      cases h3
      rw [Nat.mul_one] at h4 h5
      refine ⟨b, o, w, rfl, hw, ?_⟩
      rw [cutN_eq, if_pos h5, h4]
      exact cellBytes_byteCells l
set_option maxRecDepth 20000 in
theorem rframe_ev (hn : NoCRef Sm) {s : St} (hwf : s.wf) {v : Value} {l : List UInt8} (hv : BytesB s v l) (hl : l.length ≤ 100000000) (h : ∀ v' s', Keep s s' → Own s' s.next 5 1 v' (frameB l).length (byteCells (frameB l)) → Q (.val v' s')) :
    Ev Tryz.prog Sm (.inv (.fn (.func 38) #[]) [v] s) Q := by
  refine Ev.func hn.frame Tryz.func38 rfl (m := 21) rfl ?_
  simp only [Array.toList_empty, List.append_nil, ofList_cons, ofList_nil]
  obtain ⟨a, k, rfl⟩ := hv.1
  (try first | refine EvO.nx ?_ | refine EvA.nx ?_); repeat' (first | refine Abs.go ?_ | with_reducible refine Abs.fork (fun hb => ?_) (fun hb => ?_))
  refine rfour_ev hn hwf (by omega) fun b1 s1 k1 hb1 hx1 => ⟨_, _, rfl, ?_⟩
  have h4l : (le32 l.length).length = 4 := rfl
  have h4n : le32 l.length ≠ [] := by unfold le32; simp
  have e8 := frameB_len l
  have eF : frameB l = le32 l.length ++ (le32 (sumN (le32 l.length) l) ++ l) := rfl
  have hsl := sumN_lt (le32 l.length) l
  have hsm : moreN 0 (le32 l.length ++ l) = sumN (le32 l.length) l := moreN_app _ _ _
  generalize hL4 : le32 l.length = L4 at *
  (try first | refine EvO.nx ?_ | refine EvA.nx ?_); repeat' (first | refine Abs.go ?_ | with_reducible refine Abs.fork (fun hb => ?_) (fun hb => ?_))
  have k2 := k1.new (.cells [] 5 0 false (0, 0))
  have hx2 := ((Keep.refl k1.wf).new (.cells [] 5 0 false (0, 0))).old _ _ hx1
  have hcl4 := byteCells_len L4
  refine EvO.appendZ (lo := s.next) (m := L4) k2.wf (get_same _ _ _) ((appSrc_slice Tryz.underlying28).trans (by rw [h4l]; exact src_cells hx2 (by rw [hcl4, h4l]))) (by omega) k2.next fun v3 s3 k3 t3 => ?_
  have k03 := k2.trans k3
  have o3 := t3.toOwn h4n (by omega)
  have hx3 := k3.old _ _ hx2
  obtain ⟨va, vc, rfl⟩ := t3.bytes.1
  (try first | refine EvO.nx ?_ | refine EvA.nx ?_); repeat' (first | refine Abs.go ?_ | with_reducible refine Abs.fork (fun hb => ?_) (fun hb => ?_))
  have k4 := (Keep.refl k3.wf).new (.cells [] 5 0 false (0, 0))
  have hx4 := k4.old _ _ hx3
  refine EvO.appendZ (lo := s3.next) (m := L4) k4.wf (get_same _ _ _) ((appSrc_slice Tryz.underlying28).trans (by rw [h4l]; exact src_cells hx4 (by rw [hcl4, h4l]))) (by omega) k4.next fun v5 s5 k5 t5 => ?_
  have k35 := k4.trans k5
  have k05 := k03.trans k35
  have o5 := t5.toOwn h4n (by omega)
  obtain ⟨wa, wc, rfl⟩ := t5.bytes.1
  (try first | refine EvO.nx ?_ | refine EvA.nx ?_); repeat' (first | refine Abs.go ?_ | with_reducible refine Abs.fork (fun hb => ?_) (fun hb => ?_))
  refine Abs.EvO.appendOwnW (cs := byteCells L4) (nw := byteCells l) k5.wf Tryz.underlying28 Ty.sz5 Ty.by5 Ty.ze5 rfl (by decide) o5 k35.next ((appSrc_slice Tryz.underlying28).trans (hv.mono k05.old).2) (by rw [byteCells_len, Nat.mul_one]) (byteCells_one l) (by omega) (by omega) fun v6 s6 o6 w6 n6 b6 p6 => ?_
  have k36 : Keep s3 s6 := k35.but w6 n6 p6 k3.wf
  have k06 := k03.trans k36
  have hB6 : BytesB s6 v6 (L4 ++ l) := by
    obtain ⟨q1, q2⟩ := o6.vec.src
    rw [← byteCells_append] at q1
    exact ⟨by rw [List.length_append]; exact q2, by rw [List.length_append]; exact q1⟩
  have o36 := o3.mono fun b l _ hx => k36.old b _ hx
  (try first | refine EvO.nx ?_ | refine EvA.nx ?_); repeat' (first | refine Abs.go ?_ | with_reducible refine Abs.fork (fun hb => ?_) (fun hb => ?_))
  refine rsum_ev hn hB6 (by rw [List.length_append]; omega) ⟨_, _, rfl, ?_⟩
  rw [hsm]
  generalize sumN L4 l = S at *
  (try first | refine EvO.nx ?_ | refine EvA.nx ?_); repeat' (first | refine Abs.go ?_ | with_reducible refine Abs.fork (fun hb => ?_) (fun hb => ?_))
  refine rfour_ev hn k06.wf hsl fun b7 s7 k7 hb7 hx7 => ⟨_, _, rfl, ?_⟩
  have h4s : (le32 S).length = 4 := rfl
  generalize le32 S = L5 at *
  have hcl5 := byteCells_len L5
  have k07 := k06.trans k7
  have o37 := o36.mono fun b l _ hx => k7.old b _ hx
  (try first | refine EvO.nx ?_ | refine EvA.nx ?_); repeat' (first | refine Abs.go ?_ | with_reducible refine Abs.fork (fun hb => ?_) (fun hb => ?_))
  refine Abs.EvO.appendOwnW (cs := byteCells L4) (nw := byteCells L5) (m := 4) k7.wf Tryz.underlying28 Ty.sz5 Ty.by5 Ty.ze5 rfl (by decide) o37 k07.next ((appSrc_slice Tryz.underlying28).trans (src_cells hx7 (by rw [hcl5]; omega))) (by rw [byteCells_len]; omega) (byteCells_one L5) (by omega) (by omega) fun v8 s8 o8 w8 n8 b8 p8 => ?_
  have k08 : Keep s s8 := k07.but w8 n8 p8 hwf
  obtain ⟨_, xa, xc, rfl⟩ := o8.vec.src
  (try first | refine EvO.nx ?_ | refine EvA.nx ?_); repeat' (first | refine Abs.go ?_ | with_reducible refine Abs.fork (fun hb => ?_) (fun hb => ?_))
  refine Abs.EvO.appendOwnW (nw := byteCells l) w8 Tryz.underlying28 Ty.sz5 Ty.by5 Ty.ze5 rfl (by decide) o8 k08.next ((appSrc_slice Tryz.underlying28).trans (hv.mono k08.old).2) (by rw [byteCells_len, Nat.mul_one]) (byteCells_one l) (by omega) (by omega) fun v9 s9 o9 w9 n9 b9 p9 => ?_
  have k09 : Keep s s9 := k08.but w9 n9 p9 hwf
  (try first | refine EvO.nx ?_ | refine EvA.nx ?_); repeat' (first | refine Abs.go ?_ | with_reducible refine Abs.fork (fun hb => ?_) (fun hb => ?_))
  refine h v9 s9 k09 ?_
  rw [e8, eF, byteCells_append, byteCells_append, ← List.append_assoc]
  rw [h4l, show 4 + 4 + l.length = 8 + l.length by omega] at o9
  exact o9
theorem mkl0 : aMakeSlice Tryz.prog 28 0 0 = .ok (.cells [] 28 0 false (0, 0), fun n => .slice (some ⟨n, 0, none⟩) 0 0) := by kernel_rfl
attribute [local go_sem] mkl0 Nat.zero_mul Nat.sub_zero Nat.div_one Nat.mul_one u8_lit0
theorem conv_bytesC {s : St} {v : Value} {l : List UInt8} (h : BytesB s v l) : pConvS Tryz.prog s.heap (.slice 5) v = .ok (.string ⟨⟨l⟩⟩) := by
  have hu : undT Tryz.prog 5 = .ok (.int .u8) := by rw [undT_eq, Tryz.underlying5]; rfl
  refine bytes_cases h (fun c hl hx => ?_) (fun b o c w e sz op fz hx hg hc => ?_) (fun b o c w e hx hg hc => ?_)
  · subst hl
    subst hx
    simp only [pConvS, hu, bind_ok]
    rfl
  · subst hx
    simp only [pConvS, hu, bind_ok, hg, hc, of_some]
    rfl
  · subst hx
    simp only [pConvS, hu, bind_ok, hg, hc, of_some]
    rfl
end
end Go.Proofs.YtbakhdgiimjnkaaGreatDoor
