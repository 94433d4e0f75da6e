/-
  The evaluator and what is proved of it (several texts in one).
-/
import Derived.Test.YtbakhdgiimjnkaaGreatDoorEvA
import Derived.Test.YtbakhdgiimjnkaaGreatDoorSumDef
import Derived.Test.YtbakhdgiimjnkaaGreatDoorTy
import Derived.Test.YtbakhdgiimjnkaaGreatDoorEvSet
set_option linter.unusedVariables false
set_option linter.unusedSimpArgs false
/-
  crc.More at the evaluator: what it answers.
-/
namespace Go.Proofs.YtbakhdgiimjnkaaGreatDoor
open Abs
set_option maxHeartbeats 16000000
set_option maxRecDepth 20000
set_option linter.unusedSimpArgs false
attribute [local irreducible] Abs.Ev Abs.EvF Abs.EvO Abs.EvA Abs.Seq Abs.Blk Abs.Body Abs.Scp Abs.EvG Abs.EvAg Abs.Nx
attribute [local go_sem] Abs.eDelete
section
theorem crcBit_lt {c : Nat} (h : c < 4294967296) : crcBit c < 4294967296 := by
  have h1 : c >>> 1 < 2 ^ 32 := by rw [Nat.shiftRight_eq_div_pow]; omega
  unfold crcBit
  rw [ifb_beq]
  split
  · exact Nat.xor_lt_two_pow (n := 32) h1 (by decide)
  · exact h1
theorem crcBits_succ (c j : Nat) : crcBits c (j + 1) = crcBit (crcBits c j) := natK_eq _ _
theorem crcBits_lt {c : Nat} (h : c < 4294967296) (j : Nat) : crcBits c j < 4294967296 := by
  induction j with
  | zero => exact h
  | succ j ih => rw [crcBits_succ]; exact crcBit_lt ih
theorem crcGo_cons (v : Value) (l : List Value) (c : Nat) : crcGo (v :: l) c = crcStep v c (crcGo l) := rfl
theorem crcStep_some {v : Value} {c r : Nat} {k : Nat → Option Nat} (h : crcStep v c k = some r) : ∃ b : Nat, b < 256 ∧ v = .int .u8 (b : Int) ∧ k (crcByte c b) = some r := by
  unfold crcStep at h
  split at h
  · rename_i b
    rw [ifb_blt, natK_eq] at h
    split at h
    · exact ⟨b, ‹_›, rfl, h⟩
    · cases h
  · cases h
theorem crcBit_odd {c : Nat} (h : c &&& 1 = 1) : crcBit c = (c >>> 1) ^^^ 2197175160 := by
  unfold crcBit
  rw [ifb_beq]
  exact if_pos h
theorem crcBit_even {c : Nat} (h : ¬ c &&& 1 = 1) : crcBit c = c >>> 1 := by
  unfold crcBit
  rw [ifb_beq]
  exact if_neg h
theorem shr32 {c : Nat} (h : c < 4294967296) : c >>> 1 < 4294967296 := by rw [Nat.shiftRight_eq_div_pow]; omega
theorem nat_xor (a b : Nat) : Nat.xor a b = a ^^^ b := rfl
theorem xor32 {c : Nat} (h : c < 4294967296) : 4294967295 ^^^ c < 4294967296 := Nat.xor_lt_two_pow (n := 32) (by decide) h
variable {Sm : Summ}
theorem crc_ev (hs : Sm 112 = none) {args : List Value} {s : St} {v : Value} {s1 : St} (h : sumCrc args s = .ok (v, s1)) : Ev Tryz.prog Sm (.inv (.fn (.func 112) #[]) args s) fun r => r = .val v s1 := by
  unfold sumCrc at h
  split at h <;> first | (cases h; done) | skip
  rename_i c0 A n k0
  rw [ifb_blt, ifb_ble] at h
  split at h <;> first | (cases h; done) | skip
  rename_i hc0
  split at h <;> first | (cases h; done) | skip
  rename_i hn0
  obtain ⟨q, hq, h⟩ := Rs.bind_ok h
  obtain ⟨r, hr, h⟩ := Rs.bind_ok h
  have hr := Rs.of_ok hr
  simp only [nat_xor] at hr h ⊢
  obtain ⟨rfl, rfl⟩ : v = .int .u32 (.ofNat (4294967295 ^^^ r)) ∧ s1 = s := by cases h; exact ⟨rfl, rfl⟩
  refine Ev.func hs Tryz.func112 rfl (m := 35) rfl ?_
  obtain ⟨b, o, sp⟩ := A
  cases sp with
  | some _ => cases hq
  | none =>
  simp only [Array.toList_empty, List.append_nil, ofList_cons, ofList_nil]
  have hcell : ∃ l, objCells (s1.heap.get b) = .ok l ∧ cutN l o n = some q.2 ∧ q.1 = n := by
    simp only [srcCells, Nat.mul_one] at hq
    split at hq <;> first | (cases hq; done) | skip
    · obtain ⟨cs, h1, h2⟩ := Rs.bind_ok hq
      rename_i l _ _ _ _ hb
      cases h2
      exact ⟨l, by rw [hb]; rfl, Rs.of_ok h1, rfl⟩
    · obtain ⟨cs, h1, h2⟩ := Rs.bind_ok hq
      rename_i l _ hb
      cases h2
      exact ⟨l, by rw [hb]; rfl, Rs.of_ok h1, rfl⟩
  obtain ⟨l, hl, hcut, hqn⟩ := hcell
  obtain ⟨hn, hql⟩ := cutN_some hcut
  generalize q.2 = q2 at hcut hql hr
  clear hqn
  have hlen : q2.length = n := by rw [hql, List.length_take, List.length_drop]; omega
  have hget : ∀ i, i < n → l[o + i]? = q2[i]? := by
    intro i hi
    rw [hql, List.getElem?_take_of_lt hi, List.getElem?_drop]
  clear hql hcut hn hq h
  repeat (first | refine Abs.Ev.seq ?_ | refine Abs.Ev.region ?_ | refine Abs.Ev.block ?_ | refine Abs.Ev.skip ?_ | refine Abs.Ev.exit ?_ | refine Abs.Ev.ret ?_ | refine Abs.Ev.runNil ?_ | refine Abs.Ev.stepsNil ?_ | refine Abs.Seq.go ?_ | refine Abs.Seq.off ?_ | refine Abs.Blk.here ?_ | refine Abs.Blk.go ?_ | refine Abs.Blk.off rfl ?_ | refine Abs.Blk.ret ?_ | refine Abs.Ev.label ?_ | refine Abs.Ev.scope ?_ | refine Abs.Ev.condY (Abs.get_same _ _ _) ?_ | refine Abs.Ev.condN (Abs.get_same _ _ _) ?_ | refine Abs.Ev.step' rfl rfl rfl ?_ | refine Abs.Ev.stepG' rfl rfl rfl rfl ?_ | (refine Abs.Nx.go ?_; (first | simp (disch := first | omega | assumption) only [go_sem, Tryz.underlying28] | skip)) | fail)
  refine Ev.loop (fun k a s' => s' = s1 ∧ ∃ T c i, a = ⟨T, 35, []⟩ ∧ T.get 5 = some (.int .u32 ((c : Nat) : Int)) ∧ T.get 11 = some (.slice (some ⟨b, o, none⟩) n k0) ∧ T.get 12 = some (.int .i64 (n : Int)) ∧ T.get 13 = some (.int .i64 ((i : Nat) : Int)) ∧ c < 4294967296 ∧ i ≤ n ∧ crcGo (q2.drop i) c = some r ∧ k = n - i) (k := n)
    ⟨rfl, _, 4294967295 ^^^ c0, 0, rfl, ?g5, ?g11, ?g12, ?g13, xor32 hc0, Nat.zero_le _, by rw [List.drop_zero]; exact hr, rfl⟩ ?_
  case g5 => simp (disch := omega) only [go_sem]
  case g11 => simp (disch := omega) only [go_sem]
  case g12 => simp (disch := omega) only [go_sem]
  case g13 => simp (disch := omega) only [go_sem]; rfl
  rintro m a s' ⟨rfl, T, c, i, rfl, h5, h11, h12, h13, hc, hi, hgo, rfl⟩
  repeat (first | refine Abs.Ev.seq ?_ | refine Abs.Ev.region ?_ | refine Abs.Ev.block ?_ | refine Abs.Ev.skip ?_ | refine Abs.Ev.exit ?_ | refine Abs.Ev.ret ?_ | refine Abs.Ev.runNil ?_ | refine Abs.Ev.stepsNil ?_ | refine Abs.Seq.go ?_ | refine Abs.Seq.off ?_ | refine Abs.Blk.here ?_ | refine Abs.Blk.go ?_ | refine Abs.Blk.off rfl ?_ | refine Abs.Blk.ret ?_ | refine Abs.Ev.label ?_ | refine Abs.Ev.scope ?_ | refine Abs.Ev.condY (Abs.get_same _ _ _) ?_ | refine Abs.Ev.condN (Abs.get_same _ _ _) ?_ | refine Abs.Ev.step' rfl rfl rfl ?_ | refine Abs.Ev.stepG' rfl rfl rfl rfl ?_ | (refine Abs.Nx.go ?_; (first | simp (disch := first | omega | assumption) only [go_sem, h5, h11, h12, h13] | skip)) | fail)
  refine Ev.condT (get_same _ _ _) (fun hb => ?_) (fun hb => ?_)
  · have hlt : i < n := by have := of_decide_eq_true hb; omega
    have hd : q2.drop i = q2[i]'(by omega) :: q2.drop (i + 1) := List.drop_eq_getElem_cons (by omega)
    rw [hd, crcGo_cons] at hgo
    obtain ⟨x, hx, hv, hgo⟩ := crcStep_some hgo
    have hv' : l[o + i]? = some (.int .u8 (x : Int)) := by rw [hget i hlt, List.getElem?_eq_getElem (by omega), hv]
    clear hd hv hb
    repeat (first | refine Abs.Ev.seq ?_ | refine Abs.Ev.region ?_ | refine Abs.Ev.block ?_ | refine Abs.Ev.skip ?_ | refine Abs.Ev.exit ?_ | refine Abs.Ev.ret ?_ | refine Abs.Ev.runNil ?_ | refine Abs.Ev.stepsNil ?_ | refine Abs.Seq.go ?_ | refine Abs.Seq.off ?_ | refine Abs.Blk.here ?_ | refine Abs.Blk.go ?_ | refine Abs.Blk.off rfl ?_ | refine Abs.Blk.ret ?_ | refine Abs.Ev.label ?_ | refine Abs.Ev.scope ?_ | refine Abs.Ev.condY (Abs.get_same _ _ _) ?_ | refine Abs.Ev.condN (Abs.get_same _ _ _) ?_ | refine Abs.Ev.step' rfl rfl rfl ?_ | refine Abs.Ev.stepG' rfl rfl rfl rfl ?_ | (refine Abs.Nx.go ?_; (first | simp (disch := first | omega | assumption) only [go_sem, h5, h11, h12, h13, Tryz.underlying28, Tryz.underlying5, Tryz.underlying121, Ty.sz5, Ty.ag5, hl, hv'] | skip)) | fail)
    refine Ev.loop (fun k a s'' => s'' = s' ∧ ∃ T j, a = ⟨T, 35, []⟩ ∧ T.get 5 = some (.int .u32 ((crcBits (c ^^^ x) j : Nat) : Int)) ∧ T.get 11 = some (.slice (some ⟨b, o, none⟩) n k0) ∧ T.get 12 = some (.int .i64 (n : Int)) ∧ T.get 13 = some (.int .i64 (i : Int)) ∧ T.get 21 = some (.int .i64 ((j : Nat) : Int)) ∧ j ≤ 8 ∧ k = 8 - j) (k := 8)
      ⟨rfl, _, 0, rfl, ?g5, ?g11, ?g12, ?g13, ?g21, by omega, rfl⟩ ?_
    case g5 => simp (disch := omega) only [go_sem]; rfl
    case g11 => simp (disch := omega) only [go_sem, h11]
    case g12 => simp (disch := omega) only [go_sem, h12]
    case g13 => simp (disch := omega) only [go_sem, h13]
    case g21 => simp (disch := omega) only [go_sem]; rfl
    clear h5 h11 h12 h13 T
    rintro m a s'' ⟨rfl, T, j, rfl, h5, h11, h12, h13, h21, hj, rfl⟩
    have hcx : c ^^^ x < 4294967296 := Nat.xor_lt_two_pow (n := 32) hc (by omega)
    have hcj := crcBits_lt hcx j
    repeat (first | refine Abs.Ev.seq ?_ | refine Abs.Ev.region ?_ | refine Abs.Ev.block ?_ | refine Abs.Ev.skip ?_ | refine Abs.Ev.exit ?_ | refine Abs.Ev.ret ?_ | refine Abs.Ev.runNil ?_ | refine Abs.Ev.stepsNil ?_ | refine Abs.Seq.go ?_ | refine Abs.Seq.off ?_ | refine Abs.Blk.here ?_ | refine Abs.Blk.go ?_ | refine Abs.Blk.off rfl ?_ | refine Abs.Blk.ret ?_ | refine Abs.Ev.label ?_ | refine Abs.Ev.scope ?_ | refine Abs.Ev.condY (Abs.get_same _ _ _) ?_ | refine Abs.Ev.condN (Abs.get_same _ _ _) ?_ | refine Abs.Ev.step' rfl rfl rfl ?_ | refine Abs.Ev.stepG' rfl rfl rfl rfl ?_ | (refine Abs.Nx.go ?_; (first | simp (disch := first | omega | assumption) only [go_sem, h5, h11, h12, h13, h21] | skip)) | fail)
    refine Ev.condT (get_same _ _ _) (fun hb => ?_) (fun hb => ?_)
    · have hb := of_decide_eq_true hb
      have hsh := shr32 hcj
      repeat (first | refine Abs.Ev.seq ?_ | refine Abs.Ev.region ?_ | refine Abs.Ev.block ?_ | refine Abs.Ev.skip ?_ | refine Abs.Ev.exit ?_ | refine Abs.Ev.ret ?_ | refine Abs.Ev.runNil ?_ | refine Abs.Ev.stepsNil ?_ | refine Abs.Seq.go ?_ | refine Abs.Seq.off ?_ | refine Abs.Blk.here ?_ | refine Abs.Blk.go ?_ | refine Abs.Blk.off rfl ?_ | refine Abs.Blk.ret ?_ | refine Abs.Ev.label ?_ | refine Abs.Ev.scope ?_ | refine Abs.Ev.condY (Abs.get_same _ _ _) ?_ | refine Abs.Ev.condN (Abs.get_same _ _ _) ?_ | refine Abs.Ev.step' rfl rfl rfl ?_ | refine Abs.Ev.stepG' rfl rfl rfl rfl ?_ | (refine Abs.Nx.go ?_; (first | simp (disch := first | omega | assumption) only [go_sem, h5, h21] | skip)) | fail)
      refine Ev.condT (get_same _ _ _) (fun hc1 => ?_) (fun hc1 => ?_)
      · have hc1 := of_decide_eq_true hc1
        repeat (first | refine Abs.Ev.seq ?_ | refine Abs.Ev.region ?_ | refine Abs.Ev.block ?_ | refine Abs.Ev.skip ?_ | refine Abs.Ev.exit ?_ | refine Abs.Ev.ret ?_ | refine Abs.Ev.runNil ?_ | refine Abs.Ev.stepsNil ?_ | refine Abs.Seq.go ?_ | refine Abs.Seq.off ?_ | refine Abs.Blk.here ?_ | refine Abs.Blk.go ?_ | refine Abs.Blk.off rfl ?_ | refine Abs.Blk.ret ?_ | refine Abs.Ev.label ?_ | refine Abs.Ev.scope ?_ | refine Abs.Ev.condY (Abs.get_same _ _ _) ?_ | refine Abs.Ev.condN (Abs.get_same _ _ _) ?_ | refine Abs.Ev.step' rfl rfl rfl ?_ | refine Abs.Ev.stepG' rfl rfl rfl rfl ?_ | (refine Abs.Nx.go ?_; (first | simp (disch := first | omega | assumption) only [go_sem, h21] | skip)) | fail)
        refine ⟨8 - (j + 1), by omega, rfl, _, j + 1, rfl, ?_, ?_, ?_, ?_, ?_, by omega, rfl⟩
        · simp (disch := omega) only [go_sem]
          rw [crcBits_succ, crcBit_odd (by omega)]
        · simp (disch := omega) only [go_sem, h11]
        · simp (disch := omega) only [go_sem, h12]
        · simp (disch := omega) only [go_sem, h13]
        · simp (disch := omega) only [go_sem, Int.natCast_add, Int.natCast_one]
      · have hc1 := of_decide_eq_false hc1
        repeat (first | refine Abs.Ev.seq ?_ | refine Abs.Ev.region ?_ | refine Abs.Ev.block ?_ | refine Abs.Ev.skip ?_ | refine Abs.Ev.exit ?_ | refine Abs.Ev.ret ?_ | refine Abs.Ev.runNil ?_ | refine Abs.Ev.stepsNil ?_ | refine Abs.Seq.go ?_ | refine Abs.Seq.off ?_ | refine Abs.Blk.here ?_ | refine Abs.Blk.go ?_ | refine Abs.Blk.off rfl ?_ | refine Abs.Blk.ret ?_ | refine Abs.Ev.label ?_ | refine Abs.Ev.scope ?_ | refine Abs.Ev.condY (Abs.get_same _ _ _) ?_ | refine Abs.Ev.condN (Abs.get_same _ _ _) ?_ | refine Abs.Ev.step' rfl rfl rfl ?_ | refine Abs.Ev.stepG' rfl rfl rfl rfl ?_ | (refine Abs.Nx.go ?_; (first | simp (disch := first | omega | assumption) only [go_sem, h21] | skip)) | fail)
        refine ⟨8 - (j + 1), by omega, rfl, _, j + 1, rfl, ?_, ?_, ?_, ?_, ?_, by omega, rfl⟩
        · simp (disch := omega) only [go_sem]
          rw [crcBits_succ, crcBit_even (by omega)]
        · simp (disch := omega) only [go_sem, h11]
        · simp (disch := omega) only [go_sem, h12]
        · simp (disch := omega) only [go_sem, h13]
        · simp (disch := omega) only [go_sem, Int.natCast_add, Int.natCast_one]
    · have hb := of_decide_eq_false hb
      obtain rfl : j = 8 := by omega
      repeat (first | refine Abs.Ev.seq ?_ | refine Abs.Ev.region ?_ | refine Abs.Ev.block ?_ | refine Abs.Ev.skip ?_ | refine Abs.Ev.exit ?_ | refine Abs.Ev.ret ?_ | refine Abs.Ev.runNil ?_ | refine Abs.Ev.stepsNil ?_ | refine Abs.Seq.go ?_ | refine Abs.Seq.off ?_ | refine Abs.Blk.here ?_ | refine Abs.Blk.go ?_ | refine Abs.Blk.off rfl ?_ | refine Abs.Blk.ret ?_ | refine Abs.Ev.label ?_ | refine Abs.Ev.scope ?_ | refine Abs.Ev.condY (Abs.get_same _ _ _) ?_ | refine Abs.Ev.condN (Abs.get_same _ _ _) ?_ | refine Abs.Ev.step' rfl rfl rfl ?_ | refine Abs.Ev.stepG' rfl rfl rfl rfl ?_ | (refine Abs.Nx.go ?_; (first | simp (disch := first | omega | assumption) only [go_sem, h5, h11, h12, h13] | skip)) | fail)
      refine ⟨n - (i + 1), by omega, rfl, _, crcBits (c ^^^ x) 8, i + 1, rfl, ?_, ?_, ?_, ?_, hcj, hlt, hgo, rfl⟩
      · simp (disch := omega) only [go_sem, h5]
      · simp (disch := omega) only [go_sem, h11]
      · simp (disch := omega) only [go_sem, h12]
      · simp (disch := omega) only [go_sem, Int.natCast_add, Int.natCast_one]
  · have hb := of_decide_eq_false hb
    obtain rfl : i = n := by omega
    rw [List.drop_of_length_le (by omega)] at hgo
    obtain rfl : c = r := Option.some.inj hgo
    repeat (first | refine Abs.Ev.seq ?_ | refine Abs.Ev.region ?_ | refine Abs.Ev.block ?_ | refine Abs.Ev.skip ?_ | refine Abs.Ev.exit ?_ | refine Abs.Ev.ret ?_ | refine Abs.Ev.runNil ?_ | refine Abs.Ev.stepsNil ?_ | refine Abs.Seq.go ?_ | refine Abs.Seq.off ?_ | refine Abs.Blk.here ?_ | refine Abs.Blk.go ?_ | refine Abs.Blk.off rfl ?_ | refine Abs.Blk.ret ?_ | refine Abs.Ev.label ?_ | refine Abs.Ev.scope ?_ | refine Abs.Ev.condY (Abs.get_same _ _ _) ?_ | refine Abs.Ev.condN (Abs.get_same _ _ _) ?_ | refine Abs.Ev.step' rfl rfl rfl ?_ | refine Abs.Ev.stepG' rfl rfl rfl rfl ?_ | (refine Abs.Nx.go ?_; (first | simp (disch := first | omega | assumption) only [go_sem, h5] | skip)) | fail)
    exact Body.ret rfl (res_one (get_same _ _ _)) rfl
end
end Go.Proofs.YtbakhdgiimjnkaaGreatDoor

/-
  strings.Trim at the evaluator, where the cutset is ASCII (at least two letters): what it answers.
-/
namespace Go.Proofs.YtbakhdgiimjnkaaGreatDoor
open Abs
set_option maxHeartbeats 16000000
set_option maxRecDepth 20000
set_option linter.unusedSimpArgs false
attribute [local irreducible] Abs.Ev Abs.EvF Abs.EvO Abs.EvA Abs.Seq Abs.Blk Abs.Body Abs.Scp Abs.EvG Abs.EvAg Abs.Nx
attribute [local go_sem] Abs.eDelete
section
variable {Sm : Summ} {Q : Ans → Prop}
theorem has_ev (hs : Sm 127 = none) {s : St} {b : Nat} {l : List Value} (hb : objCells (s.heap.get b) = .ok l) {c : Nat} (hc : c < 256) {v : Bool} (hv : l[c]? = some (.bool v)) (h : Q (.val (.bool v) s)) :
    Ev Tryz.prog Sm (.inv (.fn (.func 127) #[]) [.pointer (some ⟨b, 0, none⟩), .int .u8 (c : Int)] s) Q := by
  refine Ev.func hs Tryz.func127 rfl (m := 10) rfl ?_
  simp only [Array.toList_empty, List.append_nil, ofList_cons, ofList_nil]
  repeat (first | refine Abs.Ev.seq ?_ | refine Abs.Ev.region ?_ | refine Abs.Ev.block ?_ | refine Abs.Ev.skip ?_ | refine Abs.Ev.exit ?_ | refine Abs.Ev.ret ?_ | refine Abs.Ev.runNil ?_ | refine Abs.Ev.stepsNil ?_ | refine Abs.Seq.go ?_ | refine Abs.Seq.off ?_ | refine Abs.Blk.here ?_ | refine Abs.Blk.go ?_ | refine Abs.Blk.off rfl ?_ | refine Abs.Blk.ret ?_ | refine Abs.Ev.label ?_ | refine Abs.Ev.scope ?_ | refine Abs.Ev.condY (Abs.get_same _ _ _) ?_ | refine Abs.Ev.condN (Abs.get_same _ _ _) ?_ | refine Abs.Ev.step' rfl rfl rfl ?_ | refine Abs.Ev.stepG' rfl rfl rfl rfl ?_ | (refine Abs.Nx.go ?_; (first | simp (disch := first | omega | assumption) only [go_sem, hb, hv, Tryz.underlying156, Ty.sz4, Ty.ag4] | skip)) | fail)
  exact Body.ret rfl (res_one (get_same _ _ _)) h
theorem inSet_iff (cs : List UInt8) (c : UInt8) : inSet cs c = true ↔ c ∈ cs := by
  induction cs with
  | nil => exact ⟨fun h => (by cases h), fun h => (by cases h)⟩
  | cons x cs ih =>
    have e : inSet (x :: cs) c = ifb (Nat.beq x.toNat c.toNat) true (inSet cs c) := rfl
    rw [e, beqNat, ifb_eq]
    by_cases h : x = c
    · subst h; simp
    · have h' : (x == c) = false := by simpa using h
      rw [h', if_neg (by decide), ih]
      simp [Ne.symm h]
theorem inSet_eq (cs : List UInt8) (c : UInt8) : inSet cs c = decide (c ∈ cs) := by
  rw [Bool.eq_iff_iff, inSet_iff, decide_eq_true_eq]
theorem allLow_mem {cs : List UInt8} (h : allLow cs = true) : ∀ x ∈ cs, x.toNat < 128 := by
  induction cs with
  | nil => intro x hx; cases hx
  | cons y cs ih =>
    have e : allLow (y :: cs) = ifb (Nat.blt y.toNat 128) (allLow cs) false := rfl
    rw [e, ifb_blt] at h
    split at h
    · intro x hx
      rcases List.mem_cons.1 hx with rfl | hx
      · assumption
      · exact ih h x hx
    · cases h
theorem make_ev (hs : Sm 107 = none) {s : St} (hwf : s.wf) {cs : List UInt8} (hlow : allLow cs = true) (hlen : cs.length ≤ 1073741824)
    (h : ∀ l s', l.length = 256 → (∀ c, c < 256 → l[c]? = some (.bool (decide (UInt8.ofNat c ∈ cs)))) → (∀ b x, s.heap.get b = some x → s'.heap.get b = some x) → s'.next = s.next + 1 → Q (.val (.tuple #[.agg ⟨l⟩, .bool true]) s')) :
    Ev Tryz.prog Sm (.inv (.fn (.func 107) #[]) [.string ⟨⟨cs⟩⟩] s) Q := by
  refine Ev.func hs Tryz.func107 rfl (m := 21) rfl ?_
  simp only [Array.toList_empty, List.append_nil, ofList_cons, ofList_nil]
  repeat (first | refine Abs.Ev.seq ?_ | refine Abs.Ev.region ?_ | refine Abs.Ev.block ?_ | refine Abs.Ev.skip ?_ | refine Abs.Ev.exit ?_ | refine Abs.Ev.ret ?_ | refine Abs.Ev.runNil ?_ | refine Abs.Ev.stepsNil ?_ | refine Abs.Seq.go ?_ | refine Abs.Seq.off ?_ | refine Abs.Blk.here ?_ | refine Abs.Blk.go ?_ | refine Abs.Blk.off rfl ?_ | refine Abs.Blk.ret ?_ | refine Abs.Ev.label ?_ | refine Abs.Ev.scope ?_ | refine Abs.Ev.condY (Abs.get_same _ _ _) ?_ | refine Abs.Ev.condN (Abs.get_same _ _ _) ?_ | refine Abs.Ev.step' rfl rfl rfl ?_ | refine Abs.Ev.stepG' rfl rfl rfl rfl ?_ | (refine Abs.Nx.go ?_; (first | simp (disch := first | omega | assumption) only [go_sem, Ty.ze156] | skip)) | fail)
  refine Ev.loop (fun k a s' => ∃ T i l, a = ⟨T, 21, []⟩ ∧ T.get 0 = some (.string ⟨⟨cs⟩⟩) ∧ T.get 2 = some (.pointer (some ⟨s.next, 0, none⟩)) ∧ T.get 4 = some (.int .i64 ((i : Nat) : Int)) ∧ i ≤ cs.length ∧ k = cs.length - i ∧ s'.heap.get s.next = some (.cells l 156 0 false (0, 0)) ∧ l.length = 256 ∧ (∀ c, c < 256 → l[c]? = some (.bool (decide (UInt8.ofNat c ∈ cs.take i)))) ∧ (∀ b, b ≠ s.next → s'.heap.get b = s.heap.get b) ∧ s'.next = s.next + 1) (k := cs.length)
    ⟨_, 0, _, rfl, ?g0, ?g2, ?g4, Nat.zero_le _, rfl, get_same _ _ _, ?gl, ?gc, fun b hb => get_other _ _ _ _ hb, rfl⟩ ?_
  case g0 => simp (disch := first | omega | assumption) only [go_sem, ]
  case g2 => simp (disch := first | omega | assumption) only [go_sem, ]
  case g4 => simp (disch := first | omega | assumption) only [go_sem, ]; rfl
  case gl => exact List.length_replicate
  case gc => intro c hc; rw [List.getElem?_replicate, if_pos hc]; simp
  rintro m a s' ⟨T, i, l, rfl, g0, g2, g4, hi, rfl, hb, hl, hc, hoth, hnx⟩
  repeat (first | refine Abs.Ev.seq ?_ | refine Abs.Ev.region ?_ | refine Abs.Ev.block ?_ | refine Abs.Ev.skip ?_ | refine Abs.Ev.exit ?_ | refine Abs.Ev.ret ?_ | refine Abs.Ev.runNil ?_ | refine Abs.Ev.stepsNil ?_ | refine Abs.Seq.go ?_ | refine Abs.Seq.off ?_ | refine Abs.Blk.here ?_ | refine Abs.Blk.go ?_ | refine Abs.Blk.off rfl ?_ | refine Abs.Blk.ret ?_ | refine Abs.Ev.label ?_ | refine Abs.Ev.scope ?_ | refine Abs.Ev.condY (Abs.get_same _ _ _) ?_ | refine Abs.Ev.condN (Abs.get_same _ _ _) ?_ | refine Abs.Ev.step' rfl rfl rfl ?_ | refine Abs.Ev.stepG' rfl rfl rfl rfl ?_ | (refine Abs.Nx.go ?_; (first | simp (disch := first | omega | assumption) only [go_sem, g0, g4, Tryz.underlying9] | skip)) | fail)
  refine Ev.condT (get_same _ _ _) (fun h1 => ?_) (fun h1 => ?_)
  · have hlt : i < cs.length := by have := of_decide_eq_true h1; omega
    have hx : cs[i]? = some cs[i] := List.getElem?_eq_getElem hlt
    have hmem := allLow_mem hlow cs[i] (List.getElem_mem hlt)
    have htake : cs.take (i + 1) = cs.take i ++ [cs[i]] := (List.take_append_getElem hlt).symm
    generalize cs[i] = x at hx hmem htake
    repeat (first | refine Abs.Ev.seq ?_ | refine Abs.Ev.region ?_ | refine Abs.Ev.block ?_ | refine Abs.Ev.skip ?_ | refine Abs.Ev.exit ?_ | refine Abs.Ev.ret ?_ | refine Abs.Ev.runNil ?_ | refine Abs.Ev.stepsNil ?_ | refine Abs.Seq.go ?_ | refine Abs.Seq.off ?_ | refine Abs.Blk.here ?_ | refine Abs.Blk.go ?_ | refine Abs.Blk.off rfl ?_ | refine Abs.Blk.ret ?_ | refine Abs.Ev.label ?_ | refine Abs.Ev.scope ?_ | refine Abs.Ev.condY (Abs.get_same _ _ _) ?_ | refine Abs.Ev.condN (Abs.get_same _ _ _) ?_ | refine Abs.Ev.step' rfl rfl rfl ?_ | refine Abs.Ev.stepG' rfl rfl rfl rfl ?_ | (refine Abs.Nx.go ?_; (first | simp (disch := first | omega | assumption) only [go_sem, g0, g4, Tryz.underlying9, hx] | skip)) | fail)
    refine Ev.condT (get_same _ _ _) (fun h2 => ?_) (fun h2 => ?_)
    · have := of_decide_eq_true h2
      omega
    repeat (first | refine Abs.Ev.seq ?_ | refine Abs.Ev.region ?_ | refine Abs.Ev.block ?_ | refine Abs.Ev.skip ?_ | refine Abs.Ev.exit ?_ | refine Abs.Ev.ret ?_ | refine Abs.Ev.runNil ?_ | refine Abs.Ev.stepsNil ?_ | refine Abs.Seq.go ?_ | refine Abs.Seq.off ?_ | refine Abs.Blk.here ?_ | refine Abs.Blk.go ?_ | refine Abs.Blk.off rfl ?_ | refine Abs.Blk.ret ?_ | refine Abs.Ev.label ?_ | refine Abs.Ev.scope ?_ | refine Abs.Ev.condY (Abs.get_same _ _ _) ?_ | refine Abs.Ev.condN (Abs.get_same _ _ _) ?_ | refine Abs.Ev.step' rfl rfl rfl ?_ | refine Abs.Ev.stepG' rfl rfl rfl rfl ?_ | (refine Abs.Nx.go ?_; (first | simp (disch := first | omega | assumption) only [go_sem, g0, g2, g4, Tryz.underlying156, Ty.sz4, hb] | skip)) | fail)
    refine ⟨cs.length - (i + 1), by omega, _, i + 1, _, rfl, ?_, ?_, ?_, hlt, rfl, get_same _ _ _, by rw [List.length_set]; exact hl, ?_, fun b hb => by rw [get_other _ _ _ _ hb]; exact hoth b hb, hnx⟩
    · simp (disch := first | omega | assumption) only [go_sem, g0]
    · simp (disch := first | omega | assumption) only [go_sem, g2]
    · simp (disch := first | omega | assumption) only [go_sem, Int.natCast_add, Int.natCast_one]
    · intro c hc'
      rw [List.getElem?_set, htake]
      by_cases e : x.toNat = c
      · subst e
        rw [if_pos rfl, if_pos (by omega)]
        simp
      · rw [if_neg e, hc c hc']
        have : ¬ UInt8.ofNat c = x := by
          intro e2
          apply e
          rw [← e2]
          simp
          omega
        simp [this]
  · have := of_decide_eq_false h1
    obtain rfl : i = cs.length := by omega
    rw [List.take_length] at hc
    have hone : l.all oneB = true := one_all fun i hi => by
      have := hc i (by omega)
      rw [List.getElem?_eq_getElem hi] at this
      rw [Option.some.inj this]
      rfl
    repeat (first | refine Abs.Ev.seq ?_ | refine Abs.Ev.region ?_ | refine Abs.Ev.block ?_ | refine Abs.Ev.skip ?_ | refine Abs.Ev.exit ?_ | refine Abs.Ev.ret ?_ | refine Abs.Ev.runNil ?_ | refine Abs.Ev.stepsNil ?_ | refine Abs.Seq.go ?_ | refine Abs.Seq.off ?_ | refine Abs.Blk.here ?_ | refine Abs.Blk.go ?_ | refine Abs.Blk.off rfl ?_ | refine Abs.Blk.ret ?_ | refine Abs.Ev.label ?_ | refine Abs.Ev.scope ?_ | refine Abs.Ev.condY (Abs.get_same _ _ _) ?_ | refine Abs.Ev.condN (Abs.get_same _ _ _) ?_ | refine Abs.Ev.step' rfl rfl rfl ?_ | refine Abs.Ev.stepG' rfl rfl rfl rfl ?_ | (refine Abs.Nx.go ?_; (first | simp (disch := first | omega | assumption) only [go_sem, g0, g2, g4, hb, hl, hone, cut_all hl, Ty.sz156, Ty.ag156] | skip)) | fail)
    refine Body.ret (rs := [.cell 2 156, .tmp 3]) rfl (vs := [.agg ⟨l⟩, .bool true]) ?_ ?_
    · simp (disch := first | omega | assumption) only [go_sem, res_cell, res_tmp, g2, Ty.sz156, Ty.ag156, cut_all hl]
    · exact h l _ hl hc (fun b x hx => by rw [get_other _ _ _ _ (Nat.ne_of_lt (hwf b x hx)), hoth _ (Nat.ne_of_lt (hwf b x hx))]; exact hx) hnx
theorem dropIn_cons (cs : List UInt8) (c : UInt8) (l : List UInt8) : dropIn cs (c :: l) = if c ∈ cs then dropIn cs l else c :: l := by
  have e : dropIn cs (c :: l) = ifb (inSet cs c) (dropIn cs l) (c :: l) := rfl
  rw [e, inSet_eq, ifb_decide]
theorem trimR_snoc (cs : List UInt8) (c : UInt8) (l : List UInt8) : trimR cs (l ++ [c]) = if c ∈ cs then trimR cs l else l ++ [c] := by
  unfold trimR
  rw [List.reverse_append, List.reverse_singleton, List.singleton_append, dropIn_cons]
  split
  · rfl
  · rw [List.reverse_cons, List.reverse_reverse]
/-- the set's block -/
def SetAt (s : St) (b : Nat) (cs : List UInt8) : Prop := ∃ l e z, s.heap.get b = some (.cells l e z false (0, 0)) ∧ ∀ c, c < 256 → l[c]? = some (.bool (decide (UInt8.ofNat c ∈ cs)))
theorem SetAt.cell {s : St} {b : Nat} {cs : List UInt8} (h : SetAt s b cs) : ∃ l, objCells (s.heap.get b) = .ok l ∧ ∀ c, c < 256 → l[c]? = some (.bool (decide (UInt8.ofNat c ∈ cs))) := by
  obtain ⟨l, e, z, h1, h2⟩ := h
  exact ⟨l, by rw [h1]; rfl, h2⟩
theorem left_ev (hs : Sm 108 = none) (hh : Sm 127 = none) {s : St} {b : Nat} {cs l0 : List UInt8} (hb : SetAt s b cs) (hlen : l0.length ≤ 1073741824) (h : Q (.val (.string ⟨⟨dropIn cs l0⟩⟩) s)) :
    Ev Tryz.prog Sm (.inv (.fn (.func 108) #[]) [.string ⟨⟨l0⟩⟩, .pointer (some ⟨b, 0, none⟩)] s) Q := by
  refine Ev.func hs Tryz.func108 rfl (m := 16) rfl ?_
  simp only [Array.toList_empty, List.append_nil, ofList_cons, ofList_nil]
  repeat (first | refine Abs.Ev.seq ?_ | refine Abs.Ev.region ?_ | refine Abs.Ev.block ?_ | refine Abs.Ev.skip ?_ | refine Abs.Ev.exit ?_ | refine Abs.Ev.ret ?_ | refine Abs.Ev.runNil ?_ | refine Abs.Ev.stepsNil ?_ | refine Abs.Seq.go ?_ | refine Abs.Seq.off ?_ | refine Abs.Blk.here ?_ | refine Abs.Blk.go ?_ | refine Abs.Blk.off rfl ?_ | refine Abs.Blk.ret ?_ | refine Abs.Ev.label ?_ | refine Abs.Ev.scope ?_ | refine Abs.Ev.condY (Abs.get_same _ _ _) ?_ | refine Abs.Ev.condN (Abs.get_same _ _ _) ?_ | refine Abs.Ev.step' rfl rfl rfl ?_ | refine Abs.Ev.stepG' rfl rfl rfl rfl ?_ | (refine Abs.Nx.go ?_; (first | simp (disch := first | omega | assumption) only [go_sem, ] | skip)) | fail)
  refine Ev.loop (fun k a s' => s' = s ∧ ∃ T l, a = ⟨T, 16, []⟩ ∧ T.get 0 = some (.string ⟨⟨l⟩⟩) ∧ T.get 1 = some (.pointer (some ⟨b, 0, none⟩)) ∧ k = l.length ∧ l.length ≤ 1073741824 ∧ dropIn cs l = dropIn cs l0) (k := l0.length)
    ⟨rfl, _, l0, rfl, ?g0, ?g1, rfl, hlen, rfl⟩ ?_
  case g0 => simp (disch := first | omega | assumption) only [go_sem, ]
  case g1 => simp (disch := first | omega | assumption) only [go_sem, ]
  rintro m a s' ⟨rfl, T, l, rfl, g0, g1, rfl, hl, hd⟩
  repeat (first | refine Abs.Ev.seq ?_ | refine Abs.Ev.region ?_ | refine Abs.Ev.block ?_ | refine Abs.Ev.skip ?_ | refine Abs.Ev.exit ?_ | refine Abs.Ev.ret ?_ | refine Abs.Ev.runNil ?_ | refine Abs.Ev.stepsNil ?_ | refine Abs.Seq.go ?_ | refine Abs.Seq.off ?_ | refine Abs.Blk.here ?_ | refine Abs.Blk.go ?_ | refine Abs.Blk.off rfl ?_ | refine Abs.Blk.ret ?_ | refine Abs.Ev.label ?_ | refine Abs.Ev.scope ?_ | refine Abs.Ev.condY (Abs.get_same _ _ _) ?_ | refine Abs.Ev.condN (Abs.get_same _ _ _) ?_ | refine Abs.Ev.step' rfl rfl rfl ?_ | refine Abs.Ev.stepG' rfl rfl rfl rfl ?_ | (refine Abs.Nx.go ?_; (first | simp (disch := first | omega | assumption) only [go_sem, g0, Tryz.underlying9] | skip)) | fail)
  refine Ev.condT (get_same _ _ _) (fun h1 => ?_) (fun h1 => ?_)
  · cases l with
    | nil => simp at h1
    | cons c l =>
      obtain ⟨cells, q1, q2⟩ := hb.cell
      have q3 := q2 c.toNat c.toNat_lt
      rw [UInt8.ofNat_toNat] at q3
      repeat (first | refine Abs.Ev.seq ?_ | refine Abs.Ev.region ?_ | refine Abs.Ev.block ?_ | refine Abs.Ev.skip ?_ | refine Abs.Ev.exit ?_ | refine Abs.Ev.ret ?_ | refine Abs.Ev.runNil ?_ | refine Abs.Ev.stepsNil ?_ | refine Abs.Seq.go ?_ | refine Abs.Seq.off ?_ | refine Abs.Blk.here ?_ | refine Abs.Blk.go ?_ | refine Abs.Blk.off rfl ?_ | refine Abs.Blk.ret ?_ | refine Abs.Ev.label ?_ | refine Abs.Ev.scope ?_ | refine Abs.Ev.condY (Abs.get_same _ _ _) ?_ | refine Abs.Ev.condN (Abs.get_same _ _ _) ?_ | refine Abs.Ev.step' rfl rfl rfl ?_ | refine Abs.Ev.stepG' rfl rfl rfl rfl ?_ | (refine Abs.Nx.go ?_; (first | simp (disch := first | omega | assumption) only [go_sem, g0, g1, Tryz.underlying9] | skip)) | fail)
      (refine Abs.Ev.callF rfl ?_; simp (disch := first | omega | assumption) only [go_sem, g0, g1])
      refine has_ev hh q1 c.toNat_lt q3 ⟨_, _, rfl, ?_⟩
      repeat (first | refine Abs.Ev.seq ?_ | refine Abs.Ev.region ?_ | refine Abs.Ev.block ?_ | refine Abs.Ev.skip ?_ | refine Abs.Ev.exit ?_ | refine Abs.Ev.ret ?_ | refine Abs.Ev.runNil ?_ | refine Abs.Ev.stepsNil ?_ | refine Abs.Seq.go ?_ | refine Abs.Seq.off ?_ | refine Abs.Blk.here ?_ | refine Abs.Blk.go ?_ | refine Abs.Blk.off rfl ?_ | refine Abs.Blk.ret ?_ | refine Abs.Ev.label ?_ | refine Abs.Ev.scope ?_ | refine Abs.Ev.condY (Abs.get_same _ _ _) ?_ | refine Abs.Ev.condN (Abs.get_same _ _ _) ?_ | refine Abs.Ev.step' rfl rfl rfl ?_ | refine Abs.Ev.stepG' rfl rfl rfl rfl ?_ | (refine Abs.Nx.go ?_; (first | simp (disch := first | omega | assumption) only [go_sem, g0, g1] | skip)) | fail)
      refine Ev.condT (get_same _ _ _) (fun h2 => ?_) (fun h2 => ?_)
      · have h2 : ¬ c ∈ cs := by simpa using h2
        rw [dropIn_cons, if_neg h2] at hd
        repeat (first | refine Abs.Ev.seq ?_ | refine Abs.Ev.region ?_ | refine Abs.Ev.block ?_ | refine Abs.Ev.skip ?_ | refine Abs.Ev.exit ?_ | refine Abs.Ev.ret ?_ | refine Abs.Ev.runNil ?_ | refine Abs.Ev.stepsNil ?_ | refine Abs.Seq.go ?_ | refine Abs.Seq.off ?_ | refine Abs.Blk.here ?_ | refine Abs.Blk.go ?_ | refine Abs.Blk.off rfl ?_ | refine Abs.Blk.ret ?_ | refine Abs.Ev.label ?_ | refine Abs.Ev.scope ?_ | refine Abs.Ev.condY (Abs.get_same _ _ _) ?_ | refine Abs.Ev.condN (Abs.get_same _ _ _) ?_ | refine Abs.Ev.step' rfl rfl rfl ?_ | refine Abs.Ev.stepG' rfl rfl rfl rfl ?_ | (refine Abs.Nx.go ?_; (first | simp (disch := first | omega | assumption) only [go_sem, g0, g1] | skip)) | fail)
        exact Body.ret rfl (res_one (get_same _ _ _)) (hd ▸ h)
      · have h2 : c ∈ cs := by simpa using h2
        rw [dropIn_cons, if_pos h2] at hd
        repeat (first | refine Abs.Ev.seq ?_ | refine Abs.Ev.region ?_ | refine Abs.Ev.block ?_ | refine Abs.Ev.skip ?_ | refine Abs.Ev.exit ?_ | refine Abs.Ev.ret ?_ | refine Abs.Ev.runNil ?_ | refine Abs.Ev.stepsNil ?_ | refine Abs.Seq.go ?_ | refine Abs.Seq.off ?_ | refine Abs.Blk.here ?_ | refine Abs.Blk.go ?_ | refine Abs.Blk.off rfl ?_ | refine Abs.Blk.ret ?_ | refine Abs.Ev.label ?_ | refine Abs.Ev.scope ?_ | refine Abs.Ev.condY (Abs.get_same _ _ _) ?_ | refine Abs.Ev.condN (Abs.get_same _ _ _) ?_ | refine Abs.Ev.step' rfl rfl rfl ?_ | refine Abs.Ev.stepG' rfl rfl rfl rfl ?_ | (refine Abs.Nx.go ?_; (first | simp (disch := first | omega | assumption) only [go_sem, g0, g1, Tryz.underlying9] | skip)) | fail)
        have hl2 : l.length ≤ 1073741824 := by simp at hl; omega
        refine ⟨l.length, by simp, rfl, _, l, rfl, ?_, ?_, rfl, hl2, hd⟩
        · simp (disch := first | omega | assumption) only [go_sem, ]; simp
        · simp (disch := first | omega | assumption) only [go_sem, g1]
  · have h1 := of_decide_eq_false h1
    have : l = [] := by cases l with
      | nil => rfl
      | cons c l => simp at h1
    subst this
    rw [← hd] at h
    repeat (first | refine Abs.Ev.seq ?_ | refine Abs.Ev.region ?_ | refine Abs.Ev.block ?_ | refine Abs.Ev.skip ?_ | refine Abs.Ev.exit ?_ | refine Abs.Ev.ret ?_ | refine Abs.Ev.runNil ?_ | refine Abs.Ev.stepsNil ?_ | refine Abs.Seq.go ?_ | refine Abs.Seq.off ?_ | refine Abs.Blk.here ?_ | refine Abs.Blk.go ?_ | refine Abs.Blk.off rfl ?_ | refine Abs.Blk.ret ?_ | refine Abs.Ev.label ?_ | refine Abs.Ev.scope ?_ | refine Abs.Ev.condY (Abs.get_same _ _ _) ?_ | refine Abs.Ev.condN (Abs.get_same _ _ _) ?_ | refine Abs.Ev.step' rfl rfl rfl ?_ | refine Abs.Ev.stepG' rfl rfl rfl rfl ?_ | (refine Abs.Nx.go ?_; (first | simp (disch := first | omega | assumption) only [go_sem, g0, g1] | skip)) | fail)
    exact Body.ret rfl (res_one (get_same _ _ _)) h
theorem dropIn_len (cs l : List UInt8) : (dropIn cs l).length ≤ l.length := by
  induction l with
  | nil => exact Nat.le_refl _
  | cons c l ih =>
    rw [dropIn_cons]
    split
    · simp; omega
    · exact Nat.le_refl _
theorem trimR_len (cs l : List UInt8) : (trimR cs l).length ≤ l.length := by
  unfold trimR
  have := dropIn_len cs l.reverse
  simpa using this
theorem right_ev (hs : Sm 109 = none) (hh : Sm 127 = none) {s : St} {b : Nat} {cs l0 : List UInt8} (hb : SetAt s b cs) (hlen : l0.length ≤ 1073741824) (h : Q (.val (.string ⟨⟨trimR cs l0⟩⟩) s)) :
    Ev Tryz.prog Sm (.inv (.fn (.func 109) #[]) [.string ⟨⟨l0⟩⟩, .pointer (some ⟨b, 0, none⟩)] s) Q := by
  refine Ev.func hs Tryz.func109 rfl (m := 22) rfl ?_
  simp only [Array.toList_empty, List.append_nil, ofList_cons, ofList_nil]
  repeat (first | refine Abs.Ev.seq ?_ | refine Abs.Ev.region ?_ | refine Abs.Ev.block ?_ | refine Abs.Ev.skip ?_ | refine Abs.Ev.exit ?_ | refine Abs.Ev.ret ?_ | refine Abs.Ev.runNil ?_ | refine Abs.Ev.stepsNil ?_ | refine Abs.Seq.go ?_ | refine Abs.Seq.off ?_ | refine Abs.Blk.here ?_ | refine Abs.Blk.go ?_ | refine Abs.Blk.off rfl ?_ | refine Abs.Blk.ret ?_ | refine Abs.Ev.label ?_ | refine Abs.Ev.scope ?_ | refine Abs.Ev.condY (Abs.get_same _ _ _) ?_ | refine Abs.Ev.condN (Abs.get_same _ _ _) ?_ | refine Abs.Ev.step' rfl rfl rfl ?_ | refine Abs.Ev.stepG' rfl rfl rfl rfl ?_ | (refine Abs.Nx.go ?_; (first | simp (disch := first | omega | assumption) only [go_sem, ] | skip)) | fail)
  refine Ev.loop (fun k a s' => s' = s ∧ ∃ T l, a = ⟨T, 22, []⟩ ∧ T.get 0 = some (.string ⟨⟨l⟩⟩) ∧ T.get 1 = some (.pointer (some ⟨b, 0, none⟩)) ∧ k = l.length ∧ l.length ≤ 1073741824 ∧ trimR cs l = trimR cs l0) (k := l0.length)
    ⟨rfl, _, l0, rfl, ?g0, ?g1, rfl, hlen, rfl⟩ ?_
  case g0 => simp (disch := first | omega | assumption) only [go_sem, ]
  case g1 => simp (disch := first | omega | assumption) only [go_sem, ]
  rintro m a s' ⟨rfl, T, l, rfl, g0, g1, rfl, hl, hd⟩
  repeat (first | refine Abs.Ev.seq ?_ | refine Abs.Ev.region ?_ | refine Abs.Ev.block ?_ | refine Abs.Ev.skip ?_ | refine Abs.Ev.exit ?_ | refine Abs.Ev.ret ?_ | refine Abs.Ev.runNil ?_ | refine Abs.Ev.stepsNil ?_ | refine Abs.Seq.go ?_ | refine Abs.Seq.off ?_ | refine Abs.Blk.here ?_ | refine Abs.Blk.go ?_ | refine Abs.Blk.off rfl ?_ | refine Abs.Blk.ret ?_ | refine Abs.Ev.label ?_ | refine Abs.Ev.scope ?_ | refine Abs.Ev.condY (Abs.get_same _ _ _) ?_ | refine Abs.Ev.condN (Abs.get_same _ _ _) ?_ | refine Abs.Ev.step' rfl rfl rfl ?_ | refine Abs.Ev.stepG' rfl rfl rfl rfl ?_ | (refine Abs.Nx.go ?_; (first | simp (disch := first | omega | assumption) only [go_sem, g0, Tryz.underlying9] | skip)) | fail)
  refine Ev.condT (get_same _ _ _) (fun h1 => ?_) (fun h1 => ?_)
  · rcases List.eq_nil_or_concat l with rfl | ⟨l, c, rfl⟩
    · simp at h1
    · rw [List.concat_eq_append] at *
      obtain ⟨cells, q1, q2⟩ := hb.cell
      have q3 := q2 c.toNat c.toNat_lt
      rw [UInt8.ofNat_toNat] at q3
      have hlc : (l ++ [c]).length = l.length + 1 := by simp
      have hat : (l ++ [c])[l.length]? = some c := by simp
      have hcut : (l ++ [c]).take l.length = l := by simp
      repeat (first | refine Abs.Ev.seq ?_ | refine Abs.Ev.region ?_ | refine Abs.Ev.block ?_ | refine Abs.Ev.skip ?_ | refine Abs.Ev.exit ?_ | refine Abs.Ev.ret ?_ | refine Abs.Ev.runNil ?_ | refine Abs.Ev.stepsNil ?_ | refine Abs.Seq.go ?_ | refine Abs.Seq.off ?_ | refine Abs.Blk.here ?_ | refine Abs.Blk.go ?_ | refine Abs.Blk.off rfl ?_ | refine Abs.Blk.ret ?_ | refine Abs.Ev.label ?_ | refine Abs.Ev.scope ?_ | refine Abs.Ev.condY (Abs.get_same _ _ _) ?_ | refine Abs.Ev.condN (Abs.get_same _ _ _) ?_ | refine Abs.Ev.step' rfl rfl rfl ?_ | refine Abs.Ev.stepG' rfl rfl rfl rfl ?_ | (refine Abs.Nx.go ?_; (first | simp (disch := first | omega | assumption) only [go_sem, g0, g1, Tryz.underlying9, hlc, Int.natCast_add, Int.natCast_one, Int.add_sub_cancel, hat] | skip)) | fail)
      (refine Abs.Ev.callF rfl ?_; simp (disch := first | omega | assumption) only [go_sem, g0, g1])
      refine has_ev hh q1 c.toNat_lt q3 ⟨_, _, rfl, ?_⟩
      repeat (first | refine Abs.Ev.seq ?_ | refine Abs.Ev.region ?_ | refine Abs.Ev.block ?_ | refine Abs.Ev.skip ?_ | refine Abs.Ev.exit ?_ | refine Abs.Ev.ret ?_ | refine Abs.Ev.runNil ?_ | refine Abs.Ev.stepsNil ?_ | refine Abs.Seq.go ?_ | refine Abs.Seq.off ?_ | refine Abs.Blk.here ?_ | refine Abs.Blk.go ?_ | refine Abs.Blk.off rfl ?_ | refine Abs.Blk.ret ?_ | refine Abs.Ev.label ?_ | refine Abs.Ev.scope ?_ | refine Abs.Ev.condY (Abs.get_same _ _ _) ?_ | refine Abs.Ev.condN (Abs.get_same _ _ _) ?_ | refine Abs.Ev.step' rfl rfl rfl ?_ | refine Abs.Ev.stepG' rfl rfl rfl rfl ?_ | (refine Abs.Nx.go ?_; (first | simp (disch := first | omega | assumption) only [go_sem, g0, g1] | skip)) | fail)
      refine Ev.condT (get_same _ _ _) (fun h2 => ?_) (fun h2 => ?_)
      · have h2 : ¬ c ∈ cs := by simpa using h2
        rw [trimR_snoc, if_neg h2] at hd
        repeat (first | refine Abs.Ev.seq ?_ | refine Abs.Ev.region ?_ | refine Abs.Ev.block ?_ | refine Abs.Ev.skip ?_ | refine Abs.Ev.exit ?_ | refine Abs.Ev.ret ?_ | refine Abs.Ev.runNil ?_ | refine Abs.Ev.stepsNil ?_ | refine Abs.Seq.go ?_ | refine Abs.Seq.off ?_ | refine Abs.Blk.here ?_ | refine Abs.Blk.go ?_ | refine Abs.Blk.off rfl ?_ | refine Abs.Blk.ret ?_ | refine Abs.Ev.label ?_ | refine Abs.Ev.scope ?_ | refine Abs.Ev.condY (Abs.get_same _ _ _) ?_ | refine Abs.Ev.condN (Abs.get_same _ _ _) ?_ | refine Abs.Ev.step' rfl rfl rfl ?_ | refine Abs.Ev.stepG' rfl rfl rfl rfl ?_ | (refine Abs.Nx.go ?_; (first | simp (disch := first | omega | assumption) only [go_sem, g0, g1] | skip)) | fail)
        exact Body.ret rfl (res_one (get_same _ _ _)) (hd ▸ h)
      · have h2 : c ∈ cs := by simpa using h2
        rw [trimR_snoc, if_pos h2] at hd
        repeat (first | refine Abs.Ev.seq ?_ | refine Abs.Ev.region ?_ | refine Abs.Ev.block ?_ | refine Abs.Ev.skip ?_ | refine Abs.Ev.exit ?_ | refine Abs.Ev.ret ?_ | refine Abs.Ev.runNil ?_ | refine Abs.Ev.stepsNil ?_ | refine Abs.Seq.go ?_ | refine Abs.Seq.off ?_ | refine Abs.Blk.here ?_ | refine Abs.Blk.go ?_ | refine Abs.Blk.off rfl ?_ | refine Abs.Blk.ret ?_ | refine Abs.Ev.label ?_ | refine Abs.Ev.scope ?_ | refine Abs.Ev.condY (Abs.get_same _ _ _) ?_ | refine Abs.Ev.condN (Abs.get_same _ _ _) ?_ | refine Abs.Ev.step' rfl rfl rfl ?_ | refine Abs.Ev.stepG' rfl rfl rfl rfl ?_ | (refine Abs.Nx.go ?_; (first | simp (disch := first | omega | assumption) only [go_sem, g0, g1, Tryz.underlying9, hlc, Int.natCast_add, Int.natCast_one, Int.add_sub_cancel, hcut] | skip)) | fail)
        have hl2 : l.length ≤ 1073741824 := by omega
        refine ⟨l.length, by omega, rfl, _, l, rfl, ?_, ?_, rfl, hl2, hd⟩
        · simp (disch := first | omega | assumption) only [go_sem, ]
        · simp (disch := first | omega | assumption) only [go_sem, g1]
  · have h1 := of_decide_eq_false h1
    have : l = [] := by cases l with
      | nil => rfl
      | cons c l => simp at h1
    subst this
    rw [← hd] at h
    repeat (first | refine Abs.Ev.seq ?_ | refine Abs.Ev.region ?_ | refine Abs.Ev.block ?_ | refine Abs.Ev.skip ?_ | refine Abs.Ev.exit ?_ | refine Abs.Ev.ret ?_ | refine Abs.Ev.runNil ?_ | refine Abs.Ev.stepsNil ?_ | refine Abs.Seq.go ?_ | refine Abs.Seq.off ?_ | refine Abs.Blk.here ?_ | refine Abs.Blk.go ?_ | refine Abs.Blk.off rfl ?_ | refine Abs.Blk.ret ?_ | refine Abs.Ev.label ?_ | refine Abs.Ev.scope ?_ | refine Abs.Ev.condY (Abs.get_same _ _ _) ?_ | refine Abs.Ev.condN (Abs.get_same _ _ _) ?_ | refine Abs.Ev.step' rfl rfl rfl ?_ | refine Abs.Ev.stepG' rfl rfl rfl rfl ?_ | (refine Abs.Nx.go ?_; (first | simp (disch := first | omega | assumption) only [go_sem, g0, g1] | skip)) | fail)
    exact Body.ret rfl (res_one (get_same _ _ _)) h
theorem trim_says (hs : Sm 84 = none) (hl : Sm 108 = none) (hr : Sm 109 = none) (hm : Sm 107 = none) (hh : Sm 127 = none) : EvSays Tryz.prog Sm 84 sumTrim := by
  intro args s v s1 hwf h
  unfold sumTrim at h
  split at h <;> first | (cases h; done) | skip
  rename_i x cs
  obtain ⟨⟨x⟩⟩ := x
  obtain ⟨⟨cs⟩⟩ := cs
  simp only [ifb_and, ifb_blt, ifb_ble, lenN_eq, natK_eq] at h
  rw [ifb_eq] at h
  split at h <;> first | (cases h; done) | skip
  rename_i hlow
  split at h <;> first | (cases h; done) | skip
  rename_i hc1
  split at h <;> first | (cases h; done) | skip
  rename_i hx0
  split at h <;> first | (cases h; done) | skip
  rename_i hx1
  split at h <;> first | (cases h; done) | skip
  rename_i hc2
  obtain ⟨rfl, rfl⟩ : v = mkStr (dropIn cs (trimR cs x)) ∧ s1 = ⟨s.heap, s.next + 2⟩ := by cases h; exact ⟨rfl, rfl⟩
  clear h
  have ex : (x == []) = false := by cases x with
    | nil => simp at hx0
    | cons _ _ => rfl
  have ec : (cs == []) = false := by cases cs with
    | nil => simp at hc1
    | cons _ _ => rfl
  refine Ev.func hs Tryz.func84 rfl (m := 43) rfl ?_
  simp only [Array.toList_empty, List.append_nil, ofList_cons, ofList_nil]
  have e1 : decide ((cs.length : Int) = 1) = false := by simp; omega
  repeat (first | refine Abs.Ev.seq ?_ | refine Abs.Ev.region ?_ | refine Abs.Ev.block ?_ | refine Abs.Ev.skip ?_ | refine Abs.Ev.exit ?_ | refine Abs.Ev.ret ?_ | refine Abs.Ev.runNil ?_ | refine Abs.Ev.stepsNil ?_ | refine Abs.Seq.go ?_ | refine Abs.Seq.off ?_ | refine Abs.Blk.here ?_ | refine Abs.Blk.go ?_ | refine Abs.Blk.off rfl ?_ | refine Abs.Blk.ret ?_ | refine Abs.Ev.label ?_ | refine Abs.Ev.scope ?_ | refine Abs.Ev.condY (Abs.get_same _ _ _) ?_ | refine Abs.Ev.condN (Abs.get_same _ _ _) ?_ | refine Abs.Ev.step' rfl rfl rfl ?_ | refine Abs.Ev.stepG' rfl rfl rfl rfl ?_ | (refine Abs.Nx.go ?_; (first | simp (disch := first | omega | assumption) only [go_sem, ex, ec, e1, Tryz.underlying9] | skip)) | fail)
  (refine Abs.Ev.callF rfl ?_; simp (disch := first | omega | assumption) only [go_sem, ])
  refine make_ev hm hwf hlow hc2 fun l s2 hl256 hget hold hnx => ⟨_, _, rfl, ?_⟩
  have hone : l.all oneB = true := one_all fun i hi => by
    have := hget i (by omega)
    rw [List.getElem?_eq_getElem hi] at this
    rw [Option.some.inj this]
    rfl
  have hrep : (List.replicate 256 (Value.bool false)).length = 256 := List.length_replicate
  repeat (first | refine Abs.Ev.seq ?_ | refine Abs.Ev.region ?_ | refine Abs.Ev.block ?_ | refine Abs.Ev.skip ?_ | refine Abs.Ev.exit ?_ | refine Abs.Ev.ret ?_ | refine Abs.Ev.runNil ?_ | refine Abs.Ev.stepsNil ?_ | refine Abs.Seq.go ?_ | refine Abs.Seq.off ?_ | refine Abs.Blk.here ?_ | refine Abs.Blk.go ?_ | refine Abs.Blk.off rfl ?_ | refine Abs.Blk.ret ?_ | refine Abs.Ev.label ?_ | refine Abs.Ev.scope ?_ | refine Abs.Ev.condY (Abs.get_same _ _ _) ?_ | refine Abs.Ev.condN (Abs.get_same _ _ _) ?_ | refine Abs.Ev.step' rfl rfl rfl ?_ | refine Abs.Ev.stepG' rfl rfl rfl rfl ?_ | (refine Abs.Nx.go ?_; (first | simp (disch := first | omega | assumption) only [go_sem, Ty.sz156, Ty.ze156, hl256, hone] | skip)) | fail)
  have hset : SetAt ⟨(s2.heap.set s2.next (AObj.cells (List.replicate 256 (Value.bool false)) 156 0 false (0, 0))).set s2.next (AObj.cells l 156 0 false (0, 0)), s2.next + 1⟩ s2.next cs := ⟨l, _, _, get_same _ _ _, hget⟩
  have hkeep : ∀ b x, s.heap.get b = some x → ((s2.heap.set s2.next (AObj.cells (List.replicate 256 (Value.bool false)) 156 0 false (0, 0))).set s2.next (AObj.cells l 156 0 false (0, 0))).get b = some x := fun b x hx => by
    have := hwf b x hx
    rw [get_other _ _ _ _ (by omega), get_other _ _ _ _ (by omega)]
    exact hold b x hx
  generalize (s2.heap.set s2.next (AObj.cells (List.replicate 256 (Value.bool false)) 156 0 false (0, 0))).set s2.next (AObj.cells l 156 0 false (0, 0)) = h3 at hset hkeep ⊢
  repeat (first | refine Abs.Ev.seq ?_ | refine Abs.Ev.region ?_ | refine Abs.Ev.block ?_ | refine Abs.Ev.skip ?_ | refine Abs.Ev.exit ?_ | refine Abs.Ev.ret ?_ | refine Abs.Ev.runNil ?_ | refine Abs.Ev.stepsNil ?_ | refine Abs.Seq.go ?_ | refine Abs.Seq.off ?_ | refine Abs.Blk.here ?_ | refine Abs.Blk.go ?_ | refine Abs.Blk.off rfl ?_ | refine Abs.Blk.ret ?_ | refine Abs.Ev.label ?_ | refine Abs.Ev.scope ?_ | refine Abs.Ev.condY (Abs.get_same _ _ _) ?_ | refine Abs.Ev.condN (Abs.get_same _ _ _) ?_ | refine Abs.Ev.step' rfl rfl rfl ?_ | refine Abs.Ev.stepG' rfl rfl rfl rfl ?_ | (refine Abs.Nx.go ?_; (first | simp (disch := first | omega | assumption) only [go_sem, ] | skip)) | fail)
  (refine Abs.Ev.callF rfl ?_; simp (disch := first | omega | assumption) only [go_sem, ])
  refine right_ev hr hh hset hx1 ⟨_, _, rfl, ?_⟩
  repeat (first | refine Abs.Ev.seq ?_ | refine Abs.Ev.region ?_ | refine Abs.Ev.block ?_ | refine Abs.Ev.skip ?_ | refine Abs.Ev.exit ?_ | refine Abs.Ev.ret ?_ | refine Abs.Ev.runNil ?_ | refine Abs.Ev.stepsNil ?_ | refine Abs.Seq.go ?_ | refine Abs.Seq.off ?_ | refine Abs.Blk.here ?_ | refine Abs.Blk.go ?_ | refine Abs.Blk.off rfl ?_ | refine Abs.Blk.ret ?_ | refine Abs.Ev.label ?_ | refine Abs.Ev.scope ?_ | refine Abs.Ev.condY (Abs.get_same _ _ _) ?_ | refine Abs.Ev.condN (Abs.get_same _ _ _) ?_ | refine Abs.Ev.step' rfl rfl rfl ?_ | refine Abs.Ev.stepG' rfl rfl rfl rfl ?_ | (refine Abs.Nx.go ?_; (first | simp (disch := first | omega | assumption) only [go_sem, ] | skip)) | fail)
  (refine Abs.Ev.callF rfl ?_; simp (disch := first | omega | assumption) only [go_sem, ])
  refine left_ev hl hh hset ?_ ⟨_, _, rfl, ?_⟩
  · exact Nat.le_trans (trimR_len cs x) hx1
  repeat (first | refine Abs.Ev.seq ?_ | refine Abs.Ev.region ?_ | refine Abs.Ev.block ?_ | refine Abs.Ev.skip ?_ | refine Abs.Ev.exit ?_ | refine Abs.Ev.ret ?_ | refine Abs.Ev.runNil ?_ | refine Abs.Ev.stepsNil ?_ | refine Abs.Seq.go ?_ | refine Abs.Seq.off ?_ | refine Abs.Blk.here ?_ | refine Abs.Blk.go ?_ | refine Abs.Blk.off rfl ?_ | refine Abs.Blk.ret ?_ | refine Abs.Ev.label ?_ | refine Abs.Ev.scope ?_ | refine Abs.Ev.condY (Abs.get_same _ _ _) ?_ | refine Abs.Ev.condN (Abs.get_same _ _ _) ?_ | refine Abs.Ev.step' rfl rfl rfl ?_ | refine Abs.Ev.stepG' rfl rfl rfl rfl ?_ | (refine Abs.Nx.go ?_; (first | simp (disch := first | omega | assumption) only [go_sem, ] | skip)) | fail)
  refine Body.ret rfl (res_one (get_same _ _ _)) ⟨_, rfl, hkeep, ?_⟩
  show s2.next + 1 ≤ s.next + 2
  omega
end
end Go.Proofs.YtbakhdgiimjnkaaGreatDoor

