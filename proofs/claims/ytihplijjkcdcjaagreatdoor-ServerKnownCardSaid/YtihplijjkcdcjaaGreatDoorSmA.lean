/-
  The evaluator and what is proved of it (several texts in one).
-/
import Derived.Test.YtihplijjkcdcjaaGreatDoorEvA
import Derived.Test.YtihplijjkcdcjaaGreatDoorDfA
import Derived.Test.YtihplijjkcdcjaaGreatDoorTy
import Derived.Test.YtihplijjkcdcjaaGreatDoorAbsE
import Derived.Test.YtihplijjkcdcjaaGreatDoorAbsArgs
import Derived.Test.YtihplijjkcdcjaaGreatDoorAbsSum
import Derived.Lib.Index
import Derived.Lib.Bytes
import Derived.Deep.Draws
import Derived.Test.YtihplijjkcdcjaaGreatDoorEvSet
set_option linter.unusedVariables false
set_option linter.unusedSimpArgs false
/-
  crc.More at the evaluator: what it answers.
-/
namespace Go.Proofs.YtihplijjkcdcjaaGreatDoor
open Abs
set_option maxHeartbeats 16000000
set_option maxRecDepth 20000
set_option linter.unusedSimpArgs false
attribute [local irreducible] Abs.Ev Abs.EvF Abs.EvO Abs.EvA Abs.Seq Abs.Blk Abs.Body Abs.Scp Abs.EvG Abs.EvAg Abs.Nx
attribute [local go_sem] Abs.eDelete
section
theorem crcBit_lt {c : Nat} (h : c < 4294967296) : crcBit c < 4294967296 := by
  have h1 : c >>> 1 < 2 ^ 32 := by rw [Nat.shiftRight_eq_div_pow]; omega
  unfold crcBit
  rw [ifb_beq]
  split
  · exact Nat.xor_lt_two_pow (n := 32) h1 (by decide)
  · exact h1
theorem crcBits_succ (c j : Nat) : crcBits c (j + 1) = crcBit (crcBits c j) := natK_eq _ _
theorem crcBits_lt {c : Nat} (h : c < 4294967296) (j : Nat) : crcBits c j < 4294967296 := by
  induction j with
  | zero => exact h
  | succ j ih => rw [crcBits_succ]; exact crcBit_lt ih
theorem crcGo_cons (v : Value) (l : List Value) (c : Nat) : crcGo (v :: l) c = crcStep v c (crcGo l) := rfl
theorem crcStep_some {v : Value} {c r : Nat} {k : Nat → Option Nat} (h : crcStep v c k = some r) : ∃ b : Nat, b < 256 ∧ v = .int .u8 (b : Int) ∧ k (crcByte c b) = some r := by
  unfold crcStep at h
  split at h
  · rename_i b
    rw [ifb_blt, natK_eq] at h
    split at h
    · exact ⟨b, ‹_›, rfl, h⟩
    · cases h
  · cases h
theorem crcBit_odd {c : Nat} (h : c &&& 1 = 1) : crcBit c = (c >>> 1) ^^^ 2197175160 := by
  unfold crcBit
  rw [ifb_beq]
  exact if_pos h
theorem crcBit_even {c : Nat} (h : ¬ c &&& 1 = 1) : crcBit c = c >>> 1 := by
  unfold crcBit
  rw [ifb_beq]
  exact if_neg h
theorem shr32 {c : Nat} (h : c < 4294967296) : c >>> 1 < 4294967296 := by rw [Nat.shiftRight_eq_div_pow]; omega
theorem nat_xor (a b : Nat) : Nat.xor a b = a ^^^ b := rfl
theorem xor32 {c : Nat} (h : c < 4294967296) : 4294967295 ^^^ c < 4294967296 := Nat.xor_lt_two_pow (n := 32) (by decide) h
variable {Sm : Summ}
theorem crc_ev (hs : Sm 376 = none) {args : List Value} {s : St} {v : Value} {s1 : St} (h : sumCrc args s = .ok (v, s1)) : Ev Tryz.prog Sm (.inv (.fn (.func 376) #[]) args s) fun r => r = .val v s1 := by
  unfold sumCrc at h
  split at h <;> first | (cases h; done) | skip
  rename_i c0 A n k0
  rw [ifb_blt, ifb_ble] at h
  split at h <;> first | (cases h; done) | skip
  rename_i hc0
  split at h <;> first | (cases h; done) | skip
  rename_i hn0
  obtain ⟨q, hq, h⟩ := Rs.bind_ok h
  obtain ⟨r, hr, h⟩ := Rs.bind_ok h
  have hr := Rs.of_ok hr
  simp only [nat_xor] at hr h ⊢
  obtain ⟨rfl, rfl⟩ : v = .int .u32 (.ofNat (4294967295 ^^^ r)) ∧ s1 = s := by cases h; exact ⟨rfl, rfl⟩
  refine Ev.func hs Tryz.func376 rfl (m := 35) rfl ?_
  obtain ⟨b, o, sp⟩ := A
  cases sp with
  | some _ => cases hq
  | none =>
  simp only [Array.toList_empty, List.append_nil, ofList_cons, ofList_nil]
  have hcell : ∃ l, objCells (s1.heap.get b) = .ok l ∧ cutN l o n = some q.2 ∧ q.1 = n := by
    simp only [srcCells, Nat.mul_one] at hq
    split at hq <;> first | (cases hq; done) | skip
    · obtain ⟨cs, h1, h2⟩ := Rs.bind_ok hq
      rename_i l _ _ _ _ hb
      cases h2
      exact ⟨l, by rw [hb]; rfl, Rs.of_ok h1, rfl⟩
    · obtain ⟨cs, h1, h2⟩ := Rs.bind_ok hq
      rename_i l _ hb
      cases h2
      exact ⟨l, by rw [hb]; rfl, Rs.of_ok h1, rfl⟩
  obtain ⟨l, hl, hcut, hqn⟩ := hcell
  obtain ⟨hn, hql⟩ := cutN_some hcut
  generalize q.2 = q2 at hcut hql hr
  clear hqn
  have hlen : q2.length = n := by rw [hql, List.length_take, List.length_drop]; omega
  have hget : ∀ i, i < n → l[o + i]? = q2[i]? := by
    intro i hi
    rw [hql, List.getElem?_take_of_lt hi, List.getElem?_drop]
  clear hql hcut hn hq h
  repeat (first | refine Abs.Ev.seq ?_ | refine Abs.Ev.region ?_ | refine Abs.Ev.block ?_ | refine Abs.Ev.skip ?_ | refine Abs.Ev.exit ?_ | refine Abs.Ev.ret ?_ | refine Abs.Ev.runNil ?_ | refine Abs.Ev.stepsNil ?_ | refine Abs.Seq.go ?_ | refine Abs.Seq.off ?_ | refine Abs.Blk.here ?_ | refine Abs.Blk.go ?_ | refine Abs.Blk.off rfl ?_ | refine Abs.Blk.ret ?_ | refine Abs.Ev.label ?_ | refine Abs.Ev.scope ?_ | refine Abs.Ev.condY (Abs.get_same _ _ _) ?_ | refine Abs.Ev.condN (Abs.get_same _ _ _) ?_ | refine Abs.Ev.step' rfl rfl rfl ?_ | refine Abs.Ev.stepG' rfl rfl rfl rfl ?_ | (refine Abs.Nx.go ?_; (first | simp (disch := first | omega | assumption) only [go_sem, Tryz.underlying30] | skip)) | fail)
  refine Ev.loop (fun k a s' => s' = s1 ∧ ∃ T c i, a = ⟨T, 35, []⟩ ∧ T.get 5 = some (.int .u32 ((c : Nat) : Int)) ∧ T.get 11 = some (.slice (some ⟨b, o, none⟩) n k0) ∧ T.get 12 = some (.int .i64 (n : Int)) ∧ T.get 13 = some (.int .i64 ((i : Nat) : Int)) ∧ c < 4294967296 ∧ i ≤ n ∧ crcGo (q2.drop i) c = some r ∧ k = n - i) (k := n)
    ⟨rfl, _, 4294967295 ^^^ c0, 0, rfl, ?g5, ?g11, ?g12, ?g13, xor32 hc0, Nat.zero_le _, by rw [List.drop_zero]; exact hr, rfl⟩ ?_
  case g5 => simp (disch := omega) only [go_sem]
  case g11 => simp (disch := omega) only [go_sem]
  case g12 => simp (disch := omega) only [go_sem]
  case g13 => simp (disch := omega) only [go_sem]; rfl
  rintro m a s' ⟨rfl, T, c, i, rfl, h5, h11, h12, h13, hc, hi, hgo, rfl⟩
  repeat (first | refine Abs.Ev.seq ?_ | refine Abs.Ev.region ?_ | refine Abs.Ev.block ?_ | refine Abs.Ev.skip ?_ | refine Abs.Ev.exit ?_ | refine Abs.Ev.ret ?_ | refine Abs.Ev.runNil ?_ | refine Abs.Ev.stepsNil ?_ | refine Abs.Seq.go ?_ | refine Abs.Seq.off ?_ | refine Abs.Blk.here ?_ | refine Abs.Blk.go ?_ | refine Abs.Blk.off rfl ?_ | refine Abs.Blk.ret ?_ | refine Abs.Ev.label ?_ | refine Abs.Ev.scope ?_ | refine Abs.Ev.condY (Abs.get_same _ _ _) ?_ | refine Abs.Ev.condN (Abs.get_same _ _ _) ?_ | refine Abs.Ev.step' rfl rfl rfl ?_ | refine Abs.Ev.stepG' rfl rfl rfl rfl ?_ | (refine Abs.Nx.go ?_; (first | simp (disch := first | omega | assumption) only [go_sem, h5, h11, h12, h13] | skip)) | fail)
  refine Ev.condT (get_same _ _ _) (fun hb => ?_) (fun hb => ?_)
  · have hlt : i < n := by have := of_decide_eq_true hb; omega
    have hd : q2.drop i = q2[i]'(by omega) :: q2.drop (i + 1) := List.drop_eq_getElem_cons (by omega)
    rw [hd, crcGo_cons] at hgo
    obtain ⟨x, hx, hv, hgo⟩ := crcStep_some hgo
    have hv' : l[o + i]? = some (.int .u8 (x : Int)) := by rw [hget i hlt, List.getElem?_eq_getElem (by omega), hv]
    clear hd hv hb
    repeat (first | refine Abs.Ev.seq ?_ | refine Abs.Ev.region ?_ | refine Abs.Ev.block ?_ | refine Abs.Ev.skip ?_ | refine Abs.Ev.exit ?_ | refine Abs.Ev.ret ?_ | refine Abs.Ev.runNil ?_ | refine Abs.Ev.stepsNil ?_ | refine Abs.Seq.go ?_ | refine Abs.Seq.off ?_ | refine Abs.Blk.here ?_ | refine Abs.Blk.go ?_ | refine Abs.Blk.off rfl ?_ | refine Abs.Blk.ret ?_ | refine Abs.Ev.label ?_ | refine Abs.Ev.scope ?_ | refine Abs.Ev.condY (Abs.get_same _ _ _) ?_ | refine Abs.Ev.condN (Abs.get_same _ _ _) ?_ | refine Abs.Ev.step' rfl rfl rfl ?_ | refine Abs.Ev.stepG' rfl rfl rfl rfl ?_ | (refine Abs.Nx.go ?_; (first | simp (disch := first | omega | assumption) only [go_sem, h5, h11, h12, h13, Tryz.underlying30, Tryz.underlying5, Tryz.underlying94, Ty.sz5, Ty.ag5, hl, hv'] | skip)) | fail)
    refine Ev.loop (fun k a s'' => s'' = s' ∧ ∃ T j, a = ⟨T, 35, []⟩ ∧ T.get 5 = some (.int .u32 ((crcBits (c ^^^ x) j : Nat) : Int)) ∧ T.get 11 = some (.slice (some ⟨b, o, none⟩) n k0) ∧ T.get 12 = some (.int .i64 (n : Int)) ∧ T.get 13 = some (.int .i64 (i : Int)) ∧ T.get 21 = some (.int .i64 ((j : Nat) : Int)) ∧ j ≤ 8 ∧ k = 8 - j) (k := 8)
      ⟨rfl, _, 0, rfl, ?g5, ?g11, ?g12, ?g13, ?g21, by omega, rfl⟩ ?_
    case g5 => simp (disch := omega) only [go_sem]; rfl
    case g11 => simp (disch := omega) only [go_sem, h11]
    case g12 => simp (disch := omega) only [go_sem, h12]
    case g13 => simp (disch := omega) only [go_sem, h13]
    case g21 => simp (disch := omega) only [go_sem]; rfl
    clear h5 h11 h12 h13 T
    rintro m a s'' ⟨rfl, T, j, rfl, h5, h11, h12, h13, h21, hj, rfl⟩
    have hcx : c ^^^ x < 4294967296 := Nat.xor_lt_two_pow (n := 32) hc (by omega)
    have hcj := crcBits_lt hcx j
    repeat (first | refine Abs.Ev.seq ?_ | refine Abs.Ev.region ?_ | refine Abs.Ev.block ?_ | refine Abs.Ev.skip ?_ | refine Abs.Ev.exit ?_ | refine Abs.Ev.ret ?_ | refine Abs.Ev.runNil ?_ | refine Abs.Ev.stepsNil ?_ | refine Abs.Seq.go ?_ | refine Abs.Seq.off ?_ | refine Abs.Blk.here ?_ | refine Abs.Blk.go ?_ | refine Abs.Blk.off rfl ?_ | refine Abs.Blk.ret ?_ | refine Abs.Ev.label ?_ | refine Abs.Ev.scope ?_ | refine Abs.Ev.condY (Abs.get_same _ _ _) ?_ | refine Abs.Ev.condN (Abs.get_same _ _ _) ?_ | refine Abs.Ev.step' rfl rfl rfl ?_ | refine Abs.Ev.stepG' rfl rfl rfl rfl ?_ | (refine Abs.Nx.go ?_; (first | simp (disch := first | omega | assumption) only [go_sem, h5, h11, h12, h13, h21] | skip)) | fail)
    refine Ev.condT (get_same _ _ _) (fun hb => ?_) (fun hb => ?_)
    · have hb := of_decide_eq_true hb
      have hsh := shr32 hcj
      repeat (first | refine Abs.Ev.seq ?_ | refine Abs.Ev.region ?_ | refine Abs.Ev.block ?_ | refine Abs.Ev.skip ?_ | refine Abs.Ev.exit ?_ | refine Abs.Ev.ret ?_ | refine Abs.Ev.runNil ?_ | refine Abs.Ev.stepsNil ?_ | refine Abs.Seq.go ?_ | refine Abs.Seq.off ?_ | refine Abs.Blk.here ?_ | refine Abs.Blk.go ?_ | refine Abs.Blk.off rfl ?_ | refine Abs.Blk.ret ?_ | refine Abs.Ev.label ?_ | refine Abs.Ev.scope ?_ | refine Abs.Ev.condY (Abs.get_same _ _ _) ?_ | refine Abs.Ev.condN (Abs.get_same _ _ _) ?_ | refine Abs.Ev.step' rfl rfl rfl ?_ | refine Abs.Ev.stepG' rfl rfl rfl rfl ?_ | (refine Abs.Nx.go ?_; (first | simp (disch := first | omega | assumption) only [go_sem, h5, h21] | skip)) | fail)
      refine Ev.condT (get_same _ _ _) (fun hc1 => ?_) (fun hc1 => ?_)
      · have hc1 := of_decide_eq_true hc1
        repeat (first | refine Abs.Ev.seq ?_ | refine Abs.Ev.region ?_ | refine Abs.Ev.block ?_ | refine Abs.Ev.skip ?_ | refine Abs.Ev.exit ?_ | refine Abs.Ev.ret ?_ | refine Abs.Ev.runNil ?_ | refine Abs.Ev.stepsNil ?_ | refine Abs.Seq.go ?_ | refine Abs.Seq.off ?_ | refine Abs.Blk.here ?_ | refine Abs.Blk.go ?_ | refine Abs.Blk.off rfl ?_ | refine Abs.Blk.ret ?_ | refine Abs.Ev.label ?_ | refine Abs.Ev.scope ?_ | refine Abs.Ev.condY (Abs.get_same _ _ _) ?_ | refine Abs.Ev.condN (Abs.get_same _ _ _) ?_ | refine Abs.Ev.step' rfl rfl rfl ?_ | refine Abs.Ev.stepG' rfl rfl rfl rfl ?_ | (refine Abs.Nx.go ?_; (first | simp (disch := first | omega | assumption) only [go_sem, h21] | skip)) | fail)
        refine ⟨8 - (j + 1), by omega, rfl, _, j + 1, rfl, ?_, ?_, ?_, ?_, ?_, by omega, rfl⟩
        · simp (disch := omega) only [go_sem]
          rw [crcBits_succ, crcBit_odd (by omega)]
        · simp (disch := omega) only [go_sem, h11]
        · simp (disch := omega) only [go_sem, h12]
        · simp (disch := omega) only [go_sem, h13]
        · simp (disch := omega) only [go_sem, Int.natCast_add, Int.natCast_one]
      · have hc1 := of_decide_eq_false hc1
        repeat (first | refine Abs.Ev.seq ?_ | refine Abs.Ev.region ?_ | refine Abs.Ev.block ?_ | refine Abs.Ev.skip ?_ | refine Abs.Ev.exit ?_ | refine Abs.Ev.ret ?_ | refine Abs.Ev.runNil ?_ | refine Abs.Ev.stepsNil ?_ | refine Abs.Seq.go ?_ | refine Abs.Seq.off ?_ | refine Abs.Blk.here ?_ | refine Abs.Blk.go ?_ | refine Abs.Blk.off rfl ?_ | refine Abs.Blk.ret ?_ | refine Abs.Ev.label ?_ | refine Abs.Ev.scope ?_ | refine Abs.Ev.condY (Abs.get_same _ _ _) ?_ | refine Abs.Ev.condN (Abs.get_same _ _ _) ?_ | refine Abs.Ev.step' rfl rfl rfl ?_ | refine Abs.Ev.stepG' rfl rfl rfl rfl ?_ | (refine Abs.Nx.go ?_; (first | simp (disch := first | omega | assumption) only [go_sem, h21] | skip)) | fail)
        refine ⟨8 - (j + 1), by omega, rfl, _, j + 1, rfl, ?_, ?_, ?_, ?_, ?_, by omega, rfl⟩
        · simp (disch := omega) only [go_sem]
          rw [crcBits_succ, crcBit_even (by omega)]
        · simp (disch := omega) only [go_sem, h11]
        · simp (disch := omega) only [go_sem, h12]
        · simp (disch := omega) only [go_sem, h13]
        · simp (disch := omega) only [go_sem, Int.natCast_add, Int.natCast_one]
    · have hb := of_decide_eq_false hb
      obtain rfl : j = 8 := by omega
      repeat (first | refine Abs.Ev.seq ?_ | refine Abs.Ev.region ?_ | refine Abs.Ev.block ?_ | refine Abs.Ev.skip ?_ | refine Abs.Ev.exit ?_ | refine Abs.Ev.ret ?_ | refine Abs.Ev.runNil ?_ | refine Abs.Ev.stepsNil ?_ | refine Abs.Seq.go ?_ | refine Abs.Seq.off ?_ | refine Abs.Blk.here ?_ | refine Abs.Blk.go ?_ | refine Abs.Blk.off rfl ?_ | refine Abs.Blk.ret ?_ | refine Abs.Ev.label ?_ | refine Abs.Ev.scope ?_ | refine Abs.Ev.condY (Abs.get_same _ _ _) ?_ | refine Abs.Ev.condN (Abs.get_same _ _ _) ?_ | refine Abs.Ev.step' rfl rfl rfl ?_ | refine Abs.Ev.stepG' rfl rfl rfl rfl ?_ | (refine Abs.Nx.go ?_; (first | simp (disch := first | omega | assumption) only [go_sem, h5, h11, h12, h13] | skip)) | fail)
      refine ⟨n - (i + 1), by omega, rfl, _, crcBits (c ^^^ x) 8, i + 1, rfl, ?_, ?_, ?_, ?_, hcj, hlt, hgo, rfl⟩
      · simp (disch := omega) only [go_sem, h5]
      · simp (disch := omega) only [go_sem, h11]
      · simp (disch := omega) only [go_sem, h12]
      · simp (disch := omega) only [go_sem, Int.natCast_add, Int.natCast_one]
  · have hb := of_decide_eq_false hb
    obtain rfl : i = n := by omega
    rw [List.drop_of_length_le (by omega)] at hgo
    obtain rfl : c = r := Option.some.inj hgo
    repeat (first | refine Abs.Ev.seq ?_ | refine Abs.Ev.region ?_ | refine Abs.Ev.block ?_ | refine Abs.Ev.skip ?_ | refine Abs.Ev.exit ?_ | refine Abs.Ev.ret ?_ | refine Abs.Ev.runNil ?_ | refine Abs.Ev.stepsNil ?_ | refine Abs.Seq.go ?_ | refine Abs.Seq.off ?_ | refine Abs.Blk.here ?_ | refine Abs.Blk.go ?_ | refine Abs.Blk.off rfl ?_ | refine Abs.Blk.ret ?_ | refine Abs.Ev.label ?_ | refine Abs.Ev.scope ?_ | refine Abs.Ev.condY (Abs.get_same _ _ _) ?_ | refine Abs.Ev.condN (Abs.get_same _ _ _) ?_ | refine Abs.Ev.step' rfl rfl rfl ?_ | refine Abs.Ev.stepG' rfl rfl rfl rfl ?_ | (refine Abs.Nx.go ?_; (first | simp (disch := first | omega | assumption) only [go_sem, h5] | skip)) | fail)
    exact Body.ret rfl (res_one (get_same _ _ _)) rfl
theorem crc_says (hs : Sm 376 = none) : EvSays Tryz.prog Sm 376 sumCrc := fun args s v s1 _ h => (crc_ev hs h).mono fun r e => ⟨s1, e, St.below_refl _⟩
end
end Go.Proofs.YtihplijjkcdcjaaGreatDoor

/-
  strings.Trim at the evaluator, where the cutset is ASCII (at least two letters): what it answers.
-/
namespace Go.Proofs.YtihplijjkcdcjaaGreatDoor
open Abs
set_option maxHeartbeats 16000000
set_option maxRecDepth 20000
set_option linter.unusedSimpArgs false
attribute [local irreducible] Abs.Ev Abs.EvF Abs.EvO Abs.EvA Abs.Seq Abs.Blk Abs.Body Abs.Scp Abs.EvG Abs.EvAg Abs.Nx
attribute [local go_sem] Abs.eDelete
section
variable {Sm : Summ} {Q : Ans → Prop}
theorem has_ev (hs : Sm 421 = none) {s : St} {b : Nat} {l : List Value} (hb : objCells (s.heap.get b) = .ok l) {c : Nat} (hc : c < 256) {v : Bool} (hv : l[c]? = some (.bool v)) (h : Q (.val (.bool v) s)) :
    Ev Tryz.prog Sm (.inv (.fn (.func 421) #[]) [.pointer (some ⟨b, 0, none⟩), .int .u8 (c : Int)] s) Q := by
  refine Ev.func hs Tryz.func421 rfl (m := 10) rfl ?_
  simp only [Array.toList_empty, List.append_nil, ofList_cons, ofList_nil]
  repeat (first | refine Abs.Ev.seq ?_ | refine Abs.Ev.region ?_ | refine Abs.Ev.block ?_ | refine Abs.Ev.skip ?_ | refine Abs.Ev.exit ?_ | refine Abs.Ev.ret ?_ | refine Abs.Ev.runNil ?_ | refine Abs.Ev.stepsNil ?_ | refine Abs.Seq.go ?_ | refine Abs.Seq.off ?_ | refine Abs.Blk.here ?_ | refine Abs.Blk.go ?_ | refine Abs.Blk.off rfl ?_ | refine Abs.Blk.ret ?_ | refine Abs.Ev.label ?_ | refine Abs.Ev.scope ?_ | refine Abs.Ev.condY (Abs.get_same _ _ _) ?_ | refine Abs.Ev.condN (Abs.get_same _ _ _) ?_ | refine Abs.Ev.step' rfl rfl rfl ?_ | refine Abs.Ev.stepG' rfl rfl rfl rfl ?_ | (refine Abs.Nx.go ?_; (first | simp (disch := first | omega | assumption) only [go_sem, hb, hv, Tryz.underlying436, Ty.sz4, Ty.ag4] | skip)) | fail)
  exact Body.ret rfl (res_one (get_same _ _ _)) h
theorem inSet_iff (cs : List UInt8) (c : UInt8) : inSet cs c = true ↔ c ∈ cs := by
  induction cs with
  | nil => exact ⟨fun h => (by cases h), fun h => (by cases h)⟩
  | cons x cs ih =>
    have e : inSet (x :: cs) c = ifb (Nat.beq x.toNat c.toNat) true (inSet cs c) := rfl
    rw [e, beqNat, ifb_eq]
    by_cases h : x = c
    · subst h; simp
    · have h' : (x == c) = false := by simpa using h
      rw [h', if_neg (by decide), ih]
      simp [Ne.symm h]
theorem inSet_eq (cs : List UInt8) (c : UInt8) : inSet cs c = decide (c ∈ cs) := by
  rw [Bool.eq_iff_iff, inSet_iff, decide_eq_true_eq]
theorem allLow_mem {cs : List UInt8} (h : allLow cs = true) : ∀ x ∈ cs, x.toNat < 128 := by
  induction cs with
  | nil => intro x hx; cases hx
  | cons y cs ih =>
    have e : allLow (y :: cs) = ifb (Nat.blt y.toNat 128) (allLow cs) false := rfl
    rw [e, ifb_blt] at h
    split at h
    · intro x hx
      rcases List.mem_cons.1 hx with rfl | hx
      · assumption
      · exact ih h x hx
    · cases h
theorem make_ev (hs : Sm 287 = none) {s : St} (hwf : s.wf) {cs : List UInt8} (hlow : allLow cs = true) (hlen : cs.length ≤ 1073741824)
    (h : ∀ l s', l.length = 256 → (∀ c, c < 256 → l[c]? = some (.bool (decide (UInt8.ofNat c ∈ cs)))) → (∀ b x, s.heap.get b = some x → s'.heap.get b = some x) → s'.next = s.next + 1 → Q (.val (.tuple #[.agg ⟨l⟩, .bool true]) s')) :
    Ev Tryz.prog Sm (.inv (.fn (.func 287) #[]) [.string ⟨⟨cs⟩⟩] s) Q := by
  refine Ev.func hs Tryz.func287 rfl (m := 21) rfl ?_
  simp only [Array.toList_empty, List.append_nil, ofList_cons, ofList_nil]
  repeat (first | refine Abs.Ev.seq ?_ | refine Abs.Ev.region ?_ | refine Abs.Ev.block ?_ | refine Abs.Ev.skip ?_ | refine Abs.Ev.exit ?_ | refine Abs.Ev.ret ?_ | refine Abs.Ev.runNil ?_ | refine Abs.Ev.stepsNil ?_ | refine Abs.Seq.go ?_ | refine Abs.Seq.off ?_ | refine Abs.Blk.here ?_ | refine Abs.Blk.go ?_ | refine Abs.Blk.off rfl ?_ | refine Abs.Blk.ret ?_ | refine Abs.Ev.label ?_ | refine Abs.Ev.scope ?_ | refine Abs.Ev.condY (Abs.get_same _ _ _) ?_ | refine Abs.Ev.condN (Abs.get_same _ _ _) ?_ | refine Abs.Ev.step' rfl rfl rfl ?_ | refine Abs.Ev.stepG' rfl rfl rfl rfl ?_ | (refine Abs.Nx.go ?_; (first | simp (disch := first | omega | assumption) only [go_sem, Ty.ze436] | skip)) | fail)
  refine Ev.loop (fun k a s' => ∃ T i l, a = ⟨T, 21, []⟩ ∧ T.get 0 = some (.string ⟨⟨cs⟩⟩) ∧ T.get 2 = some (.pointer (some ⟨s.next, 0, none⟩)) ∧ T.get 4 = some (.int .i64 ((i : Nat) : Int)) ∧ i ≤ cs.length ∧ k = cs.length - i ∧ s'.heap.get s.next = some (.cells l 436 0 false (0, 0)) ∧ l.length = 256 ∧ (∀ c, c < 256 → l[c]? = some (.bool (decide (UInt8.ofNat c ∈ cs.take i)))) ∧ (∀ b, b ≠ s.next → s'.heap.get b = s.heap.get b) ∧ s'.next = s.next + 1) (k := cs.length)
    ⟨_, 0, _, rfl, ?g0, ?g2, ?g4, Nat.zero_le _, rfl, get_same _ _ _, ?gl, ?gc, fun b hb => get_other _ _ _ _ hb, rfl⟩ ?_
  case g0 => simp (disch := first | omega | assumption) only [go_sem, ]
  case g2 => simp (disch := first | omega | assumption) only [go_sem, ]
  case g4 => simp (disch := first | omega | assumption) only [go_sem, ]; rfl
  case gl => exact List.length_replicate
  case gc => intro c hc; rw [List.getElem?_replicate, if_pos hc]; simp
  rintro m a s' ⟨T, i, l, rfl, g0, g2, g4, hi, rfl, hb, hl, hc, hoth, hnx⟩
  repeat (first | refine Abs.Ev.seq ?_ | refine Abs.Ev.region ?_ | refine Abs.Ev.block ?_ | refine Abs.Ev.skip ?_ | refine Abs.Ev.exit ?_ | refine Abs.Ev.ret ?_ | refine Abs.Ev.runNil ?_ | refine Abs.Ev.stepsNil ?_ | refine Abs.Seq.go ?_ | refine Abs.Seq.off ?_ | refine Abs.Blk.here ?_ | refine Abs.Blk.go ?_ | refine Abs.Blk.off rfl ?_ | refine Abs.Blk.ret ?_ | refine Abs.Ev.label ?_ | refine Abs.Ev.scope ?_ | refine Abs.Ev.condY (Abs.get_same _ _ _) ?_ | refine Abs.Ev.condN (Abs.get_same _ _ _) ?_ | refine Abs.Ev.step' rfl rfl rfl ?_ | refine Abs.Ev.stepG' rfl rfl rfl rfl ?_ | (refine Abs.Nx.go ?_; (first | simp (disch := first | omega | assumption) only [go_sem, g0, g4, Tryz.underlying9] | skip)) | fail)
  refine Ev.condT (get_same _ _ _) (fun h1 => ?_) (fun h1 => ?_)
  · have hlt : i < cs.length := by have := of_decide_eq_true h1; omega
    have hx : cs[i]? = some cs[i] := List.getElem?_eq_getElem hlt
    have hmem := allLow_mem hlow cs[i] (List.getElem_mem hlt)
    have htake : cs.take (i + 1) = cs.take i ++ [cs[i]] := (List.take_append_getElem hlt).symm
    generalize cs[i] = x at hx hmem htake
    repeat (first | refine Abs.Ev.seq ?_ | refine Abs.Ev.region ?_ | refine Abs.Ev.block ?_ | refine Abs.Ev.skip ?_ | refine Abs.Ev.exit ?_ | refine Abs.Ev.ret ?_ | refine Abs.Ev.runNil ?_ | refine Abs.Ev.stepsNil ?_ | refine Abs.Seq.go ?_ | refine Abs.Seq.off ?_ | refine Abs.Blk.here ?_ | refine Abs.Blk.go ?_ | refine Abs.Blk.off rfl ?_ | refine Abs.Blk.ret ?_ | refine Abs.Ev.label ?_ | refine Abs.Ev.scope ?_ | refine Abs.Ev.condY (Abs.get_same _ _ _) ?_ | refine Abs.Ev.condN (Abs.get_same _ _ _) ?_ | refine Abs.Ev.step' rfl rfl rfl ?_ | refine Abs.Ev.stepG' rfl rfl rfl rfl ?_ | (refine Abs.Nx.go ?_; (first | simp (disch := first | omega | assumption) only [go_sem, g0, g4, Tryz.underlying9, hx] | skip)) | fail)
    refine Ev.condT (get_same _ _ _) (fun h2 => ?_) (fun h2 => ?_)
    · have := of_decide_eq_true h2
      omega
    repeat (first | refine Abs.Ev.seq ?_ | refine Abs.Ev.region ?_ | refine Abs.Ev.block ?_ | refine Abs.Ev.skip ?_ | refine Abs.Ev.exit ?_ | refine Abs.Ev.ret ?_ | refine Abs.Ev.runNil ?_ | refine Abs.Ev.stepsNil ?_ | refine Abs.Seq.go ?_ | refine Abs.Seq.off ?_ | refine Abs.Blk.here ?_ | refine Abs.Blk.go ?_ | refine Abs.Blk.off rfl ?_ | refine Abs.Blk.ret ?_ | refine Abs.Ev.label ?_ | refine Abs.Ev.scope ?_ | refine Abs.Ev.condY (Abs.get_same _ _ _) ?_ | refine Abs.Ev.condN (Abs.get_same _ _ _) ?_ | refine Abs.Ev.step' rfl rfl rfl ?_ | refine Abs.Ev.stepG' rfl rfl rfl rfl ?_ | (refine Abs.Nx.go ?_; (first | simp (disch := first | omega | assumption) only [go_sem, g0, g2, g4, Tryz.underlying436, Ty.sz4, hb] | skip)) | fail)
    refine ⟨cs.length - (i + 1), by omega, _, i + 1, _, rfl, ?_, ?_, ?_, hlt, rfl, get_same _ _ _, by rw [List.length_set]; exact hl, ?_, fun b hb => by rw [get_other _ _ _ _ hb]; exact hoth b hb, hnx⟩
    · simp (disch := first | omega | assumption) only [go_sem, g0]
    · simp (disch := first | omega | assumption) only [go_sem, g2]
    · simp (disch := first | omega | assumption) only [go_sem, Int.natCast_add, Int.natCast_one]
    · intro c hc'
      rw [List.getElem?_set, htake]
      by_cases e : x.toNat = c
      · subst e
        rw [if_pos rfl, if_pos (by omega)]
        simp
      · rw [if_neg e, hc c hc']
        have : ¬ UInt8.ofNat c = x := by
          intro e2
          apply e
          rw [← e2]
          simp
          omega
        simp [this]
  · have := of_decide_eq_false h1
    obtain rfl : i = cs.length := by omega
    rw [List.take_length] at hc
    have hone : l.all oneB = true := one_all fun i hi => by
      have := hc i (by omega)
      rw [List.getElem?_eq_getElem hi] at this
      rw [Option.some.inj this]
      rfl
    repeat (first | refine Abs.Ev.seq ?_ | refine Abs.Ev.region ?_ | refine Abs.Ev.block ?_ | refine Abs.Ev.skip ?_ | refine Abs.Ev.exit ?_ | refine Abs.Ev.ret ?_ | refine Abs.Ev.runNil ?_ | refine Abs.Ev.stepsNil ?_ | refine Abs.Seq.go ?_ | refine Abs.Seq.off ?_ | refine Abs.Blk.here ?_ | refine Abs.Blk.go ?_ | refine Abs.Blk.off rfl ?_ | refine Abs.Blk.ret ?_ | refine Abs.Ev.label ?_ | refine Abs.Ev.scope ?_ | refine Abs.Ev.condY (Abs.get_same _ _ _) ?_ | refine Abs.Ev.condN (Abs.get_same _ _ _) ?_ | refine Abs.Ev.step' rfl rfl rfl ?_ | refine Abs.Ev.stepG' rfl rfl rfl rfl ?_ | (refine Abs.Nx.go ?_; (first | simp (disch := first | omega | assumption) only [go_sem, g0, g2, g4, hb, hl, hone, cut_all hl, Ty.sz436, Ty.ag436] | skip)) | fail)
    refine Body.ret (rs := [.cell 2 436, .tmp 3]) rfl (vs := [.agg ⟨l⟩, .bool true]) ?_ ?_
    · simp (disch := first | omega | assumption) only [go_sem, res_cell, res_tmp, g2, Ty.sz436, Ty.ag436, cut_all hl]
    · exact h l _ hl hc (fun b x hx => by rw [get_other _ _ _ _ (Nat.ne_of_lt (hwf b x hx)), hoth _ (Nat.ne_of_lt (hwf b x hx))]; exact hx) hnx
theorem dropIn_cons (cs : List UInt8) (c : UInt8) (l : List UInt8) : dropIn cs (c :: l) = if c ∈ cs then dropIn cs l else c :: l := by
  have e : dropIn cs (c :: l) = ifb (inSet cs c) (dropIn cs l) (c :: l) := rfl
  rw [e, inSet_eq, ifb_decide]
theorem trimR_snoc (cs : List UInt8) (c : UInt8) (l : List UInt8) : trimR cs (l ++ [c]) = if c ∈ cs then trimR cs l else l ++ [c] := by
  unfold trimR
  rw [List.reverse_append, List.reverse_singleton, List.singleton_append, dropIn_cons]
  split
  · rfl
  · rw [List.reverse_cons, List.reverse_reverse]
/-- the set's block -/
def SetAt (s : St) (b : Nat) (cs : List UInt8) : Prop := ∃ l e z, s.heap.get b = some (.cells l e z false (0, 0)) ∧ ∀ c, c < 256 → l[c]? = some (.bool (decide (UInt8.ofNat c ∈ cs)))
theorem SetAt.cell {s : St} {b : Nat} {cs : List UInt8} (h : SetAt s b cs) : ∃ l, objCells (s.heap.get b) = .ok l ∧ ∀ c, c < 256 → l[c]? = some (.bool (decide (UInt8.ofNat c ∈ cs))) := by
  obtain ⟨l, e, z, h1, h2⟩ := h
  exact ⟨l, by rw [h1]; rfl, h2⟩
theorem left_ev (hs : Sm 288 = none) (hh : Sm 421 = none) {s : St} {b : Nat} {cs l0 : List UInt8} (hb : SetAt s b cs) (hlen : l0.length ≤ 1073741824) (h : Q (.val (.string ⟨⟨dropIn cs l0⟩⟩) s)) :
    Ev Tryz.prog Sm (.inv (.fn (.func 288) #[]) [.string ⟨⟨l0⟩⟩, .pointer (some ⟨b, 0, none⟩)] s) Q := by
  refine Ev.func hs Tryz.func288 rfl (m := 16) rfl ?_
  simp only [Array.toList_empty, List.append_nil, ofList_cons, ofList_nil]
  repeat (first | refine Abs.Ev.seq ?_ | refine Abs.Ev.region ?_ | refine Abs.Ev.block ?_ | refine Abs.Ev.skip ?_ | refine Abs.Ev.exit ?_ | refine Abs.Ev.ret ?_ | refine Abs.Ev.runNil ?_ | refine Abs.Ev.stepsNil ?_ | refine Abs.Seq.go ?_ | refine Abs.Seq.off ?_ | refine Abs.Blk.here ?_ | refine Abs.Blk.go ?_ | refine Abs.Blk.off rfl ?_ | refine Abs.Blk.ret ?_ | refine Abs.Ev.label ?_ | refine Abs.Ev.scope ?_ | refine Abs.Ev.condY (Abs.get_same _ _ _) ?_ | refine Abs.Ev.condN (Abs.get_same _ _ _) ?_ | refine Abs.Ev.step' rfl rfl rfl ?_ | refine Abs.Ev.stepG' rfl rfl rfl rfl ?_ | (refine Abs.Nx.go ?_; (first | simp (disch := first | omega | assumption) only [go_sem, ] | skip)) | fail)
  refine Ev.loop (fun k a s' => s' = s ∧ ∃ T l, a = ⟨T, 16, []⟩ ∧ T.get 0 = some (.string ⟨⟨l⟩⟩) ∧ T.get 1 = some (.pointer (some ⟨b, 0, none⟩)) ∧ k = l.length ∧ l.length ≤ 1073741824 ∧ dropIn cs l = dropIn cs l0) (k := l0.length)
    ⟨rfl, _, l0, rfl, ?g0, ?g1, rfl, hlen, rfl⟩ ?_
  case g0 => simp (disch := first | omega | assumption) only [go_sem, ]
  case g1 => simp (disch := first | omega | assumption) only [go_sem, ]
  rintro m a s' ⟨rfl, T, l, rfl, g0, g1, rfl, hl, hd⟩
  repeat (first | refine Abs.Ev.seq ?_ | refine Abs.Ev.region ?_ | refine Abs.Ev.block ?_ | refine Abs.Ev.skip ?_ | refine Abs.Ev.exit ?_ | refine Abs.Ev.ret ?_ | refine Abs.Ev.runNil ?_ | refine Abs.Ev.stepsNil ?_ | refine Abs.Seq.go ?_ | refine Abs.Seq.off ?_ | refine Abs.Blk.here ?_ | refine Abs.Blk.go ?_ | refine Abs.Blk.off rfl ?_ | refine Abs.Blk.ret ?_ | refine Abs.Ev.label ?_ | refine Abs.Ev.scope ?_ | refine Abs.Ev.condY (Abs.get_same _ _ _) ?_ | refine Abs.Ev.condN (Abs.get_same _ _ _) ?_ | refine Abs.Ev.step' rfl rfl rfl ?_ | refine Abs.Ev.stepG' rfl rfl rfl rfl ?_ | (refine Abs.Nx.go ?_; (first | simp (disch := first | omega | assumption) only [go_sem, g0, Tryz.underlying9] | skip)) | fail)
  refine Ev.condT (get_same _ _ _) (fun h1 => ?_) (fun h1 => ?_)
  · cases l with
    | nil => simp at h1
    | cons c l =>
      obtain ⟨cells, q1, q2⟩ := hb.cell
      have q3 := q2 c.toNat c.toNat_lt
      rw [UInt8.ofNat_toNat] at q3
      repeat (first | refine Abs.Ev.seq ?_ | refine Abs.Ev.region ?_ | refine Abs.Ev.block ?_ | refine Abs.Ev.skip ?_ | refine Abs.Ev.exit ?_ | refine Abs.Ev.ret ?_ | refine Abs.Ev.runNil ?_ | refine Abs.Ev.stepsNil ?_ | refine Abs.Seq.go ?_ | refine Abs.Seq.off ?_ | refine Abs.Blk.here ?_ | refine Abs.Blk.go ?_ | refine Abs.Blk.off rfl ?_ | refine Abs.Blk.ret ?_ | refine Abs.Ev.label ?_ | refine Abs.Ev.scope ?_ | refine Abs.Ev.condY (Abs.get_same _ _ _) ?_ | refine Abs.Ev.condN (Abs.get_same _ _ _) ?_ | refine Abs.Ev.step' rfl rfl rfl ?_ | refine Abs.Ev.stepG' rfl rfl rfl rfl ?_ | (refine Abs.Nx.go ?_; (first | simp (disch := first | omega | assumption) only [go_sem, g0, g1, Tryz.underlying9] | skip)) | fail)
      (refine Abs.Ev.callF rfl ?_; simp (disch := first | omega | assumption) only [go_sem, g0, g1])
      refine has_ev hh q1 c.toNat_lt q3 ⟨_, _, rfl, ?_⟩
      repeat (first | refine Abs.Ev.seq ?_ | refine Abs.Ev.region ?_ | refine Abs.Ev.block ?_ | refine Abs.Ev.skip ?_ | refine Abs.Ev.exit ?_ | refine Abs.Ev.ret ?_ | refine Abs.Ev.runNil ?_ | refine Abs.Ev.stepsNil ?_ | refine Abs.Seq.go ?_ | refine Abs.Seq.off ?_ | refine Abs.Blk.here ?_ | refine Abs.Blk.go ?_ | refine Abs.Blk.off rfl ?_ | refine Abs.Blk.ret ?_ | refine Abs.Ev.label ?_ | refine Abs.Ev.scope ?_ | refine Abs.Ev.condY (Abs.get_same _ _ _) ?_ | refine Abs.Ev.condN (Abs.get_same _ _ _) ?_ | refine Abs.Ev.step' rfl rfl rfl ?_ | refine Abs.Ev.stepG' rfl rfl rfl rfl ?_ | (refine Abs.Nx.go ?_; (first | simp (disch := first | omega | assumption) only [go_sem, g0, g1] | skip)) | fail)
      refine Ev.condT (get_same _ _ _) (fun h2 => ?_) (fun h2 => ?_)
      · have h2 : ¬ c ∈ cs := by simpa using h2
        rw [dropIn_cons, if_neg h2] at hd
        repeat (first | refine Abs.Ev.seq ?_ | refine Abs.Ev.region ?_ | refine Abs.Ev.block ?_ | refine Abs.Ev.skip ?_ | refine Abs.Ev.exit ?_ | refine Abs.Ev.ret ?_ | refine Abs.Ev.runNil ?_ | refine Abs.Ev.stepsNil ?_ | refine Abs.Seq.go ?_ | refine Abs.Seq.off ?_ | refine Abs.Blk.here ?_ | refine Abs.Blk.go ?_ | refine Abs.Blk.off rfl ?_ | refine Abs.Blk.ret ?_ | refine Abs.Ev.label ?_ | refine Abs.Ev.scope ?_ | refine Abs.Ev.condY (Abs.get_same _ _ _) ?_ | refine Abs.Ev.condN (Abs.get_same _ _ _) ?_ | refine Abs.Ev.step' rfl rfl rfl ?_ | refine Abs.Ev.stepG' rfl rfl rfl rfl ?_ | (refine Abs.Nx.go ?_; (first | simp (disch := first | omega | assumption) only [go_sem, g0, g1] | skip)) | fail)
        exact Body.ret rfl (res_one (get_same _ _ _)) (hd ▸ h)
      · have h2 : c ∈ cs := by simpa using h2
        rw [dropIn_cons, if_pos h2] at hd
        repeat (first | refine Abs.Ev.seq ?_ | refine Abs.Ev.region ?_ | refine Abs.Ev.block ?_ | refine Abs.Ev.skip ?_ | refine Abs.Ev.exit ?_ | refine Abs.Ev.ret ?_ | refine Abs.Ev.runNil ?_ | refine Abs.Ev.stepsNil ?_ | refine Abs.Seq.go ?_ | refine Abs.Seq.off ?_ | refine Abs.Blk.here ?_ | refine Abs.Blk.go ?_ | refine Abs.Blk.off rfl ?_ | refine Abs.Blk.ret ?_ | refine Abs.Ev.label ?_ | refine Abs.Ev.scope ?_ | refine Abs.Ev.condY (Abs.get_same _ _ _) ?_ | refine Abs.Ev.condN (Abs.get_same _ _ _) ?_ | refine Abs.Ev.step' rfl rfl rfl ?_ | refine Abs.Ev.stepG' rfl rfl rfl rfl ?_ | (refine Abs.Nx.go ?_; (first | simp (disch := first | omega | assumption) only [go_sem, g0, g1, Tryz.underlying9] | skip)) | fail)
        have hl2 : l.length ≤ 1073741824 := by simp at hl; omega
        refine ⟨l.length, by simp, rfl, _, l, rfl, ?_, ?_, rfl, hl2, hd⟩
        · simp (disch := first | omega | assumption) only [go_sem, ]; simp
        · simp (disch := first | omega | assumption) only [go_sem, g1]
  · have h1 := of_decide_eq_false h1
    have : l = [] := by cases l with
      | nil => rfl
      | cons c l => simp at h1
    subst this
    rw [← hd] at h
    repeat (first | refine Abs.Ev.seq ?_ | refine Abs.Ev.region ?_ | refine Abs.Ev.block ?_ | refine Abs.Ev.skip ?_ | refine Abs.Ev.exit ?_ | refine Abs.Ev.ret ?_ | refine Abs.Ev.runNil ?_ | refine Abs.Ev.stepsNil ?_ | refine Abs.Seq.go ?_ | refine Abs.Seq.off ?_ | refine Abs.Blk.here ?_ | refine Abs.Blk.go ?_ | refine Abs.Blk.off rfl ?_ | refine Abs.Blk.ret ?_ | refine Abs.Ev.label ?_ | refine Abs.Ev.scope ?_ | refine Abs.Ev.condY (Abs.get_same _ _ _) ?_ | refine Abs.Ev.condN (Abs.get_same _ _ _) ?_ | refine Abs.Ev.step' rfl rfl rfl ?_ | refine Abs.Ev.stepG' rfl rfl rfl rfl ?_ | (refine Abs.Nx.go ?_; (first | simp (disch := first | omega | assumption) only [go_sem, g0, g1] | skip)) | fail)
    exact Body.ret rfl (res_one (get_same _ _ _)) h
theorem dropIn_len (cs l : List UInt8) : (dropIn cs l).length ≤ l.length := by
  induction l with
  | nil => exact Nat.le_refl _
  | cons c l ih =>
    rw [dropIn_cons]
    split
    · simp; omega
    · exact Nat.le_refl _
theorem trimR_len (cs l : List UInt8) : (trimR cs l).length ≤ l.length := by
  unfold trimR
  have := dropIn_len cs l.reverse
  simpa using this
theorem right_ev (hs : Sm 289 = none) (hh : Sm 421 = none) {s : St} {b : Nat} {cs l0 : List UInt8} (hb : SetAt s b cs) (hlen : l0.length ≤ 1073741824) (h : Q (.val (.string ⟨⟨trimR cs l0⟩⟩) s)) :
    Ev Tryz.prog Sm (.inv (.fn (.func 289) #[]) [.string ⟨⟨l0⟩⟩, .pointer (some ⟨b, 0, none⟩)] s) Q := by
  refine Ev.func hs Tryz.func289 rfl (m := 22) rfl ?_
  simp only [Array.toList_empty, List.append_nil, ofList_cons, ofList_nil]
  repeat (first | refine Abs.Ev.seq ?_ | refine Abs.Ev.region ?_ | refine Abs.Ev.block ?_ | refine Abs.Ev.skip ?_ | refine Abs.Ev.exit ?_ | refine Abs.Ev.ret ?_ | refine Abs.Ev.runNil ?_ | refine Abs.Ev.stepsNil ?_ | refine Abs.Seq.go ?_ | refine Abs.Seq.off ?_ | refine Abs.Blk.here ?_ | refine Abs.Blk.go ?_ | refine Abs.Blk.off rfl ?_ | refine Abs.Blk.ret ?_ | refine Abs.Ev.label ?_ | refine Abs.Ev.scope ?_ | refine Abs.Ev.condY (Abs.get_same _ _ _) ?_ | refine Abs.Ev.condN (Abs.get_same _ _ _) ?_ | refine Abs.Ev.step' rfl rfl rfl ?_ | refine Abs.Ev.stepG' rfl rfl rfl rfl ?_ | (refine Abs.Nx.go ?_; (first | simp (disch := first | omega | assumption) only [go_sem, ] | skip)) | fail)
  refine Ev.loop (fun k a s' => s' = s ∧ ∃ T l, a = ⟨T, 22, []⟩ ∧ T.get 0 = some (.string ⟨⟨l⟩⟩) ∧ T.get 1 = some (.pointer (some ⟨b, 0, none⟩)) ∧ k = l.length ∧ l.length ≤ 1073741824 ∧ trimR cs l = trimR cs l0) (k := l0.length)
    ⟨rfl, _, l0, rfl, ?g0, ?g1, rfl, hlen, rfl⟩ ?_
  case g0 => simp (disch := first | omega | assumption) only [go_sem, ]
  case g1 => simp (disch := first | omega | assumption) only [go_sem, ]
  rintro m a s' ⟨rfl, T, l, rfl, g0, g1, rfl, hl, hd⟩
  repeat (first | refine Abs.Ev.seq ?_ | refine Abs.Ev.region ?_ | refine Abs.Ev.block ?_ | refine Abs.Ev.skip ?_ | refine Abs.Ev.exit ?_ | refine Abs.Ev.ret ?_ | refine Abs.Ev.runNil ?_ | refine Abs.Ev.stepsNil ?_ | refine Abs.Seq.go ?_ | refine Abs.Seq.off ?_ | refine Abs.Blk.here ?_ | refine Abs.Blk.go ?_ | refine Abs.Blk.off rfl ?_ | refine Abs.Blk.ret ?_ | refine Abs.Ev.label ?_ | refine Abs.Ev.scope ?_ | refine Abs.Ev.condY (Abs.get_same _ _ _) ?_ | refine Abs.Ev.condN (Abs.get_same _ _ _) ?_ | refine Abs.Ev.step' rfl rfl rfl ?_ | refine Abs.Ev.stepG' rfl rfl rfl rfl ?_ | (refine Abs.Nx.go ?_; (first | simp (disch := first | omega | assumption) only [go_sem, g0, Tryz.underlying9] | skip)) | fail)
  refine Ev.condT (get_same _ _ _) (fun h1 => ?_) (fun h1 => ?_)
  · rcases List.eq_nil_or_concat l with rfl | ⟨l, c, rfl⟩
    · simp at h1
    · rw [List.concat_eq_append] at *
      obtain ⟨cells, q1, q2⟩ := hb.cell
      have q3 := q2 c.toNat c.toNat_lt
      rw [UInt8.ofNat_toNat] at q3
      have hlc : (l ++ [c]).length = l.length + 1 := by simp
      have hat : (l ++ [c])[l.length]? = some c := by simp
      have hcut : (l ++ [c]).take l.length = l := by simp
      repeat (first | refine Abs.Ev.seq ?_ | refine Abs.Ev.region ?_ | refine Abs.Ev.block ?_ | refine Abs.Ev.skip ?_ | refine Abs.Ev.exit ?_ | refine Abs.Ev.ret ?_ | refine Abs.Ev.runNil ?_ | refine Abs.Ev.stepsNil ?_ | refine Abs.Seq.go ?_ | refine Abs.Seq.off ?_ | refine Abs.Blk.here ?_ | refine Abs.Blk.go ?_ | refine Abs.Blk.off rfl ?_ | refine Abs.Blk.ret ?_ | refine Abs.Ev.label ?_ | refine Abs.Ev.scope ?_ | refine Abs.Ev.condY (Abs.get_same _ _ _) ?_ | refine Abs.Ev.condN (Abs.get_same _ _ _) ?_ | refine Abs.Ev.step' rfl rfl rfl ?_ | refine Abs.Ev.stepG' rfl rfl rfl rfl ?_ | (refine Abs.Nx.go ?_; (first | simp (disch := first | omega | assumption) only [go_sem, g0, g1, Tryz.underlying9, hlc, Int.natCast_add, Int.natCast_one, Int.add_sub_cancel, hat] | skip)) | fail)
      (refine Abs.Ev.callF rfl ?_; simp (disch := first | omega | assumption) only [go_sem, g0, g1])
      refine has_ev hh q1 c.toNat_lt q3 ⟨_, _, rfl, ?_⟩
      repeat (first | refine Abs.Ev.seq ?_ | refine Abs.Ev.region ?_ | refine Abs.Ev.block ?_ | refine Abs.Ev.skip ?_ | refine Abs.Ev.exit ?_ | refine Abs.Ev.ret ?_ | refine Abs.Ev.runNil ?_ | refine Abs.Ev.stepsNil ?_ | refine Abs.Seq.go ?_ | refine Abs.Seq.off ?_ | refine Abs.Blk.here ?_ | refine Abs.Blk.go ?_ | refine Abs.Blk.off rfl ?_ | refine Abs.Blk.ret ?_ | refine Abs.Ev.label ?_ | refine Abs.Ev.scope ?_ | refine Abs.Ev.condY (Abs.get_same _ _ _) ?_ | refine Abs.Ev.condN (Abs.get_same _ _ _) ?_ | refine Abs.Ev.step' rfl rfl rfl ?_ | refine Abs.Ev.stepG' rfl rfl rfl rfl ?_ | (refine Abs.Nx.go ?_; (first | simp (disch := first | omega | assumption) only [go_sem, g0, g1] | skip)) | fail)
      refine Ev.condT (get_same _ _ _) (fun h2 => ?_) (fun h2 => ?_)
      · have h2 : ¬ c ∈ cs := by simpa using h2
        rw [trimR_snoc, if_neg h2] at hd
        repeat (first | refine Abs.Ev.seq ?_ | refine Abs.Ev.region ?_ | refine Abs.Ev.block ?_ | refine Abs.Ev.skip ?_ | refine Abs.Ev.exit ?_ | refine Abs.Ev.ret ?_ | refine Abs.Ev.runNil ?_ | refine Abs.Ev.stepsNil ?_ | refine Abs.Seq.go ?_ | refine Abs.Seq.off ?_ | refine Abs.Blk.here ?_ | refine Abs.Blk.go ?_ | refine Abs.Blk.off rfl ?_ | refine Abs.Blk.ret ?_ | refine Abs.Ev.label ?_ | refine Abs.Ev.scope ?_ | refine Abs.Ev.condY (Abs.get_same _ _ _) ?_ | refine Abs.Ev.condN (Abs.get_same _ _ _) ?_ | refine Abs.Ev.step' rfl rfl rfl ?_ | refine Abs.Ev.stepG' rfl rfl rfl rfl ?_ | (refine Abs.Nx.go ?_; (first | simp (disch := first | omega | assumption) only [go_sem, g0, g1] | skip)) | fail)
        exact Body.ret rfl (res_one (get_same _ _ _)) (hd ▸ h)
      · have h2 : c ∈ cs := by simpa using h2
        rw [trimR_snoc, if_pos h2] at hd
        repeat (first | refine Abs.Ev.seq ?_ | refine Abs.Ev.region ?_ | refine Abs.Ev.block ?_ | refine Abs.Ev.skip ?_ | refine Abs.Ev.exit ?_ | refine Abs.Ev.ret ?_ | refine Abs.Ev.runNil ?_ | refine Abs.Ev.stepsNil ?_ | refine Abs.Seq.go ?_ | refine Abs.Seq.off ?_ | refine Abs.Blk.here ?_ | refine Abs.Blk.go ?_ | refine Abs.Blk.off rfl ?_ | refine Abs.Blk.ret ?_ | refine Abs.Ev.label ?_ | refine Abs.Ev.scope ?_ | refine Abs.Ev.condY (Abs.get_same _ _ _) ?_ | refine Abs.Ev.condN (Abs.get_same _ _ _) ?_ | refine Abs.Ev.step' rfl rfl rfl ?_ | refine Abs.Ev.stepG' rfl rfl rfl rfl ?_ | (refine Abs.Nx.go ?_; (first | simp (disch := first | omega | assumption) only [go_sem, g0, g1, Tryz.underlying9, hlc, Int.natCast_add, Int.natCast_one, Int.add_sub_cancel, hcut] | skip)) | fail)
        have hl2 : l.length ≤ 1073741824 := by omega
        refine ⟨l.length, by omega, rfl, _, l, rfl, ?_, ?_, rfl, hl2, hd⟩
        · simp (disch := first | omega | assumption) only [go_sem, ]
        · simp (disch := first | omega | assumption) only [go_sem, g1]
  · have h1 := of_decide_eq_false h1
    have : l = [] := by cases l with
      | nil => rfl
      | cons c l => simp at h1
    subst this
    rw [← hd] at h
    repeat (first | refine Abs.Ev.seq ?_ | refine Abs.Ev.region ?_ | refine Abs.Ev.block ?_ | refine Abs.Ev.skip ?_ | refine Abs.Ev.exit ?_ | refine Abs.Ev.ret ?_ | refine Abs.Ev.runNil ?_ | refine Abs.Ev.stepsNil ?_ | refine Abs.Seq.go ?_ | refine Abs.Seq.off ?_ | refine Abs.Blk.here ?_ | refine Abs.Blk.go ?_ | refine Abs.Blk.off rfl ?_ | refine Abs.Blk.ret ?_ | refine Abs.Ev.label ?_ | refine Abs.Ev.scope ?_ | refine Abs.Ev.condY (Abs.get_same _ _ _) ?_ | refine Abs.Ev.condN (Abs.get_same _ _ _) ?_ | refine Abs.Ev.step' rfl rfl rfl ?_ | refine Abs.Ev.stepG' rfl rfl rfl rfl ?_ | (refine Abs.Nx.go ?_; (first | simp (disch := first | omega | assumption) only [go_sem, g0, g1] | skip)) | fail)
    exact Body.ret rfl (res_one (get_same _ _ _)) h
theorem trim_says (hs : Sm 185 = none) (hl : Sm 288 = none) (hr : Sm 289 = none) (hm : Sm 287 = none) (hh : Sm 421 = none) : EvSays Tryz.prog Sm 185 sumTrim := by
  intro args s v s1 hwf h
  unfold sumTrim at h
  split at h <;> first | (cases h; done) | skip
  rename_i x cs
  obtain ⟨⟨x⟩⟩ := x
  obtain ⟨⟨cs⟩⟩ := cs
  simp only [ifb_and, ifb_blt, ifb_ble, lenN_eq, natK_eq] at h
  rw [ifb_eq] at h
  split at h <;> first | (cases h; done) | skip
  rename_i hlow
  split at h <;> first | (cases h; done) | skip
  rename_i hc1
  split at h <;> first | (cases h; done) | skip
  rename_i hx0
  split at h <;> first | (cases h; done) | skip
  rename_i hx1
  split at h <;> first | (cases h; done) | skip
  rename_i hc2
  obtain ⟨rfl, rfl⟩ : v = mkStr (dropIn cs (trimR cs x)) ∧ s1 = ⟨s.heap, s.next + 2⟩ := by cases h; exact ⟨rfl, rfl⟩
  clear h
  have ex : (x == []) = false := by cases x with
    | nil => simp at hx0
    | cons _ _ => rfl
  have ec : (cs == []) = false := by cases cs with
    | nil => simp at hc1
    | cons _ _ => rfl
  refine Ev.func hs Tryz.func185 rfl (m := 43) rfl ?_
  simp only [Array.toList_empty, List.append_nil, ofList_cons, ofList_nil]
  have e1 : decide ((cs.length : Int) = 1) = false := by simp; omega
  repeat (first | refine Abs.Ev.seq ?_ | refine Abs.Ev.region ?_ | refine Abs.Ev.block ?_ | refine Abs.Ev.skip ?_ | refine Abs.Ev.exit ?_ | refine Abs.Ev.ret ?_ | refine Abs.Ev.runNil ?_ | refine Abs.Ev.stepsNil ?_ | refine Abs.Seq.go ?_ | refine Abs.Seq.off ?_ | refine Abs.Blk.here ?_ | refine Abs.Blk.go ?_ | refine Abs.Blk.off rfl ?_ | refine Abs.Blk.ret ?_ | refine Abs.Ev.label ?_ | refine Abs.Ev.scope ?_ | refine Abs.Ev.condY (Abs.get_same _ _ _) ?_ | refine Abs.Ev.condN (Abs.get_same _ _ _) ?_ | refine Abs.Ev.step' rfl rfl rfl ?_ | refine Abs.Ev.stepG' rfl rfl rfl rfl ?_ | (refine Abs.Nx.go ?_; (first | simp (disch := first | omega | assumption) only [go_sem, ex, ec, e1, Tryz.underlying9] | skip)) | fail)
  (refine Abs.Ev.callF rfl ?_; simp (disch := first | omega | assumption) only [go_sem, ])
  refine make_ev hm hwf hlow hc2 fun l s2 hl256 hget hold hnx => ⟨_, _, rfl, ?_⟩
  have hone : l.all oneB = true := one_all fun i hi => by
    have := hget i (by omega)
    rw [List.getElem?_eq_getElem hi] at this
    rw [Option.some.inj this]
    rfl
  have hrep : (List.replicate 256 (Value.bool false)).length = 256 := List.length_replicate
  repeat (first | refine Abs.Ev.seq ?_ | refine Abs.Ev.region ?_ | refine Abs.Ev.block ?_ | refine Abs.Ev.skip ?_ | refine Abs.Ev.exit ?_ | refine Abs.Ev.ret ?_ | refine Abs.Ev.runNil ?_ | refine Abs.Ev.stepsNil ?_ | refine Abs.Seq.go ?_ | refine Abs.Seq.off ?_ | refine Abs.Blk.here ?_ | refine Abs.Blk.go ?_ | refine Abs.Blk.off rfl ?_ | refine Abs.Blk.ret ?_ | refine Abs.Ev.label ?_ | refine Abs.Ev.scope ?_ | refine Abs.Ev.condY (Abs.get_same _ _ _) ?_ | refine Abs.Ev.condN (Abs.get_same _ _ _) ?_ | refine Abs.Ev.step' rfl rfl rfl ?_ | refine Abs.Ev.stepG' rfl rfl rfl rfl ?_ | (refine Abs.Nx.go ?_; (first | simp (disch := first | omega | assumption) only [go_sem, Ty.sz436, Ty.ze436, hl256, hone] | skip)) | fail)
  have hset : SetAt ⟨(s2.heap.set s2.next (AObj.cells (List.replicate 256 (Value.bool false)) 436 0 false (0, 0))).set s2.next (AObj.cells l 436 0 false (0, 0)), s2.next + 1⟩ s2.next cs := ⟨l, _, _, get_same _ _ _, hget⟩
  have hkeep : ∀ b x, s.heap.get b = some x → ((s2.heap.set s2.next (AObj.cells (List.replicate 256 (Value.bool false)) 436 0 false (0, 0))).set s2.next (AObj.cells l 436 0 false (0, 0))).get b = some x := fun b x hx => by
    have := hwf b x hx
    rw [get_other _ _ _ _ (by omega), get_other _ _ _ _ (by omega)]
    exact hold b x hx
  generalize (s2.heap.set s2.next (AObj.cells (List.replicate 256 (Value.bool false)) 436 0 false (0, 0))).set s2.next (AObj.cells l 436 0 false (0, 0)) = h3 at hset hkeep ⊢
  repeat (first | refine Abs.Ev.seq ?_ | refine Abs.Ev.region ?_ | refine Abs.Ev.block ?_ | refine Abs.Ev.skip ?_ | refine Abs.Ev.exit ?_ | refine Abs.Ev.ret ?_ | refine Abs.Ev.runNil ?_ | refine Abs.Ev.stepsNil ?_ | refine Abs.Seq.go ?_ | refine Abs.Seq.off ?_ | refine Abs.Blk.here ?_ | refine Abs.Blk.go ?_ | refine Abs.Blk.off rfl ?_ | refine Abs.Blk.ret ?_ | refine Abs.Ev.label ?_ | refine Abs.Ev.scope ?_ | refine Abs.Ev.condY (Abs.get_same _ _ _) ?_ | refine Abs.Ev.condN (Abs.get_same _ _ _) ?_ | refine Abs.Ev.step' rfl rfl rfl ?_ | refine Abs.Ev.stepG' rfl rfl rfl rfl ?_ | (refine Abs.Nx.go ?_; (first | simp (disch := first | omega | assumption) only [go_sem, ] | skip)) | fail)
  (refine Abs.Ev.callF rfl ?_; simp (disch := first | omega | assumption) only [go_sem, ])
  refine right_ev hr hh hset hx1 ⟨_, _, rfl, ?_⟩
  repeat (first | refine Abs.Ev.seq ?_ | refine Abs.Ev.region ?_ | refine Abs.Ev.block ?_ | refine Abs.Ev.skip ?_ | refine Abs.Ev.exit ?_ | refine Abs.Ev.ret ?_ | refine Abs.Ev.runNil ?_ | refine Abs.Ev.stepsNil ?_ | refine Abs.Seq.go ?_ | refine Abs.Seq.off ?_ | refine Abs.Blk.here ?_ | refine Abs.Blk.go ?_ | refine Abs.Blk.off rfl ?_ | refine Abs.Blk.ret ?_ | refine Abs.Ev.label ?_ | refine Abs.Ev.scope ?_ | refine Abs.Ev.condY (Abs.get_same _ _ _) ?_ | refine Abs.Ev.condN (Abs.get_same _ _ _) ?_ | refine Abs.Ev.step' rfl rfl rfl ?_ | refine Abs.Ev.stepG' rfl rfl rfl rfl ?_ | (refine Abs.Nx.go ?_; (first | simp (disch := first | omega | assumption) only [go_sem, ] | skip)) | fail)
  (refine Abs.Ev.callF rfl ?_; simp (disch := first | omega | assumption) only [go_sem, ])
  refine left_ev hl hh hset ?_ ⟨_, _, rfl, ?_⟩
  · exact Nat.le_trans (trimR_len cs x) hx1
  repeat (first | refine Abs.Ev.seq ?_ | refine Abs.Ev.region ?_ | refine Abs.Ev.block ?_ | refine Abs.Ev.skip ?_ | refine Abs.Ev.exit ?_ | refine Abs.Ev.ret ?_ | refine Abs.Ev.runNil ?_ | refine Abs.Ev.stepsNil ?_ | refine Abs.Seq.go ?_ | refine Abs.Seq.off ?_ | refine Abs.Blk.here ?_ | refine Abs.Blk.go ?_ | refine Abs.Blk.off rfl ?_ | refine Abs.Blk.ret ?_ | refine Abs.Ev.label ?_ | refine Abs.Ev.scope ?_ | refine Abs.Ev.condY (Abs.get_same _ _ _) ?_ | refine Abs.Ev.condN (Abs.get_same _ _ _) ?_ | refine Abs.Ev.step' rfl rfl rfl ?_ | refine Abs.Ev.stepG' rfl rfl rfl rfl ?_ | (refine Abs.Nx.go ?_; (first | simp (disch := first | omega | assumption) only [go_sem, ] | skip)) | fail)
  refine Body.ret rfl (res_one (get_same _ _ _)) ⟨_, rfl, hkeep, ?_⟩
  show s2.next + 1 ≤ s.next + 2
  omega
end
end Go.Proofs.YtihplijjkcdcjaaGreatDoor

/-
  sha's rounds at the evaluator: what they answer.
-/
namespace Go.Proofs.YtihplijjkcdcjaaGreatDoor
open Abs
set_option maxHeartbeats 16000000
set_option maxRecDepth 20000
set_option linter.unusedSimpArgs false
attribute [local irreducible] Abs.Ev Abs.EvF Abs.EvO Abs.EvA Abs.Seq Abs.Blk Abs.Body Abs.Scp Abs.EvG Abs.EvAg Abs.Nx
attribute [local go_sem] Abs.eDelete
section
/-! ### plain -/
theorem rr_lt {x n m : Nat} (hx : x < 4294967296) : rr x n m < 4294967296 := by
  unfold rr
  refine Nat.or_lt_two_pow (n := 32) (Nat.mod_lt _ (by decide)) ?_
  show x >>> n < 2 ^ 32
  rw [Nat.shiftRight_eq_div_pow]
  exact Nat.lt_of_le_of_lt (Nat.div_le_self _ _) hx
theorem shr_lt {x : Nat} (n : Nat) (hx : x < 4294967296) : x >>> n < 4294967296 := by
  rw [Nat.shiftRight_eq_div_pow]
  exact Nat.lt_of_le_of_lt (Nat.div_le_self _ _) hx
theorem xor32_lt {x y : Nat} (hx : x < 4294967296) (hy : y < 4294967296) : x ^^^ y < 4294967296 := Nat.xor_lt_two_pow (n := 32) hx hy
theorem and32_lt {x y : Nat} (hx : x < 4294967296) : x &&& y < 4294967296 := Nat.lt_of_le_of_lt Nat.and_le_left hx
theorem or32_lt {x y : Nat} (hx : x < 4294967296) (hy : y < 4294967296) : x ||| y < 4294967296 := Nat.or_lt_two_pow (n := 32) hx hy
theorem add32_lt (a b : Nat) : add32 a b < 4294967296 := Nat.mod_lt _ (by decide)
theorem add32_eq (a b : Nat) : IntKind.u32.wrap ((a : Int) + (b : Int)) = ((add32 a b : Nat) : Int) := by
  unfold add32
  simp only [IntKind.wrap, IntKind.bits, IntKind.signed, Bool.false_and]
  simp
  rfl
structure V8 where
  a : Nat
  b : Nat
  c : Nat
  d : Nat
  e : Nat
  f : Nat
  g : Nat
  h : Nat
def V8.list (v : V8) : List Nat := [v.a, v.b, v.c, v.d, v.e, v.f, v.g, v.h]
structure V8.ok (v : V8) : Prop where
  a : v.a < 4294967296
  b : v.b < 4294967296
  c : v.c < 4294967296
  d : v.d < 4294967296
  e : v.e < 4294967296
  f : v.f < 4294967296
  g : v.g < 4294967296
  h : v.h < 4294967296
noncomputable def shStep (k w : Nat) (v : V8) : V8 :=
  ⟨add32 (shT k w v.e v.f v.g v.h) (shU v.a v.b v.c), v.a, v.b, v.c, add32 v.d (shT k w v.e v.f v.g v.h), v.e, v.f, v.g⟩
theorem shStep_ok {k w : Nat} {v : V8} (h : v.ok) : (shStep k w v).ok := ⟨add32_lt _ _, h.a, h.b, h.c, add32_lt _ _, h.e, h.f, h.g⟩
noncomputable def shW (m : Nat → Nat) (i : Nat) : Nat := if i < 16 then m i else shN (shW m (i - 16)) (shW m (i - 15)) (shW m (i - 7)) (shW m (i - 2))
termination_by i
decreasing_by all_goals omega
theorem shW_lt {m : Nat → Nat} (hm : ∀ i, i < 16 → m i < 4294967296) (i : Nat) : shW m i < 4294967296 := by
  rw [shW]
  split
  · exact hm i ‹_›
  · exact add32_lt _ _
theorem shW_next (m : Nat → Nat) (i : Nat) : shN (shW m i) (shW m (i + 1)) (shW m (i + 9)) (shW m (i + 14)) = shW m (i + 16) := by
  rw [shW.eq_1 m (i + 16), if_neg (by omega)]
  rfl
noncomputable def shV (m : Nat → Nat) : List Nat → Nat → V8 → V8
  | [], _, v => v
  | k :: ks, i, v => shV m ks (i + 1) (shStep k (shW m i) v)
theorem shaR_cons (k : Nat) (ks : List Nat) (w0 w1 w2 w3 w4 w5 w6 w7 w8 w9 w10 w11 w12 w13 w14 w15 a b c d e f g h : Nat) : shaR (k :: ks) w0 w1 w2 w3 w4 w5 w6 w7 w8 w9 w10 w11 w12 w13 w14 w15 a b c d e f g h = natK (shN w0 w1 w9 w14) fun w16 => natK (shT k w0 e f g h) fun t => natK (add32 t (shU a b c)) fun x => natK (add32 d t) fun y => shaR ks w1 w2 w3 w4 w5 w6 w7 w8 w9 w10 w11 w12 w13 w14 w15 w16 x a b c y e f g := rfl
theorem shaR_eq (m : Nat → Nat) (ks : List Nat) : ∀ (i : Nat) (v : V8), shaR ks (shW m i) (shW m (i + 1)) (shW m (i + 2)) (shW m (i + 3)) (shW m (i + 4)) (shW m (i + 5)) (shW m (i + 6)) (shW m (i + 7)) (shW m (i + 8)) (shW m (i + 9)) (shW m (i + 10)) (shW m (i + 11)) (shW m (i + 12)) (shW m (i + 13)) (shW m (i + 14)) (shW m (i + 15)) v.a v.b v.c v.d v.e v.f v.g v.h = (shV m ks i v).list := by
  induction ks with
  | nil => intro i v; rfl
  | cons k ks ih =>
    intro i v
    have h := ih (i + 1) (shStep k (shW m i) v)
    rw [Nat.add_assoc i 1 1, Nat.add_assoc i 1 2, Nat.add_assoc i 1 3, Nat.add_assoc i 1 4, Nat.add_assoc i 1 5, Nat.add_assoc i 1 6, Nat.add_assoc i 1 7, Nat.add_assoc i 1 8, Nat.add_assoc i 1 9, Nat.add_assoc i 1 10, Nat.add_assoc i 1 11, Nat.add_assoc i 1 12, Nat.add_assoc i 1 13, Nat.add_assoc i 1 14, Nat.add_assoc i 1 15, ← shW_next] at h
    rw [shaR_cons, natK_eq, natK_eq, natK_eq, natK_eq]
    exact h
theorem onU8_some {α : Type} {v : Value} {k : Nat → Option α} {r : α} (h : onU8 v k = some r) : ∃ b : Nat, b < 256 ∧ v = .int .u8 (b : Int) ∧ k b = some r := by
  unfold onU8 at h
  split at h
  · rename_i b
    rw [ifb_blt, natK_eq] at h
    split at h
    · exact ⟨b, ‹_›, rfl, h⟩
    · cases h
  · cases h
theorem onU32_some {α : Type} {v : Value} {k : Nat → Option α} {r : α} (h : onU32 v k = some r) : ∃ b : Nat, b < 4294967296 ∧ v = .int .u32 (b : Int) ∧ k b = some r := by
  unfold onU32 at h
  split at h
  · rename_i b
    rw [ifb_blt, natK_eq] at h
    split at h
    · exact ⟨b, ‹_›, rfl, h⟩
    · cases h
  · cases h
theorem tkU8_some {α : Type} {l : List Value} {k : Nat → List Value → Option α} {r : α} (h : tkU8 l k = some r) : ∃ b l', b < 256 ∧ l = .int .u8 ((b : Nat) : Int) :: l' ∧ k b l' = some r := by
  cases l with
  | nil => cases h
  | cons v l =>
    obtain ⟨b, h1, h2, h3⟩ := onU8_some h
    exact ⟨b, l, h1, by rw [h2], h3⟩
theorem words_some : ∀ {n : Nat} {l : List Value} {ws : List Nat}, words n l = some ws → ws.length = n ∧ ∀ i, i < n → ∃ a b c d, a < 256 ∧ b < 256 ∧ c < 256 ∧ d < 256 ∧ l[4 * i]? = some (.int .u8 ((a : Nat) : Int)) ∧ l[4 * i + 1]? = some (.int .u8 ((b : Nat) : Int)) ∧ l[4 * i + 2]? = some (.int .u8 ((c : Nat) : Int)) ∧ l[4 * i + 3]? = some (.int .u8 ((d : Nat) : Int)) ∧ ws[i]? = some (be32 a b c d) := by
  intro n
  induction n with
  | zero => intro l ws h; cases h; exact ⟨rfl, fun i hi => by omega⟩
  | succ n ih =>
    intro l ws h
    obtain ⟨a, l1, ha, rfl, k1⟩ := tkU8_some h
    obtain ⟨b, l2, hb, rfl, k2⟩ := tkU8_some k1
    obtain ⟨c, l3, hc, rfl, k3⟩ := tkU8_some k2
    obtain ⟨d, l4, hd, rfl, k4⟩ := tkU8_some k3
    rw [natK_eq] at k4
    have h' : (Option.rec none (fun ws => some (be32 a b c d :: ws)) (words n l4) : Option (List Nat)) = some ws := k4
    clear h k1 k2 k3 k4
    generalize hx : words n l4 = x at h'
    cases x with
    | none => cases h'
    | some us =>
      obtain ⟨h1, h2⟩ := ih hx
      cases h'
      refine ⟨by simp [h1], fun i hi => ?_⟩
      cases i with
      | zero => exact ⟨a, b, c, d, ha, hb, hc, hd, rfl, rfl, rfl, rfl, rfl⟩
      | succ i =>
        obtain ⟨a, b, c, d, q1, q2, q3, q4, q5, q6, q7, q8, q9⟩ := h2 i (by omega)
        exact ⟨a, b, c, d, q1, q2, q3, q4, q5, q6, q7, q8, q9⟩
theorem u32s_some : ∀ {l : List Value} {vs : List Nat}, u32s l = some vs → l = vs.map (fun x => .int .u32 ((x : Nat) : Int)) ∧ ∀ x ∈ vs, x < 4294967296 := by
  intro l
  induction l with
  | nil => intro vs h; cases h; exact ⟨rfl, fun x hx => by cases hx⟩
  | cons v l ih =>
    intro vs h
    obtain ⟨b, h1, rfl, k1⟩ := onU32_some h
    have h' : (Option.rec none (fun ws => some (b :: ws)) (u32s l) : Option (List Nat)) = some vs := k1
    clear h k1
    generalize hx : u32s l = x at h'
    cases x with
    | none => cases h'
    | some us =>
      cases h'
      obtain ⟨q1, q2⟩ := ih hx
      refine ⟨by rw [q1]; rfl, fun x hx => ?_⟩
      rcases List.mem_cons.1 hx with rfl | hx
      · exact h1
      · exact q2 x hx
theorem cut1_some {α : Type} {l : List Nat} {k : Nat → List Nat → Option α} {r : α} (h : cut1 l k = some r) : ∃ b l', l = b :: l' ∧ k b l' = some r := by
  cases l with
  | nil => cases h
  | cons b l => exact ⟨b, l, rfl, h⟩
theorem end0_some {α : Type} {l : List Nat} {x : Option α} {r : α} (h : end0 l x = some r) : l = [] ∧ x = some r := by
  cases l with
  | nil => exact ⟨rfl, h⟩
  | cons b l => cases h
theorem shaBlock_some {ks ws vs r : List Nat} (h : shaBlock ks ws vs = some r) : ∃ v : V8, vs = v.list ∧ r = (shV (fun i => ws.getD i 0) ks 0 v).list := by
  unfold shaBlock cut8 at h
  obtain ⟨w0, l0, rfl, k0⟩ := cut1_some h
  clear h
  obtain ⟨w1, l1, rfl, k1⟩ := cut1_some k0
  clear k0
  obtain ⟨w2, l2, rfl, k2⟩ := cut1_some k1
  clear k1
  obtain ⟨w3, l3, rfl, k3⟩ := cut1_some k2
  clear k2
  obtain ⟨w4, l4, rfl, k4⟩ := cut1_some k3
  clear k3
  obtain ⟨w5, l5, rfl, k5⟩ := cut1_some k4
  clear k4
  obtain ⟨w6, l6, rfl, k6⟩ := cut1_some k5
  clear k5
  obtain ⟨w7, l7, rfl, k7⟩ := cut1_some k6
  clear k6
  obtain ⟨w8, l8, rfl, k8⟩ := cut1_some k7
  clear k7
  obtain ⟨w9, l9, rfl, k9⟩ := cut1_some k8
  clear k8
  obtain ⟨w10, l10, rfl, k10⟩ := cut1_some k9
  clear k9
  obtain ⟨w11, l11, rfl, k11⟩ := cut1_some k10
  clear k10
  obtain ⟨w12, l12, rfl, k12⟩ := cut1_some k11
  clear k11
  obtain ⟨w13, l13, rfl, k13⟩ := cut1_some k12
  clear k12
  obtain ⟨w14, l14, rfl, k14⟩ := cut1_some k13
  clear k13
  obtain ⟨w15, l15, rfl, k15⟩ := cut1_some k14
  clear k14
  obtain ⟨rfl, k16⟩ := end0_some k15
  clear k15
  obtain ⟨a, m0, rfl, k17⟩ := cut1_some k16
  clear k16
  obtain ⟨b, m1, rfl, k18⟩ := cut1_some k17
  clear k17
  obtain ⟨c, m2, rfl, k19⟩ := cut1_some k18
  clear k18
  obtain ⟨d, m3, rfl, k20⟩ := cut1_some k19
  clear k19
  obtain ⟨e, m4, rfl, k21⟩ := cut1_some k20
  clear k20
  obtain ⟨f, m5, rfl, k22⟩ := cut1_some k21
  clear k21
  obtain ⟨g, m6, rfl, k23⟩ := cut1_some k22
  clear k22
  obtain ⟨h, m7, rfl, k24⟩ := cut1_some k23
  clear k23
  obtain ⟨rfl, k25⟩ := end0_some k24
  cases k25
  refine ⟨⟨a, b, c, d, e, f, g, h⟩, rfl, ?_⟩
  have q := shaR_eq (fun i => [w0, w1, w2, w3, w4, w5, w6, w7, w8, w9, w10, w11, w12, w13, w14, w15].getD i 0) ks 0 ⟨a, b, c, d, e, f, g, h⟩
  iterate 16 (rw [shW, if_pos (by omega)] at q)
  exact q
theorem addAll_eq (l : List Nat) : ∀ m : List Nat, addAll l m = (List.zipWith add32 l m).map fun x => .int .u32 ((x : Nat) : Int) := by
  induction l with
  | nil => intro m; rfl
  | cons x l ih =>
    intro m
    cases m with
    | nil => rfl
    | cons y m =>
      have h : addAll (x :: l) (y :: m) = natK (add32 x y) fun z => .int .u32 (Int.ofNat z) :: addAll l m := rfl
      rw [h, natK_eq, ih]
      rfl
def tab (n : Nat) (f : Nat → Value) : List Value := (List.range n).map f
theorem tab_len (n : Nat) (f : Nat → Value) : (tab n f).length = n := by simp [tab]
theorem tab_get {n : Nat} {f : Nat → Value} {i : Nat} (h : i < n) : (tab n f)[i]? = some (f i) := by simp [tab, h]
theorem tab_set (n : Nat) (f : Nat → Value) (i : Nat) (v : Value) : (tab n f).set i v = tab n fun j => if j = i then v else f j := by
  refine List.ext_getElem (by simp [tab]) fun j h1 h2 => ?_
  simp only [List.getElem_set, tab, List.getElem_map, List.getElem_range]
  by_cases h : i = j
  · subst h; simp
  · rw [if_neg h, if_neg (Ne.symm h)]
variable {Sm : Summ} {Q : Ans → Prop}
/-! ### the walk -/
theorem turn_ev (hs : Sm 416 = none) (hr : Sm 478 = none) {s : St} {x n : Nat} (hx : x < 4294967296) (h0 : 0 < n) (h1 : n < 32) (h : Q (.val (.int .u32 ((rr x n (32 - n) : Nat) : Int)) s)) :
    Ev Tryz.prog Sm (.inv (.fn (.func 416) #[]) [.int .u32 (x : Int), .int .i64 (n : Int)] s) Q := by
  refine Ev.func hs Tryz.func416 rfl (m := 9) rfl ?_
  simp only [Array.toList_empty, List.append_nil, ofList_cons, ofList_nil]
  have e0 : IntKind.i64.wrap (0 - (n : Int)) = 0 - (n : Int) := wrap_i64 _ (by omega) (by omega)
  (try (first | refine Abs.EvO.nx ?_ | refine Abs.EvA.nx ?_)); repeat' (first | refine Abs.Ev.seq ?_ | refine Abs.Ev.region ?_ | refine Abs.Ev.block ?_ | refine Abs.Ev.skip ?_ | refine Abs.Ev.exit ?_ | refine Abs.Ev.ret ?_ | refine Abs.Ev.runNil ?_ | refine Abs.Ev.stepsNil ?_ | refine Abs.Seq.go ?_ | refine Abs.Seq.off ?_ | refine Abs.Blk.here ?_ | refine Abs.Blk.go ?_ | refine Abs.Blk.off rfl ?_ | refine Abs.Blk.ret ?_ | refine Abs.Ev.label ?_ | refine Abs.Ev.scope ?_ | refine Abs.Ev.step' rfl rfl rfl ?_ | refine Abs.Ev.stepG' rfl rfl rfl rfl ?_ | refine Abs.Ev.condG' ?_ | refine Abs.Ev.goS' rfl rfl rfl rfl ?_ | refine Abs.Ev.goG' rfl rfl rfl rfl rfl ?_ | refine Abs.Ev.againS' rfl rfl rfl ?_ | refine Abs.Ev.newS' rfl rfl rfl ?_ | refine Abs.Ev.callF' rfl ?_ | refine Abs.Ev.callG' rfl rfl ?_ | refine Abs.Ev.goCall' rfl rfl ?_ | refine Abs.Body.retE rfl ?_ | refine Abs.Body.endE rfl ?_ | (refine Abs.Nx.go ?_; (first | simp (disch := first | omega | assumption) only [go_sem, e0, Tryz.underlying3, Ty.sz3, Ty.by3, Ty.ag3, Ty.ze3, Tryz.underlying4, Ty.sz4, Ty.by4, Ty.ag4, Ty.ze4, Tryz.underlying5, Ty.sz5, Ty.by5, Ty.ag5, Ty.ze5, Tryz.underlying9, Ty.sz9, Ty.by9, Ty.ag9, Ty.ze9, Tryz.underlying30, Ty.sz30, Ty.by30, Ty.ag30, Ty.ze30, Tryz.underlying94, Ty.sz94, Ty.by94, Ty.ag94, Ty.ze94, Tryz.underlying318, Ty.sz318, Ty.by318, Ty.ag318, Ty.ze318, Tryz.underlying425, Ty.sz425, Ty.by425, Ty.ag425, Ty.ze425, Tryz.underlying428, Ty.sz428, Ty.by428, Ty.ag428, Ty.ze428, Tryz.underlying436, Ty.sz436, Ty.by436, Ty.ag436, Ty.ze436] | skip)) | (refine ⟨fun hb => ?_, fun hb => ?_⟩ <;> first | (exfalso; omega) | skip) | fail)
  refine Ev.func hr Tryz.func478 rfl (m := 17) rfl ?_
  simp only [Array.toList_empty, List.append_nil, ofList_cons, ofList_nil]
  have e1 : IntKind.u64.wrap (0 - (n : Int)) = ((18446744073709551616 - n : Nat) : Int) := by
    simp only [IntKind.wrap, IntKind.bits, IntKind.signed, Bool.false_and]
    simp
    omega
  have e2 : (18446744073709551616 - n) &&& 31 = 32 - n := by
    rw [show 31 = 2 ^ 5 - 1 by rfl, Nat.and_two_pow_sub_one_eq_mod]
    omega
  have e3 : (32 - ((32 - n : Nat) : Int)).toNat = n := by omega
  have e4 := shr_lt n hx
  (try (first | refine Abs.EvO.nx ?_ | refine Abs.EvA.nx ?_)); repeat' (first | refine Abs.Ev.seq ?_ | refine Abs.Ev.region ?_ | refine Abs.Ev.block ?_ | refine Abs.Ev.skip ?_ | refine Abs.Ev.exit ?_ | refine Abs.Ev.ret ?_ | refine Abs.Ev.runNil ?_ | refine Abs.Ev.stepsNil ?_ | refine Abs.Seq.go ?_ | refine Abs.Seq.off ?_ | refine Abs.Blk.here ?_ | refine Abs.Blk.go ?_ | refine Abs.Blk.off rfl ?_ | refine Abs.Blk.ret ?_ | refine Abs.Ev.label ?_ | refine Abs.Ev.scope ?_ | refine Abs.Ev.step' rfl rfl rfl ?_ | refine Abs.Ev.stepG' rfl rfl rfl rfl ?_ | refine Abs.Ev.condG' ?_ | refine Abs.Ev.goS' rfl rfl rfl rfl ?_ | refine Abs.Ev.goG' rfl rfl rfl rfl rfl ?_ | refine Abs.Ev.againS' rfl rfl rfl ?_ | refine Abs.Ev.newS' rfl rfl rfl ?_ | refine Abs.Ev.callF' rfl ?_ | refine Abs.Ev.callG' rfl rfl ?_ | refine Abs.Ev.goCall' rfl rfl ?_ | refine Abs.Body.retE rfl ?_ | refine Abs.Body.endE rfl ?_ | (refine Abs.Nx.go ?_; (first | simp (disch := first | omega | assumption) only [go_sem, e1, e2, e3, Tryz.underlying3, Ty.sz3, Ty.by3, Ty.ag3, Ty.ze3, Tryz.underlying4, Ty.sz4, Ty.by4, Ty.ag4, Ty.ze4, Tryz.underlying5, Ty.sz5, Ty.by5, Ty.ag5, Ty.ze5, Tryz.underlying9, Ty.sz9, Ty.by9, Ty.ag9, Ty.ze9, Tryz.underlying30, Ty.sz30, Ty.by30, Ty.ag30, Ty.ze30, Tryz.underlying94, Ty.sz94, Ty.by94, Ty.ag94, Ty.ze94, Tryz.underlying318, Ty.sz318, Ty.by318, Ty.ag318, Ty.ze318, Tryz.underlying425, Ty.sz425, Ty.by425, Ty.ag425, Ty.ze425, Tryz.underlying428, Ty.sz428, Ty.by428, Ty.ag428, Ty.ze428, Tryz.underlying436, Ty.sz436, Ty.by436, Ty.ag436, Ty.ze436] | skip)) | (refine ⟨fun hb => ?_, fun hb => ?_⟩ <;> first | (exfalso; omega) | skip) | fail)
  have e5 : x <<< (32 - n) % 4294967296 < 4294967296 := Nat.mod_lt _ (by decide)
  have e6 : rr x n (32 - n) = x <<< (32 - n) % 4294967296 ||| x >>> n := rfl
  rw [e6] at h
  generalize x <<< (32 - n) % 4294967296 = y1 at *
  generalize x >>> n = y2 at *
  (try (first | refine Abs.EvO.nx ?_ | refine Abs.EvA.nx ?_)); repeat' (first | refine Abs.Ev.seq ?_ | refine Abs.Ev.region ?_ | refine Abs.Ev.block ?_ | refine Abs.Ev.skip ?_ | refine Abs.Ev.exit ?_ | refine Abs.Ev.ret ?_ | refine Abs.Ev.runNil ?_ | refine Abs.Ev.stepsNil ?_ | refine Abs.Seq.go ?_ | refine Abs.Seq.off ?_ | refine Abs.Blk.here ?_ | refine Abs.Blk.go ?_ | refine Abs.Blk.off rfl ?_ | refine Abs.Blk.ret ?_ | refine Abs.Ev.label ?_ | refine Abs.Ev.scope ?_ | refine Abs.Ev.step' rfl rfl rfl ?_ | refine Abs.Ev.stepG' rfl rfl rfl rfl ?_ | refine Abs.Ev.condG' ?_ | refine Abs.Ev.goS' rfl rfl rfl rfl ?_ | refine Abs.Ev.goG' rfl rfl rfl rfl rfl ?_ | refine Abs.Ev.againS' rfl rfl rfl ?_ | refine Abs.Ev.newS' rfl rfl rfl ?_ | refine Abs.Ev.callF' rfl ?_ | refine Abs.Ev.callG' rfl rfl ?_ | refine Abs.Ev.goCall' rfl rfl ?_ | refine Abs.Body.retE rfl ?_ | refine Abs.Body.endE rfl ?_ | (refine Abs.Nx.go ?_; (first | simp (disch := first | omega | assumption) only [go_sem, ] | skip)) | (refine ⟨fun hb => ?_, fun hb => ?_⟩ <;> first | (exfalso; omega) | skip) | fail)
  refine ⟨_, _, rfl, ?_⟩
  (try (first | refine Abs.EvO.nx ?_ | refine Abs.EvA.nx ?_)); repeat' (first | refine Abs.Ev.seq ?_ | refine Abs.Ev.region ?_ | refine Abs.Ev.block ?_ | refine Abs.Ev.skip ?_ | refine Abs.Ev.exit ?_ | refine Abs.Ev.ret ?_ | refine Abs.Ev.runNil ?_ | refine Abs.Ev.stepsNil ?_ | refine Abs.Seq.go ?_ | refine Abs.Seq.off ?_ | refine Abs.Blk.here ?_ | refine Abs.Blk.go ?_ | refine Abs.Blk.off rfl ?_ | refine Abs.Blk.ret ?_ | refine Abs.Ev.label ?_ | refine Abs.Ev.scope ?_ | refine Abs.Ev.step' rfl rfl rfl ?_ | refine Abs.Ev.stepG' rfl rfl rfl rfl ?_ | refine Abs.Ev.condG' ?_ | refine Abs.Ev.goS' rfl rfl rfl rfl ?_ | refine Abs.Ev.goG' rfl rfl rfl rfl rfl ?_ | refine Abs.Ev.againS' rfl rfl rfl ?_ | refine Abs.Ev.newS' rfl rfl rfl ?_ | refine Abs.Ev.callF' rfl ?_ | refine Abs.Ev.callG' rfl rfl ?_ | refine Abs.Ev.goCall' rfl rfl ?_ | refine Abs.Body.retE rfl ?_ | refine Abs.Body.endE rfl ?_ | (refine Abs.Nx.go ?_; (first | simp (disch := first | omega | assumption) only [go_sem, ] | skip)) | (refine ⟨fun hb => ?_, fun hb => ?_⟩ <;> first | (exfalso; omega) | skip) | fail)
  exact h
theorem z64 : zeroT Tryz.prog 425 = .ok (.agg ⟨tab 64 fun _ => .int .u32 0⟩) := Ty.ze425
theorem turn_evN (hs : Sm 416 = none) (hr : Sm 478 = none) {s : St} {x : Nat} {ni : Int} (n m : Nat) (hx : x < 4294967296) (h0 : 0 < n) (h1 : n < 32) (hm : m = 32 - n) (hn : ni = (n : Int)) {Q : Value → St → Prop} (h : Q (.int .u32 ((rr x n m : Nat) : Int)) s) :
    Ev Tryz.prog Sm (.inv (.fn (.func 416) #[]) [.int .u32 (x : Int), .int .i64 ni] s) fun r => ∃ v s', r = .val v s' ∧ Q v s' := by
  subst hm hn
  exact turn_ev hs hr hx h0 h1 ⟨_, _, rfl, h⟩
set_option maxRecDepth 20000 in
theorem cut_head (l : List Value) (i : Nat) : (cutN l i 1).bind (fun x => x.head?) = l[i]? := by
  rw [cutN_eq]
  split
  · rename_i h
    show ((l.drop i).take 1).head? = _
    rw [List.drop_eq_getElem_cons (by omega), List.getElem?_eq_getElem (by omega)]
    rfl
  · rename_i h
    rw [List.getElem?_eq_none (by omega)]
    rfl
theorem cut_eight (a b c d e f g h : Value) : cutN [a, b, c, d, e, f, g, h] 0 8 = some [a, b, c, d, e, f, g, h] := cut_all rfl
theorem build8 (a b c d e f g h : Int) : aBuild Tryz.prog 428 [(0, .int .u32 a), (1, .int .u32 b), (2, .int .u32 c), (3, .int .u32 d), (4, .int .u32 e), (5, .int .u32 f), (6, .int .u32 g), (7, .int .u32 h)] = .ok (.agg ⟨[.int .u32 a, .int .u32 b, .int .u32 c, .int .u32 d, .int .u32 e, .int .u32 f, .int .u32 g, .int .u32 h]⟩) := by kernel_rfl
theorem take_says (hs : Sm 278 = none) (ht : Sm 416 = none) (hr : Sm 478 = none) : EvSays Tryz.prog Sm 278 sumTake := by
  intro args s v s1 hwf h
  unfold sumTake at h
  split at h <;> first | (cases h; done) | skip
  rename_i sb b o c0 kb
  unfold sumTake2 at h
  split at h <;> first | (cases h; done) | skip
  rename_i vs e z hsb
  obtain ⟨kc, hkc, k1⟩ := Rs.bind_ok h
  obtain ⟨q, hq, k2⟩ := Rs.bind_ok k1
  unfold sumTake3 at k2
  obtain ⟨ws, hws, k3⟩ := Rs.bind_ok k2
  obtain ⟨ks, hks, k4⟩ := Rs.bind_ok k3
  obtain ⟨ns, hns, k5⟩ := Rs.bind_ok k4
  rw [ifb_beq, lenN_eq] at k5
  split at k5 <;> first | (cases k5; done) | skip
  rename_i hk64
  obtain ⟨r, hbl, k6⟩ := Rs.bind_ok k5
  rw [St.put_eq] at k6
  have k6 : Rs.ok (undefV, (⟨s.heap.set sb (.cells (addAll ns r) e z false (0, 0)), s.next + 2⟩ : St)) = .ok (v, s1) := by
    rw [← k6]
    exact (natK_eq (s.next + 2) fun n => Rs.ok (undefV, (⟨s.heap.set sb (.cells (addAll ns r) e z false (0, 0)), n⟩ : St))).symm
  clear h k1 k2 k3 k4 k5
  have hws := Rs.of_ok hws
  obtain ⟨hksl, hklt⟩ := u32s_some (Rs.of_ok hks)
  obtain ⟨hnsl, hnlt⟩ := u32s_some (Rs.of_ok hns)
  obtain ⟨hwl, hw⟩ := words_some hws
  obtain ⟨v8, rfl, rfl⟩ := shaBlock_some (Rs.of_ok hbl)
  have hcell : ∃ l, objCells (s.heap.get b) = .ok l ∧ cutN l o 64 = some q.2 := by
    simp only [srcCells, Nat.mul_one] at hq
    split at hq <;> first | (cases hq; done) | skip
    · obtain ⟨cs, h1, h2⟩ := Rs.bind_ok hq
      rename_i l _ _ _ _ hb
      cases h2
      exact ⟨l, by rw [hb]; rfl, Rs.of_ok h1⟩
    · obtain ⟨cs, h1, h2⟩ := Rs.bind_ok hq
      rename_i l _ hb
      cases h2
      exact ⟨l, by rw [hb]; rfl, Rs.of_ok h1⟩
  obtain ⟨l, hl, hcut⟩ := hcell
  obtain ⟨hn, hql⟩ := cutN_some hcut
  have hget : ∀ i, i < 64 → l[o + i]? = q.2[i]? := by
    intro i hi
    rw [hql, List.getElem?_take_of_lt hi, List.getElem?_drop]
  have hbb : b < s.next := by
    cases hb : s.heap.get b with
    | none => rw [hb] at hl; cases hl
    | some x => exact hwf _ _ hb
  have hkb : kb < s.next := by
    cases hb : s.heap.get kb with
    | none => rw [hb] at hkc; cases hkc
    | some x => exact hwf _ _ hb
  have hsbl := hwf _ _ hsb
  have hk : ∀ i (hi : i < 64), kc[i]? = some (.int .u32 ((ks[i]'(by omega) : Nat) : Int)) := by
    intro i hi
    rw [hksl, List.getElem?_map, List.getElem?_eq_getElem (by omega)]
    rfl
  generalize hm : (fun i => ws.getD i 0) = m at *
  have hm16 : ∀ i, i < 16 → m i < 4294967296 ∧ ∃ a b c d, a < 256 ∧ b < 256 ∧ c < 256 ∧ d < 256 ∧ l[o + 4 * i]? = some (.int .u8 ((a : Nat) : Int)) ∧ l[o + (4 * i + 1)]? = some (.int .u8 ((b : Nat) : Int)) ∧ l[o + (4 * i + 2)]? = some (.int .u8 ((c : Nat) : Int)) ∧ l[o + (4 * i + 3)]? = some (.int .u8 ((d : Nat) : Int)) ∧ m i = be32 a b c d := by
    intro i hi
    obtain ⟨a, b, c, d, q1, q2, q3, q4, q5, q6, q7, q8, q9⟩ := hw i hi
    rw [← hget _ (by omega)] at q5 q6 q7 q8
    have q0 : m i = be32 a b c d := by
      rw [← hm]
      show ws.getD i 0 = _
      rw [List.getD_eq_getElem?_getD, q9]
      rfl
    refine ⟨?_, a, b, c, d, q1, q2, q3, q4, q5, q6, q7, q8, q0⟩
    rw [q0]
    exact or32_lt (or32_lt (or32_lt (Nat.mod_lt _ (by decide)) (Nat.mod_lt _ (by decide))) (Nat.mod_lt _ (by decide))) (by omega)
  have hmlt0 : ∀ i, i < 16 → m i < 4294967296 := fun i hi => (hm16 i hi).1
  clear hcut hql hget hw hws hks hns hbl hq hwl
  refine Ev.func hs Tryz.func278 rfl (m := 199) rfl ?_
  simp only [Array.toList_empty, List.append_nil, ofList_cons, ofList_nil]
  (try (first | refine Abs.EvO.nx ?_ | refine Abs.EvA.nx ?_)); repeat' (first | refine Abs.Ev.seq ?_ | refine Abs.Ev.region ?_ | refine Abs.Ev.block ?_ | refine Abs.Ev.skip ?_ | refine Abs.Ev.exit ?_ | refine Abs.Ev.ret ?_ | refine Abs.Ev.runNil ?_ | refine Abs.Ev.stepsNil ?_ | refine Abs.Seq.go ?_ | refine Abs.Seq.off ?_ | refine Abs.Blk.here ?_ | refine Abs.Blk.go ?_ | refine Abs.Blk.off rfl ?_ | refine Abs.Blk.ret ?_ | refine Abs.Ev.label ?_ | refine Abs.Ev.scope ?_ | refine Abs.Ev.step' rfl rfl rfl ?_ | refine Abs.Ev.stepG' rfl rfl rfl rfl ?_ | refine Abs.Ev.condG' ?_ | refine Abs.Ev.goS' rfl rfl rfl rfl ?_ | refine Abs.Ev.goG' rfl rfl rfl rfl rfl ?_ | refine Abs.Ev.againS' rfl rfl rfl ?_ | refine Abs.Ev.newS' rfl rfl rfl ?_ | refine Abs.Ev.callF' rfl ?_ | refine Abs.Ev.callG' rfl rfl ?_ | refine Abs.Ev.goCall' rfl rfl ?_ | refine Abs.Body.retE rfl ?_ | refine Abs.Body.endE rfl ?_ | (refine Abs.Nx.go ?_; (first | simp (disch := first | omega | assumption) only [go_sem, z64] | skip)) | (refine ⟨fun hb => ?_, fun hb => ?_⟩ <;> first | (exfalso; omega) | skip) | fail)
  have hk0 := (Keep.refl hwf).new (.cells (tab 64 fun _ => .int .u32 0) 425 0 false (0, 0))
  -- the first sixteen words
  refine Ev.loop (fun k a s' => Keep s s' ∧ s'.next = s.next + 1 ∧ ∃ T i f, a = ⟨T, 199, []⟩ ∧ T.get 0 = some (.pointer (some ⟨sb, 0, none⟩)) ∧ T.get 1 = some (.slice (some ⟨b, o, none⟩) 64 c0) ∧ T.get 2 = some (.pointer (some ⟨kb, 0, none⟩)) ∧ T.get 6 = some (.pointer (some ⟨s.next, 0, none⟩)) ∧ T.get 19 = some (.int .i64 ((i : Nat) : Int)) ∧ i ≤ 16 ∧ s'.heap.get s.next = some (.cells (tab 64 f) 425 0 false (0, 0)) ∧ (∀ j, j < i → f j = .int .u32 ((m j : Nat) : Int)) ∧ k = 16 - i) (k := 16)
    ⟨hk0, rfl, _, 0, _, rfl, ?g0, ?g1, ?g2, ?g6, ?g19, by omega, get_same _ _ _, fun j hj => by omega, rfl⟩ ?_
  case g0 => simp (disch := first | omega | assumption) only [go_sem, ]
  case g1 => simp (disch := first | omega | assumption) only [go_sem, ]
  case g2 => simp (disch := first | omega | assumption) only [go_sem, ]
  case g6 => simp (disch := first | omega | assumption) only [go_sem, ]
  case g19 => simp (disch := first | omega | assumption) only [go_sem, ]; rfl
  rintro n1 a s' ⟨hK, hnx, T, i, f, rfl, g0, g1, g2, g6, g19, hi, hwc, hf, rfl⟩
  (try (first | refine Abs.EvO.nx ?_ | refine Abs.EvA.nx ?_)); repeat' (first | refine Abs.Ev.seq ?_ | refine Abs.Ev.region ?_ | refine Abs.Ev.block ?_ | refine Abs.Ev.skip ?_ | refine Abs.Ev.exit ?_ | refine Abs.Ev.ret ?_ | refine Abs.Ev.runNil ?_ | refine Abs.Ev.stepsNil ?_ | refine Abs.Seq.go ?_ | refine Abs.Seq.off ?_ | refine Abs.Blk.here ?_ | refine Abs.Blk.go ?_ | refine Abs.Blk.off rfl ?_ | refine Abs.Blk.ret ?_ | refine Abs.Ev.label ?_ | refine Abs.Ev.scope ?_ | refine Abs.Ev.step' rfl rfl rfl ?_ | refine Abs.Ev.stepG' rfl rfl rfl rfl ?_ | refine Abs.Ev.condG' ?_ | refine Abs.Ev.goS' rfl rfl rfl rfl ?_ | refine Abs.Ev.goG' rfl rfl rfl rfl rfl ?_ | refine Abs.Ev.againS' rfl rfl rfl ?_ | refine Abs.Ev.newS' rfl rfl rfl ?_ | refine Abs.Ev.callF' rfl ?_ | refine Abs.Ev.callG' rfl rfl ?_ | refine Abs.Ev.goCall' rfl rfl ?_ | refine Abs.Body.retE rfl ?_ | refine Abs.Body.endE rfl ?_ | (refine Abs.Nx.go ?_; (first | simp (disch := first | omega | assumption) only [go_sem, g0, g1, g2, g6, g19] | skip)) | (refine ⟨fun hb => ?_, fun hb => ?_⟩ <;> first | (exfalso; omega) | skip) | fail)
  · have hi16 : i < 16 := by omega
    --<
    obtain ⟨hmi, a0, a1, a2, a3, b0, b1, b2, b3, c1, c2, c3, c4, hbe⟩ := hm16 i hi16
    have hl' : objCells (s'.heap.get b) = .ok l := by
      cases hb : s.heap.get b with
      | none => rw [hb] at hl; cases hl
      | some x => rw [hK.old _ _ hb, ← hb]; exact hl
    have t0 : (4 * (i : Int)).toNat = 4 * i := by omega
    have t1 : (4 * (i : Int) + 1).toNat = 4 * i + 1 := by omega
    have t2 : (4 * (i : Int) + 2).toNat = 4 * i + 2 := by omega
    have t3 : (4 * (i : Int) + 3).toNat = 4 * i + 3 := by omega
    have d1 : a0 <<< 24 % 4294967296 ||| a1 <<< 16 % 4294967296 < 4294967296 := or32_lt (Nat.mod_lt _ (by decide)) (Nat.mod_lt _ (by decide))
    have d2 : a0 <<< 24 % 4294967296 ||| a1 <<< 16 % 4294967296 ||| a2 <<< 8 % 4294967296 < 4294967296 := or32_lt d1 (Nat.mod_lt _ (by decide))
    have d0 : a0 <<< 24 % 4294967296 ||| a1 <<< 16 % 4294967296 ||| a2 <<< 8 % 4294967296 ||| a3 = m i := hbe.symm
    refine Abs.Ev.regionD (n := 0) (l := [.go 0, .go 1, .go 2, .go 3, .go 4, .go 5, .go 6, .go 7, .go 8, .go 9, .go 10, .go 11, .go 12, .go 13, .go 14, .go 15, .go 16, .go 17, .go 18, .go 19, .go 20, .go 21, .go 22, .go 23, .go 24, .go 25, .go 26, .go 27, .go 28, .go 29, .go 30, .go 31, .go 32, .go 33, .go 34, .go 35]) (by kernel_rfl) ?_
    (try (first | refine Abs.EvO.nx ?_ | refine Abs.EvA.nx ?_)); repeat' (first | refine Abs.Ev.seq ?_ | refine Abs.Ev.region ?_ | refine Abs.Ev.block ?_ | refine Abs.Ev.skip ?_ | refine Abs.Ev.exit ?_ | refine Abs.Ev.ret ?_ | refine Abs.Ev.runNil ?_ | refine Abs.Ev.stepsNil ?_ | refine Abs.Seq.go ?_ | refine Abs.Seq.off ?_ | refine Abs.Blk.here ?_ | refine Abs.Blk.go ?_ | refine Abs.Blk.off rfl ?_ | refine Abs.Blk.ret ?_ | refine Abs.Ev.label ?_ | refine Abs.Ev.scope ?_ | refine Abs.Ev.step' rfl rfl rfl ?_ | refine Abs.Ev.stepG' rfl rfl rfl rfl ?_ | refine Abs.Ev.condG' ?_ | refine Abs.Ev.goS' rfl rfl rfl rfl ?_ | refine Abs.Ev.goG' rfl rfl rfl rfl rfl ?_ | refine Abs.Ev.againS' rfl rfl rfl ?_ | refine Abs.Ev.newS' rfl rfl rfl ?_ | refine Abs.Ev.callF' rfl ?_ | refine Abs.Ev.callG' rfl rfl ?_ | refine Abs.Ev.goCall' rfl rfl ?_ | refine Abs.Body.retE rfl ?_ | refine Abs.Body.endE rfl ?_ | (refine Abs.Nx.go ?_; (first | simp (disch := first | omega | assumption) only [go_sem, g0, g1, g2, g6, g19, t0, t1, t2, t3, hl', c1, c2, c3, c4, hwc, tab_len, d0, Tryz.underlying3, Ty.sz3, Ty.by3, Ty.ag3, Ty.ze3, Tryz.underlying4, Ty.sz4, Ty.by4, Ty.ag4, Ty.ze4, Tryz.underlying5, Ty.sz5, Ty.by5, Ty.ag5, Ty.ze5, Tryz.underlying9, Ty.sz9, Ty.by9, Ty.ag9, Ty.ze9, Tryz.underlying30, Ty.sz30, Ty.by30, Ty.ag30, Ty.ze30, Tryz.underlying94, Ty.sz94, Ty.by94, Ty.ag94, Ty.ze94, Tryz.underlying318, Ty.sz318, Ty.by318, Ty.ag318, Ty.ze318, Tryz.underlying425, Ty.sz425, Ty.by425, Ty.ag425, Ty.ze425, Tryz.underlying428, Ty.sz428, Ty.by428, Ty.ag428, Ty.ze428, Tryz.underlying436, Ty.sz436, Ty.by436, Ty.ag436, Ty.ze436] | skip)) | (refine ⟨fun hb => ?_, fun hb => ?_⟩ <;> first | (exfalso; omega) | skip) | fail)
    refine ⟨16 - (i + 1), by omega, hK.set (by omega) (by omega) hwf _, hnx, _, i + 1, fun j => if j = i then .int .u32 ((m i : Nat) : Int) else f j, rfl, ?_, ?_, ?_, ?_, ?_, by omega, ?_, fun j hj => ?_, rfl⟩
    · simp (disch := first | omega | assumption) only [go_sem, g0]
    · simp (disch := first | omega | assumption) only [go_sem, g1]
    · simp (disch := first | omega | assumption) only [go_sem, g2]
    · simp (disch := first | omega | assumption) only [go_sem, g6]
    · simp (disch := first | omega | assumption) only [go_sem, Int.natCast_add, Int.natCast_one]
    · show (s'.heap.set s.next _).get s.next = _
      rw [get_same, tab_set]
    · by_cases hji : j = i
      · subst hji; exact if_pos rfl
      · exact (if_neg hji).trans (hf j (by omega))
    -->
  · obtain rfl : i = 16 := by omega
    have hf2 : ∀ j, j < 16 → f j = .int .u32 ((shW m j : Nat) : Int) := fun j hj => by rw [hf j hj, shW, if_pos hj]
    (try (first | refine Abs.EvO.nx ?_ | refine Abs.EvA.nx ?_)); repeat' (first | refine Abs.Ev.seq ?_ | refine Abs.Ev.region ?_ | refine Abs.Ev.block ?_ | refine Abs.Ev.skip ?_ | refine Abs.Ev.exit ?_ | refine Abs.Ev.ret ?_ | refine Abs.Ev.runNil ?_ | refine Abs.Ev.stepsNil ?_ | refine Abs.Seq.go ?_ | refine Abs.Seq.off ?_ | refine Abs.Blk.here ?_ | refine Abs.Blk.go ?_ | refine Abs.Blk.off rfl ?_ | refine Abs.Blk.ret ?_ | refine Abs.Ev.label ?_ | refine Abs.Ev.scope ?_ | refine Abs.Ev.step' rfl rfl rfl ?_ | refine Abs.Ev.stepG' rfl rfl rfl rfl ?_ | refine Abs.Ev.condG' ?_ | refine Abs.Ev.goS' rfl rfl rfl rfl ?_ | refine Abs.Ev.goG' rfl rfl rfl rfl rfl ?_ | refine Abs.Ev.againS' rfl rfl rfl ?_ | refine Abs.Ev.newS' rfl rfl rfl ?_ | refine Abs.Ev.callF' rfl ?_ | refine Abs.Ev.callG' rfl rfl ?_ | refine Abs.Ev.goCall' rfl rfl ?_ | refine Abs.Body.retE rfl ?_ | refine Abs.Body.endE rfl ?_ | (refine Abs.Nx.go ?_; (first | simp (disch := first | omega | assumption) only [go_sem, ] | skip)) | (refine ⟨fun hb => ?_, fun hb => ?_⟩ <;> first | (exfalso; omega) | skip) | fail)
    -- the other words
    refine Ev.loop (fun k a s' => Keep s s' ∧ s'.next = s.next + 1 ∧ ∃ T i f, a = ⟨T, 199, []⟩ ∧ T.get 0 = some (.pointer (some ⟨sb, 0, none⟩)) ∧ T.get 2 = some (.pointer (some ⟨kb, 0, none⟩)) ∧ T.get 6 = some (.pointer (some ⟨s.next, 0, none⟩)) ∧ T.get 8 = some (.int .i64 ((i : Nat) : Int)) ∧ 16 ≤ i ∧ i ≤ 64 ∧ s'.heap.get s.next = some (.cells (tab 64 f) 425 0 false (0, 0)) ∧ (∀ j, j < i → f j = .int .u32 ((shW m j : Nat) : Int)) ∧ k = 64 - i) (k := 48)
      ⟨hK, hnx, _, 16, f, rfl, ?g0, ?g2, ?g6, ?g8, by omega, by omega, hwc, hf2, rfl⟩ ?_
    case g0 => simp (disch := first | omega | assumption) only [go_sem, g0]
    case g2 => simp (disch := first | omega | assumption) only [go_sem, g2]
    case g6 => simp (disch := first | omega | assumption) only [go_sem, g6]
    case g8 => simp (disch := first | omega | assumption) only [go_sem, ]; rfl
    clear g0 g1 g2 g6 g19 hwc hf2 hf hnx hK hi hm16 hm hl hn hbb f
    rintro n1 a s2 ⟨hK, hnx, T, i, f, rfl, g0, g2, g6, g8, hi0, hi, hwc, hf, rfl⟩
    have hmlt : ∀ j, shW m j < 4294967296 := shW_lt hmlt0
    (try (first | refine Abs.EvO.nx ?_ | refine Abs.EvA.nx ?_)); repeat' (first | refine Abs.Ev.seq ?_ | refine Abs.Ev.region ?_ | refine Abs.Ev.block ?_ | refine Abs.Ev.skip ?_ | refine Abs.Ev.exit ?_ | refine Abs.Ev.ret ?_ | refine Abs.Ev.runNil ?_ | refine Abs.Ev.stepsNil ?_ | refine Abs.Seq.go ?_ | refine Abs.Seq.off ?_ | refine Abs.Blk.here ?_ | refine Abs.Blk.go ?_ | refine Abs.Blk.off rfl ?_ | refine Abs.Blk.ret ?_ | refine Abs.Ev.label ?_ | refine Abs.Ev.scope ?_ | refine Abs.Ev.step' rfl rfl rfl ?_ | refine Abs.Ev.stepG' rfl rfl rfl rfl ?_ | refine Abs.Ev.condG' ?_ | refine Abs.Ev.goS' rfl rfl rfl rfl ?_ | refine Abs.Ev.goG' rfl rfl rfl rfl rfl ?_ | refine Abs.Ev.againS' rfl rfl rfl ?_ | refine Abs.Ev.newS' rfl rfl rfl ?_ | refine Abs.Ev.callF' rfl ?_ | refine Abs.Ev.callG' rfl rfl ?_ | refine Abs.Ev.goCall' rfl rfl ?_ | refine Abs.Body.retE rfl ?_ | refine Abs.Body.endE rfl ?_ | (refine Abs.Nx.go ?_; (first | simp (disch := first | omega | assumption) only [go_sem, g0, g2, g6, g8] | skip)) | (refine ⟨fun hb => ?_, fun hb => ?_⟩ <;> first | (exfalso; omega) | skip) | fail)
    · have hi64 : i < 64 := by omega
      --<
      have v2 : (tab 64 f)[i - 2]? = some (.int .u32 ((shW m (i - 2) : Nat) : Int)) := by rw [tab_get (by omega), hf _ (by omega)]
      have v7 : (tab 64 f)[i - 7]? = some (.int .u32 ((shW m (i - 7) : Nat) : Int)) := by rw [tab_get (by omega), hf _ (by omega)]
      have v15 : (tab 64 f)[i - 15]? = some (.int .u32 ((shW m (i - 15) : Nat) : Int)) := by rw [tab_get (by omega), hf _ (by omega)]
      have v16 : (tab 64 f)[i - 16]? = some (.int .u32 ((shW m (i - 16) : Nat) : Int)) := by rw [tab_get (by omega), hf _ (by omega)]
      have hx := shW_next m (i - 16)
      rw [show i - 16 + 1 = i - 15 by omega, show i - 16 + 9 = i - 7 by omega, show i - 16 + 14 = i - 2 by omega, show i - 16 + 16 = i by omega] at hx
      have l2 := hmlt (i - 2)
      have l7 := hmlt (i - 7)
      have l15 := hmlt (i - 15)
      have l16 := hmlt (i - 16)
      have hxl := hmlt i
      generalize shW m (i - 2) = x2 at *
      generalize shW m (i - 7) = x7 at *
      generalize shW m (i - 15) = x15 at *
      generalize shW m (i - 16) = x16 at *
      have t2 : ((i : Int) - 2).toNat = i - 2 := by omega
      have t7 : ((i : Int) - 7).toNat = i - 7 := by omega
      have t15 : ((i : Int) - 15).toNat = i - 15 := by omega
      have t16 : ((i : Int) - 16).toNat = i - 16 := by omega
      refine Abs.Ev.regionD (n := 0) (l := [.go 0, .go 1, .go 2, .go 3, .go 4, .go 5, .go 6, .go 7, .go 8, .go 9]) (by kernel_rfl) ?_
      (try (first | refine Abs.EvO.nx ?_ | refine Abs.EvA.nx ?_)); repeat' (first | refine Abs.Ev.seq ?_ | refine Abs.Ev.region ?_ | refine Abs.Ev.block ?_ | refine Abs.Ev.skip ?_ | refine Abs.Ev.exit ?_ | refine Abs.Ev.ret ?_ | refine Abs.Ev.runNil ?_ | refine Abs.Ev.stepsNil ?_ | refine Abs.Seq.go ?_ | refine Abs.Seq.off ?_ | refine Abs.Blk.here ?_ | refine Abs.Blk.go ?_ | refine Abs.Blk.off rfl ?_ | refine Abs.Blk.ret ?_ | refine Abs.Ev.label ?_ | refine Abs.Ev.scope ?_ | refine Abs.Ev.step' rfl rfl rfl ?_ | refine Abs.Ev.stepG' rfl rfl rfl rfl ?_ | refine Abs.Ev.condG' ?_ | refine Abs.Ev.goS' rfl rfl rfl rfl ?_ | refine Abs.Ev.goG' rfl rfl rfl rfl rfl ?_ | refine Abs.Ev.againS' rfl rfl rfl ?_ | refine Abs.Ev.newS' rfl rfl rfl ?_ | refine Abs.Ev.callF' rfl ?_ | refine Abs.Ev.callG' rfl rfl ?_ | refine Abs.Ev.goCall' rfl rfl ?_ | refine Abs.Body.retE rfl ?_ | refine Abs.Body.endE rfl ?_ | (refine Abs.Nx.go ?_; (first | simp (disch := first | omega | assumption) only [go_sem, g0, g2, g6, g8, t2, t7, t15, t16, hwc, v2, v7, v15, v16, tab_len, Tryz.underlying3, Ty.sz3, Ty.by3, Ty.ag3, Ty.ze3, Tryz.underlying4, Ty.sz4, Ty.by4, Ty.ag4, Ty.ze4, Tryz.underlying5, Ty.sz5, Ty.by5, Ty.ag5, Ty.ze5, Tryz.underlying9, Ty.sz9, Ty.by9, Ty.ag9, Ty.ze9, Tryz.underlying30, Ty.sz30, Ty.by30, Ty.ag30, Ty.ze30, Tryz.underlying94, Ty.sz94, Ty.by94, Ty.ag94, Ty.ze94, Tryz.underlying318, Ty.sz318, Ty.by318, Ty.ag318, Ty.ze318, Tryz.underlying425, Ty.sz425, Ty.by425, Ty.ag425, Ty.ze425, Tryz.underlying428, Ty.sz428, Ty.by428, Ty.ag428, Ty.ze428, Tryz.underlying436, Ty.sz436, Ty.by436, Ty.ag436, Ty.ze436] | skip)) | (refine ⟨fun hb => ?_, fun hb => ?_⟩ <;> first | (exfalso; omega) | skip) | fail)
      have r1 := rr_lt (n := 7) (m := 25) l15
      have r2 := rr_lt (n := 18) (m := 14) l15
      have r3 := shr_lt 3 l15
      have r4 := xor32_lt r1 r2
      have r5 := xor32_lt r4 r3
      have q1 := rr_lt (n := 17) (m := 15) l2
      have q2 := rr_lt (n := 19) (m := 13) l2
      have q3 := shr_lt 10 l2
      have q4 := xor32_lt q1 q2
      have q5 := xor32_lt q4 q3
      have hx : add32 (add32 (add32 x16 (rr x15 7 25 ^^^ rr x15 18 14 ^^^ x15 >>> 3)) x7) (rr x2 17 15 ^^^ rr x2 19 13 ^^^ x2 >>> 10) = shW m i := hx
      refine Abs.Ev.regionD (n := 0) (l := [.go 0, .go 1, .go 2, .go 3, .go 4, .go 5, .go 7, .go 10, .go 11, .go 14, .go 15, .go 16, .go 17, .go 19, .go 21, .go 24, .go 25, .go 6, .again 4, .again 17, .go 8, .again 4, .go 9, .go 12, .go 13, .again 17, .go 18, .go 20, .again 4, .again 17, .go 22, .again 4, .again 17, .go 23, .go 26, .go 27, .go 28, .go 29]) (by kernel_rfl) ?_
      (try (first | refine Abs.EvO.nx ?_ | refine Abs.EvA.nx ?_)); repeat' (first | refine Abs.Ev.seq ?_ | refine Abs.Ev.region ?_ | refine Abs.Ev.block ?_ | refine Abs.Ev.skip ?_ | refine Abs.Ev.exit ?_ | refine Abs.Ev.ret ?_ | refine Abs.Ev.runNil ?_ | refine Abs.Ev.stepsNil ?_ | refine Abs.Seq.go ?_ | refine Abs.Seq.off ?_ | refine Abs.Blk.here ?_ | refine Abs.Blk.go ?_ | refine Abs.Blk.off rfl ?_ | refine Abs.Blk.ret ?_ | refine Abs.Ev.label ?_ | refine Abs.Ev.scope ?_ | refine Abs.Ev.step' rfl rfl rfl ?_ | refine Abs.Ev.stepG' rfl rfl rfl rfl ?_ | refine Abs.Ev.condG' ?_ | refine Abs.Ev.goS' rfl rfl rfl rfl ?_ | refine Abs.Ev.goG' rfl rfl rfl rfl rfl ?_ | refine Abs.Ev.againS' rfl rfl rfl ?_ | refine Abs.Ev.newS' rfl rfl rfl ?_ | refine Abs.Ev.callF' rfl ?_ | refine Abs.Ev.callG' rfl rfl ?_ | refine Abs.Ev.goCall' rfl rfl ?_ | refine Abs.Body.retE rfl ?_ | refine Abs.Body.endE rfl ?_ | (refine Abs.Nx.go ?_; (first | simp (disch := first | omega | assumption) only [go_sem, g0, g2, g6, g8, t2, t7, t15, t16, hwc, v2, v7, v15, v16, tab_len, Tryz.underlying3, Ty.sz3, Ty.by3, Ty.ag3, Ty.ze3, Tryz.underlying4, Ty.sz4, Ty.by4, Ty.ag4, Ty.ze4, Tryz.underlying5, Ty.sz5, Ty.by5, Ty.ag5, Ty.ze5, Tryz.underlying9, Ty.sz9, Ty.by9, Ty.ag9, Ty.ze9, Tryz.underlying30, Ty.sz30, Ty.by30, Ty.ag30, Ty.ze30, Tryz.underlying94, Ty.sz94, Ty.by94, Ty.ag94, Ty.ze94, Tryz.underlying318, Ty.sz318, Ty.by318, Ty.ag318, Ty.ze318, Tryz.underlying425, Ty.sz425, Ty.by425, Ty.ag425, Ty.ze425, Tryz.underlying428, Ty.sz428, Ty.by428, Ty.ag428, Ty.ze428, Tryz.underlying436, Ty.sz436, Ty.by436, Ty.ag436, Ty.ze436] | skip)) | (refine ⟨fun hb => ?_, fun hb => ?_⟩ <;> first | (exfalso; omega) | skip) | fail)
      refine turn_evN ht hr 7 25 l15 (by decide) (by decide) rfl rfl ?_
      (try (first | refine Abs.EvO.nx ?_ | refine Abs.EvA.nx ?_)); repeat' (first | refine Abs.Ev.seq ?_ | refine Abs.Ev.region ?_ | refine Abs.Ev.block ?_ | refine Abs.Ev.skip ?_ | refine Abs.Ev.exit ?_ | refine Abs.Ev.ret ?_ | refine Abs.Ev.runNil ?_ | refine Abs.Ev.stepsNil ?_ | refine Abs.Seq.go ?_ | refine Abs.Seq.off ?_ | refine Abs.Blk.here ?_ | refine Abs.Blk.go ?_ | refine Abs.Blk.off rfl ?_ | refine Abs.Blk.ret ?_ | refine Abs.Ev.label ?_ | refine Abs.Ev.scope ?_ | refine Abs.Ev.step' rfl rfl rfl ?_ | refine Abs.Ev.stepG' rfl rfl rfl rfl ?_ | refine Abs.Ev.condG' ?_ | refine Abs.Ev.goS' rfl rfl rfl rfl ?_ | refine Abs.Ev.goG' rfl rfl rfl rfl rfl ?_ | refine Abs.Ev.againS' rfl rfl rfl ?_ | refine Abs.Ev.newS' rfl rfl rfl ?_ | refine Abs.Ev.callF' rfl ?_ | refine Abs.Ev.callG' rfl rfl ?_ | refine Abs.Ev.goCall' rfl rfl ?_ | refine Abs.Body.retE rfl ?_ | refine Abs.Body.endE rfl ?_ | (refine Abs.Nx.go ?_; (first | simp (disch := first | omega | assumption) only [go_sem, g0, g2, g6, g8, t2, t7, t15, t16, hwc, v2, v7, v15, v16, tab_len, Tryz.underlying3, Ty.sz3, Ty.by3, Ty.ag3, Ty.ze3, Tryz.underlying4, Ty.sz4, Ty.by4, Ty.ag4, Ty.ze4, Tryz.underlying5, Ty.sz5, Ty.by5, Ty.ag5, Ty.ze5, Tryz.underlying9, Ty.sz9, Ty.by9, Ty.ag9, Ty.ze9, Tryz.underlying30, Ty.sz30, Ty.by30, Ty.ag30, Ty.ze30, Tryz.underlying94, Ty.sz94, Ty.by94, Ty.ag94, Ty.ze94, Tryz.underlying318, Ty.sz318, Ty.by318, Ty.ag318, Ty.ze318, Tryz.underlying425, Ty.sz425, Ty.by425, Ty.ag425, Ty.ze425, Tryz.underlying428, Ty.sz428, Ty.by428, Ty.ag428, Ty.ze428, Tryz.underlying436, Ty.sz436, Ty.by436, Ty.ag436, Ty.ze436] | skip)) | (refine ⟨fun hb => ?_, fun hb => ?_⟩ <;> first | (exfalso; omega) | skip) | fail)
      refine turn_evN ht hr 18 14 l15 (by decide) (by decide) rfl rfl ?_
      (try (first | refine Abs.EvO.nx ?_ | refine Abs.EvA.nx ?_)); repeat' (first | refine Abs.Ev.seq ?_ | refine Abs.Ev.region ?_ | refine Abs.Ev.block ?_ | refine Abs.Ev.skip ?_ | refine Abs.Ev.exit ?_ | refine Abs.Ev.ret ?_ | refine Abs.Ev.runNil ?_ | refine Abs.Ev.stepsNil ?_ | refine Abs.Seq.go ?_ | refine Abs.Seq.off ?_ | refine Abs.Blk.here ?_ | refine Abs.Blk.go ?_ | refine Abs.Blk.off rfl ?_ | refine Abs.Blk.ret ?_ | refine Abs.Ev.label ?_ | refine Abs.Ev.scope ?_ | refine Abs.Ev.step' rfl rfl rfl ?_ | refine Abs.Ev.stepG' rfl rfl rfl rfl ?_ | refine Abs.Ev.condG' ?_ | refine Abs.Ev.goS' rfl rfl rfl rfl ?_ | refine Abs.Ev.goG' rfl rfl rfl rfl rfl ?_ | refine Abs.Ev.againS' rfl rfl rfl ?_ | refine Abs.Ev.newS' rfl rfl rfl ?_ | refine Abs.Ev.callF' rfl ?_ | refine Abs.Ev.callG' rfl rfl ?_ | refine Abs.Ev.goCall' rfl rfl ?_ | refine Abs.Body.retE rfl ?_ | refine Abs.Body.endE rfl ?_ | (refine Abs.Nx.go ?_; (first | simp (disch := first | omega | assumption) only [go_sem, g0, g2, g6, g8, t2, t7, t15, t16, hwc, v2, v7, v15, v16, tab_len, add32_eq, Tryz.underlying3, Ty.sz3, Ty.by3, Ty.ag3, Ty.ze3, Tryz.underlying4, Ty.sz4, Ty.by4, Ty.ag4, Ty.ze4, Tryz.underlying5, Ty.sz5, Ty.by5, Ty.ag5, Ty.ze5, Tryz.underlying9, Ty.sz9, Ty.by9, Ty.ag9, Ty.ze9, Tryz.underlying30, Ty.sz30, Ty.by30, Ty.ag30, Ty.ze30, Tryz.underlying94, Ty.sz94, Ty.by94, Ty.ag94, Ty.ze94, Tryz.underlying318, Ty.sz318, Ty.by318, Ty.ag318, Ty.ze318, Tryz.underlying425, Ty.sz425, Ty.by425, Ty.ag425, Ty.ze425, Tryz.underlying428, Ty.sz428, Ty.by428, Ty.ag428, Ty.ze428, Tryz.underlying436, Ty.sz436, Ty.by436, Ty.ag436, Ty.ze436] | skip)) | (refine ⟨fun hb => ?_, fun hb => ?_⟩ <;> first | (exfalso; omega) | skip) | fail)
      refine turn_evN ht hr 17 15 l2 (by decide) (by decide) rfl rfl ?_
      (try (first | refine Abs.EvO.nx ?_ | refine Abs.EvA.nx ?_)); repeat' (first | refine Abs.Ev.seq ?_ | refine Abs.Ev.region ?_ | refine Abs.Ev.block ?_ | refine Abs.Ev.skip ?_ | refine Abs.Ev.exit ?_ | refine Abs.Ev.ret ?_ | refine Abs.Ev.runNil ?_ | refine Abs.Ev.stepsNil ?_ | refine Abs.Seq.go ?_ | refine Abs.Seq.off ?_ | refine Abs.Blk.here ?_ | refine Abs.Blk.go ?_ | refine Abs.Blk.off rfl ?_ | refine Abs.Blk.ret ?_ | refine Abs.Ev.label ?_ | refine Abs.Ev.scope ?_ | refine Abs.Ev.step' rfl rfl rfl ?_ | refine Abs.Ev.stepG' rfl rfl rfl rfl ?_ | refine Abs.Ev.condG' ?_ | refine Abs.Ev.goS' rfl rfl rfl rfl ?_ | refine Abs.Ev.goG' rfl rfl rfl rfl rfl ?_ | refine Abs.Ev.againS' rfl rfl rfl ?_ | refine Abs.Ev.newS' rfl rfl rfl ?_ | refine Abs.Ev.callF' rfl ?_ | refine Abs.Ev.callG' rfl rfl ?_ | refine Abs.Ev.goCall' rfl rfl ?_ | refine Abs.Body.retE rfl ?_ | refine Abs.Body.endE rfl ?_ | (refine Abs.Nx.go ?_; (first | simp (disch := first | omega | assumption) only [go_sem, g0, g2, g6, g8, t2, t7, t15, t16, hwc, v2, v7, v15, v16, tab_len, add32_eq, Tryz.underlying3, Ty.sz3, Ty.by3, Ty.ag3, Ty.ze3, Tryz.underlying4, Ty.sz4, Ty.by4, Ty.ag4, Ty.ze4, Tryz.underlying5, Ty.sz5, Ty.by5, Ty.ag5, Ty.ze5, Tryz.underlying9, Ty.sz9, Ty.by9, Ty.ag9, Ty.ze9, Tryz.underlying30, Ty.sz30, Ty.by30, Ty.ag30, Ty.ze30, Tryz.underlying94, Ty.sz94, Ty.by94, Ty.ag94, Ty.ze94, Tryz.underlying318, Ty.sz318, Ty.by318, Ty.ag318, Ty.ze318, Tryz.underlying425, Ty.sz425, Ty.by425, Ty.ag425, Ty.ze425, Tryz.underlying428, Ty.sz428, Ty.by428, Ty.ag428, Ty.ze428, Tryz.underlying436, Ty.sz436, Ty.by436, Ty.ag436, Ty.ze436] | skip)) | (refine ⟨fun hb => ?_, fun hb => ?_⟩ <;> first | (exfalso; omega) | skip) | fail)
      refine turn_evN ht hr 19 13 l2 (by decide) (by decide) rfl rfl ?_
      (try (first | refine Abs.EvO.nx ?_ | refine Abs.EvA.nx ?_)); repeat' (first | refine Abs.Ev.seq ?_ | refine Abs.Ev.region ?_ | refine Abs.Ev.block ?_ | refine Abs.Ev.skip ?_ | refine Abs.Ev.exit ?_ | refine Abs.Ev.ret ?_ | refine Abs.Ev.runNil ?_ | refine Abs.Ev.stepsNil ?_ | refine Abs.Seq.go ?_ | refine Abs.Seq.off ?_ | refine Abs.Blk.here ?_ | refine Abs.Blk.go ?_ | refine Abs.Blk.off rfl ?_ | refine Abs.Blk.ret ?_ | refine Abs.Ev.label ?_ | refine Abs.Ev.scope ?_ | refine Abs.Ev.step' rfl rfl rfl ?_ | refine Abs.Ev.stepG' rfl rfl rfl rfl ?_ | refine Abs.Ev.condG' ?_ | refine Abs.Ev.goS' rfl rfl rfl rfl ?_ | refine Abs.Ev.goG' rfl rfl rfl rfl rfl ?_ | refine Abs.Ev.againS' rfl rfl rfl ?_ | refine Abs.Ev.newS' rfl rfl rfl ?_ | refine Abs.Ev.callF' rfl ?_ | refine Abs.Ev.callG' rfl rfl ?_ | refine Abs.Ev.goCall' rfl rfl ?_ | refine Abs.Body.retE rfl ?_ | refine Abs.Body.endE rfl ?_ | (refine Abs.Nx.go ?_; (first | simp (disch := first | omega | assumption) only [go_sem, g0, g2, g6, g8, t2, t7, t15, t16, hwc, v2, v7, v15, v16, tab_len, add32_eq, hx, Tryz.underlying3, Ty.sz3, Ty.by3, Ty.ag3, Ty.ze3, Tryz.underlying4, Ty.sz4, Ty.by4, Ty.ag4, Ty.ze4, Tryz.underlying5, Ty.sz5, Ty.by5, Ty.ag5, Ty.ze5, Tryz.underlying9, Ty.sz9, Ty.by9, Ty.ag9, Ty.ze9, Tryz.underlying30, Ty.sz30, Ty.by30, Ty.ag30, Ty.ze30, Tryz.underlying94, Ty.sz94, Ty.by94, Ty.ag94, Ty.ze94, Tryz.underlying318, Ty.sz318, Ty.by318, Ty.ag318, Ty.ze318, Tryz.underlying425, Ty.sz425, Ty.by425, Ty.ag425, Ty.ze425, Tryz.underlying428, Ty.sz428, Ty.by428, Ty.ag428, Ty.ze428, Tryz.underlying436, Ty.sz436, Ty.by436, Ty.ag436, Ty.ze436] | skip)) | (refine ⟨fun hb => ?_, fun hb => ?_⟩ <;> first | (exfalso; omega) | skip) | fail)
      refine ⟨64 - (i + 1), by omega, hK.set (by omega) (by omega) hwf _, hnx, _, i + 1, fun j => if j = i then .int .u32 ((shW m i : Nat) : Int) else f j, rfl, ?_, ?_, ?_, ?_, by omega, by omega, ?_, fun j hj => ?_, rfl⟩
      · simp (disch := first | omega | assumption) only [go_sem, g0]
      · simp (disch := first | omega | assumption) only [go_sem, g2]
      · simp (disch := first | omega | assumption) only [go_sem, g6]
      · simp (disch := first | omega | assumption) only [go_sem, Int.natCast_add, Int.natCast_one]
      · show (s2.heap.set s.next _).get s.next = _
        rw [get_same, tab_set]
      · by_cases hji : j = i
        · subst hji; exact if_pos rfl
        · exact (if_neg hji).trans (hf j (by omega))
      -->
    · obtain rfl : i = 64 := by omega
      have hsb2 := hK.old _ _ hsb
      have hvl : vs.length = 8 := by rw [hnsl]; rfl
      have hc8 : cutN vs 0 8 = some vs := cut_all hvl
      have hva : vs.all oneB = true := by rw [hnsl]; rfl
      (try (first | refine Abs.EvO.nx ?_ | refine Abs.EvA.nx ?_)); repeat' (first | refine Abs.Ev.seq ?_ | refine Abs.Ev.region ?_ | refine Abs.Ev.block ?_ | refine Abs.Ev.skip ?_ | refine Abs.Ev.exit ?_ | refine Abs.Ev.ret ?_ | refine Abs.Ev.runNil ?_ | refine Abs.Ev.stepsNil ?_ | refine Abs.Seq.go ?_ | refine Abs.Seq.off ?_ | refine Abs.Blk.here ?_ | refine Abs.Blk.go ?_ | refine Abs.Blk.off rfl ?_ | refine Abs.Blk.ret ?_ | refine Abs.Ev.label ?_ | refine Abs.Ev.scope ?_ | refine Abs.Ev.step' rfl rfl rfl ?_ | refine Abs.Ev.stepG' rfl rfl rfl rfl ?_ | refine Abs.Ev.condG' ?_ | refine Abs.Ev.goS' rfl rfl rfl rfl ?_ | refine Abs.Ev.goG' rfl rfl rfl rfl rfl ?_ | refine Abs.Ev.againS' rfl rfl rfl ?_ | refine Abs.Ev.newS' rfl rfl rfl ?_ | refine Abs.Ev.callF' rfl ?_ | refine Abs.Ev.callG' rfl rfl ?_ | refine Abs.Ev.goCall' rfl rfl ?_ | refine Abs.Body.retE rfl ?_ | refine Abs.Body.endE rfl ?_ | (refine Abs.Nx.go ?_; (first | simp (disch := first | omega | assumption) only [go_sem, g0, g2, g6, g8, hsb2, hvl, hc8, hva, Tryz.underlying3, Ty.sz3, Ty.by3, Ty.ag3, Ty.ze3, Tryz.underlying4, Ty.sz4, Ty.by4, Ty.ag4, Ty.ze4, Tryz.underlying5, Ty.sz5, Ty.by5, Ty.ag5, Ty.ze5, Tryz.underlying9, Ty.sz9, Ty.by9, Ty.ag9, Ty.ze9, Tryz.underlying30, Ty.sz30, Ty.by30, Ty.ag30, Ty.ze30, Tryz.underlying94, Ty.sz94, Ty.by94, Ty.ag94, Ty.ze94, Tryz.underlying318, Ty.sz318, Ty.by318, Ty.ag318, Ty.ze318, Tryz.underlying425, Ty.sz425, Ty.by425, Ty.ag425, Ty.ze425, Tryz.underlying428, Ty.sz428, Ty.by428, Ty.ag428, Ty.ze428, Tryz.underlying436, Ty.sz436, Ty.by436, Ty.ag436, Ty.ze436] | skip)) | (refine ⟨fun hb => ?_, fun hb => ?_⟩ <;> first | (exfalso; omega) | skip) | fail)
      have hK3 := (hK.new (.cells [.int .u32 0, .int .u32 0, .int .u32 0, .int .u32 0, .int .u32 0, .int .u32 0, .int .u32 0, .int .u32 0] 428 0 false (0, 0))).set (b := s2.next) (by omega) (Nat.lt_succ_self _) hwf (.cells vs 428 0 false (0, 0))
      have hokv : v8.ok := ⟨hnlt _ (by simp [V8.list]), hnlt _ (by simp [V8.list]), hnlt _ (by simp [V8.list]), hnlt _ (by simp [V8.list]), hnlt _ (by simp [V8.list]), hnlt _ (by simp [V8.list]), hnlt _ (by simp [V8.list]), hnlt _ (by simp [V8.list])⟩
      generalize hR : shV m ks 0 v8 = R at *
      -- the rounds
      refine Ev.loop (fun k a s' => Keep s s' ∧ s'.next = s.next + 2 ∧ ∃ T i v, a = ⟨T, 199, []⟩ ∧ T.get 0 = some (.pointer (some ⟨sb, 0, none⟩)) ∧ T.get 2 = some (.pointer (some ⟨kb, 0, none⟩)) ∧ T.get 6 = some (.pointer (some ⟨s.next, 0, none⟩)) ∧ T.get 11 = some (.pointer (some ⟨s.next + 1, 0, none⟩)) ∧ T.get 102 = some (.int .i64 ((i : Nat) : Int)) ∧ i ≤ 64 ∧ s'.heap.get s.next = some (.cells (tab 64 f) 425 0 false (0, 0)) ∧ s'.heap.get (s.next + 1) = some (.cells (v.list.map fun x => .int .u32 ((x : Nat) : Int)) 428 0 false (0, 0)) ∧ v.ok ∧ shV m (ks.drop i) i v = R ∧ k = 64 - i) (k := 64)
        ⟨hK3, by show s2.next + 1 = _; omega, _, 0, v8, rfl, ?g0, ?g2, ?g6, ?g11, ?g102, by omega, ?gw, ?gv, hokv, hR, rfl⟩ ?_
      case g0 => simp (disch := first | omega | assumption) only [go_sem, g0]
      case g2 => simp (disch := first | omega | assumption) only [go_sem, g2]
      case g6 => simp (disch := first | omega | assumption) only [go_sem, g6]
      case g11 => simp (disch := first | omega | assumption) only [go_sem, hnx]
      case g102 => simp (disch := first | omega | assumption) only [go_sem, ]; rfl
      case gw => rw [get_other _ _ _ _ (by omega), get_other _ _ _ _ (by omega)]; exact hwc
      case gv => rw [← hnsl, hnx]; exact get_same _ _ _
      clear hK3 g0 g2 g6 g8 hsb2 hc8 hva hwc hnx hK hi hi0 hR T s2
      rintro n1 a s3 ⟨hK, hnx, T, i, v0, rfl, g0, g2, g6, g11, g102, hi, hwc, hvc, hok, hgo, rfl⟩
      (try (first | refine Abs.EvO.nx ?_ | refine Abs.EvA.nx ?_)); repeat' (first | refine Abs.Ev.seq ?_ | refine Abs.Ev.region ?_ | refine Abs.Ev.block ?_ | refine Abs.Ev.skip ?_ | refine Abs.Ev.exit ?_ | refine Abs.Ev.ret ?_ | refine Abs.Ev.runNil ?_ | refine Abs.Ev.stepsNil ?_ | refine Abs.Seq.go ?_ | refine Abs.Seq.off ?_ | refine Abs.Blk.here ?_ | refine Abs.Blk.go ?_ | refine Abs.Blk.off rfl ?_ | refine Abs.Blk.ret ?_ | refine Abs.Ev.label ?_ | refine Abs.Ev.scope ?_ | refine Abs.Ev.step' rfl rfl rfl ?_ | refine Abs.Ev.stepG' rfl rfl rfl rfl ?_ | refine Abs.Ev.condG' ?_ | refine Abs.Ev.goS' rfl rfl rfl rfl ?_ | refine Abs.Ev.goG' rfl rfl rfl rfl rfl ?_ | refine Abs.Ev.againS' rfl rfl rfl ?_ | refine Abs.Ev.newS' rfl rfl rfl ?_ | refine Abs.Ev.callF' rfl ?_ | refine Abs.Ev.callG' rfl rfl ?_ | refine Abs.Ev.goCall' rfl rfl ?_ | refine Abs.Body.retE rfl ?_ | refine Abs.Body.endE rfl ?_ | (refine Abs.Nx.go ?_; (first | simp (disch := first | omega | assumption) only [go_sem, g0, g2, g6, g11, g102] | skip)) | (refine ⟨fun hb => ?_, fun hb => ?_⟩ <;> first | (exfalso; omega) | skip) | fail)
      · have hi64 : i < 64 := by omega
        --<
        have hd : ks.drop i = ks[i]'(by omega) :: ks.drop (i + 1) := List.drop_eq_getElem_cons (by omega)
        have hkc' : objCells (s3.heap.get kb) = .ok kc := by
          cases hb : s.heap.get kb with
          | none => rw [hb] at hkc; cases hkc
          | some x => rw [hK.old _ _ hb, ← hb]; exact hkc
        have hkv := hk i hi64
        have hkl := hklt _ (List.getElem_mem (show i < ks.length by omega))
        rw [hd] at hgo
        generalize ks[i]'(by omega) = kk at *
        have hwv : (tab 64 f)[i]? = some (.int .u32 ((shW m i : Nat) : Int)) := by rw [tab_get hi64, hf _ hi64]
        have hwl := hmlt i
        have hgo : shV m (ks.drop (i + 1)) (i + 1) (shStep kk (shW m i) v0) = R := hgo
        generalize shW m i = w at *
        obtain ⟨va, vb, vc, vd, ve, vf, vg, vh⟩ := v0
        obtain ⟨la, lb, lc, ld, le, lf, lg, lh⟩ := hok
        simp only [V8.list, List.map_cons, List.map_nil] at hvc la lb lc ld le lf lg lh
        have r1 := rr_lt (n := 6) (m := 26) le
        have r2 := rr_lt (n := 11) (m := 21) le
        have r3 := rr_lt (n := 25) (m := 7) le
        have r4 := xor32_lt r1 r2
        have r5 := xor32_lt r4 r3
        have u1 := and32_lt (y := vf) le
        have u2 := xor32_lt (x := 4294967295) (by decide) le
        have u3 := and32_lt (y := vg) u2
        have u4 := xor32_lt u1 u3
        refine Abs.Ev.regionD (n := 0) (l := [.go 0, .go 1, .go 2, .go 3, .go 4, .go 5]) (by kernel_rfl) ?_
        (try (first | refine Abs.EvO.nx ?_ | refine Abs.EvA.nx ?_)); repeat' (first | refine Abs.Ev.seq ?_ | refine Abs.Ev.region ?_ | refine Abs.Ev.block ?_ | refine Abs.Ev.skip ?_ | refine Abs.Ev.exit ?_ | refine Abs.Ev.ret ?_ | refine Abs.Ev.runNil ?_ | refine Abs.Ev.stepsNil ?_ | refine Abs.Seq.go ?_ | refine Abs.Seq.off ?_ | refine Abs.Blk.here ?_ | refine Abs.Blk.go ?_ | refine Abs.Blk.off rfl ?_ | refine Abs.Blk.ret ?_ | refine Abs.Ev.label ?_ | refine Abs.Ev.scope ?_ | refine Abs.Ev.step' rfl rfl rfl ?_ | refine Abs.Ev.stepG' rfl rfl rfl rfl ?_ | refine Abs.Ev.condG' ?_ | refine Abs.Ev.goS' rfl rfl rfl rfl ?_ | refine Abs.Ev.goG' rfl rfl rfl rfl rfl ?_ | refine Abs.Ev.againS' rfl rfl rfl ?_ | refine Abs.Ev.newS' rfl rfl rfl ?_ | refine Abs.Ev.callF' rfl ?_ | refine Abs.Ev.callG' rfl rfl ?_ | refine Abs.Ev.goCall' rfl rfl ?_ | refine Abs.Body.retE rfl ?_ | refine Abs.Body.endE rfl ?_ | (refine Abs.Nx.go ?_; (first | simp (disch := first | omega | assumption) only [go_sem, g0, g2, g6, g11, g102, hvc, Tryz.underlying3, Ty.sz3, Ty.by3, Ty.ag3, Ty.ze3, Tryz.underlying4, Ty.sz4, Ty.by4, Ty.ag4, Ty.ze4, Tryz.underlying5, Ty.sz5, Ty.by5, Ty.ag5, Ty.ze5, Tryz.underlying9, Ty.sz9, Ty.by9, Ty.ag9, Ty.ze9, Tryz.underlying30, Ty.sz30, Ty.by30, Ty.ag30, Ty.ze30, Tryz.underlying94, Ty.sz94, Ty.by94, Ty.ag94, Ty.ze94, Tryz.underlying318, Ty.sz318, Ty.by318, Ty.ag318, Ty.ze318, Tryz.underlying425, Ty.sz425, Ty.by425, Ty.ag425, Ty.ze425, Tryz.underlying428, Ty.sz428, Ty.by428, Ty.ag428, Ty.ze428, Tryz.underlying436, Ty.sz436, Ty.by436, Ty.ag436, Ty.ze436] | skip)) | (refine ⟨fun hb => ?_, fun hb => ?_⟩ <;> first | (exfalso; omega) | skip) | fail)
        refine Abs.Ev.regionD (n := 0) (l := [.go 0, .go 1, .go 2, .go 4, .go 7, .go 11, .go 12, .go 13, .go 14, .go 15, .go 16, .go 17, .go 18, .go 19, .go 20, .go 22, .go 23, .go 24, .go 25, .go 26, .go 28, .go 29, .go 30, .go 3, .again 1, .again 13, .again 18, .again 26, .again 30, .go 5, .again 1, .go 6, .again 13, .again 18, .again 26, .again 30, .go 8, .again 1, .go 9, .go 10, .again 13, .again 18, .go 21, .again 26, .go 27, .again 30, .go 31, .go 32]) (by kernel_rfl) ?_
        (try (first | refine Abs.EvO.nx ?_ | refine Abs.EvA.nx ?_)); repeat' (first | refine Abs.Ev.seq ?_ | refine Abs.Ev.region ?_ | refine Abs.Ev.block ?_ | refine Abs.Ev.skip ?_ | refine Abs.Ev.exit ?_ | refine Abs.Ev.ret ?_ | refine Abs.Ev.runNil ?_ | refine Abs.Ev.stepsNil ?_ | refine Abs.Seq.go ?_ | refine Abs.Seq.off ?_ | refine Abs.Blk.here ?_ | refine Abs.Blk.go ?_ | refine Abs.Blk.off rfl ?_ | refine Abs.Blk.ret ?_ | refine Abs.Ev.label ?_ | refine Abs.Ev.scope ?_ | refine Abs.Ev.step' rfl rfl rfl ?_ | refine Abs.Ev.stepG' rfl rfl rfl rfl ?_ | refine Abs.Ev.condG' ?_ | refine Abs.Ev.goS' rfl rfl rfl rfl ?_ | refine Abs.Ev.goG' rfl rfl rfl rfl rfl ?_ | refine Abs.Ev.againS' rfl rfl rfl ?_ | refine Abs.Ev.newS' rfl rfl rfl ?_ | refine Abs.Ev.callF' rfl ?_ | refine Abs.Ev.callG' rfl rfl ?_ | refine Abs.Ev.goCall' rfl rfl ?_ | refine Abs.Body.retE rfl ?_ | refine Abs.Body.endE rfl ?_ | (refine Abs.Nx.go ?_; (first | simp (disch := first | omega | assumption) only [go_sem, g0, g2, g6, g11, g102, hvc, hwc, hkc', hkv, hwv, tab_len, add32_eq, Tryz.underlying3, Ty.sz3, Ty.by3, Ty.ag3, Ty.ze3, Tryz.underlying4, Ty.sz4, Ty.by4, Ty.ag4, Ty.ze4, Tryz.underlying5, Ty.sz5, Ty.by5, Ty.ag5, Ty.ze5, Tryz.underlying9, Ty.sz9, Ty.by9, Ty.ag9, Ty.ze9, Tryz.underlying30, Ty.sz30, Ty.by30, Ty.ag30, Ty.ze30, Tryz.underlying94, Ty.sz94, Ty.by94, Ty.ag94, Ty.ze94, Tryz.underlying318, Ty.sz318, Ty.by318, Ty.ag318, Ty.ze318, Tryz.underlying425, Ty.sz425, Ty.by425, Ty.ag425, Ty.ze425, Tryz.underlying428, Ty.sz428, Ty.by428, Ty.ag428, Ty.ze428, Tryz.underlying436, Ty.sz436, Ty.by436, Ty.ag436, Ty.ze436] | skip)) | (refine ⟨fun hb => ?_, fun hb => ?_⟩ <;> first | (exfalso; omega) | skip) | fail)
        refine turn_evN ht hr 6 26 le (by decide) (by decide) rfl rfl ?_
        (try (first | refine Abs.EvO.nx ?_ | refine Abs.EvA.nx ?_)); repeat' (first | refine Abs.Ev.seq ?_ | refine Abs.Ev.region ?_ | refine Abs.Ev.block ?_ | refine Abs.Ev.skip ?_ | refine Abs.Ev.exit ?_ | refine Abs.Ev.ret ?_ | refine Abs.Ev.runNil ?_ | refine Abs.Ev.stepsNil ?_ | refine Abs.Seq.go ?_ | refine Abs.Seq.off ?_ | refine Abs.Blk.here ?_ | refine Abs.Blk.go ?_ | refine Abs.Blk.off rfl ?_ | refine Abs.Blk.ret ?_ | refine Abs.Ev.label ?_ | refine Abs.Ev.scope ?_ | refine Abs.Ev.step' rfl rfl rfl ?_ | refine Abs.Ev.stepG' rfl rfl rfl rfl ?_ | refine Abs.Ev.condG' ?_ | refine Abs.Ev.goS' rfl rfl rfl rfl ?_ | refine Abs.Ev.goG' rfl rfl rfl rfl rfl ?_ | refine Abs.Ev.againS' rfl rfl rfl ?_ | refine Abs.Ev.newS' rfl rfl rfl ?_ | refine Abs.Ev.callF' rfl ?_ | refine Abs.Ev.callG' rfl rfl ?_ | refine Abs.Ev.goCall' rfl rfl ?_ | refine Abs.Body.retE rfl ?_ | refine Abs.Body.endE rfl ?_ | (refine Abs.Nx.go ?_; (first | simp (disch := first | omega | assumption) only [go_sem, g0, g2, g6, g11, g102, hvc, hwc, hkc', hkv, hwv, tab_len, add32_eq, Tryz.underlying3, Ty.sz3, Ty.by3, Ty.ag3, Ty.ze3, Tryz.underlying4, Ty.sz4, Ty.by4, Ty.ag4, Ty.ze4, Tryz.underlying5, Ty.sz5, Ty.by5, Ty.ag5, Ty.ze5, Tryz.underlying9, Ty.sz9, Ty.by9, Ty.ag9, Ty.ze9, Tryz.underlying30, Ty.sz30, Ty.by30, Ty.ag30, Ty.ze30, Tryz.underlying94, Ty.sz94, Ty.by94, Ty.ag94, Ty.ze94, Tryz.underlying318, Ty.sz318, Ty.by318, Ty.ag318, Ty.ze318, Tryz.underlying425, Ty.sz425, Ty.by425, Ty.ag425, Ty.ze425, Tryz.underlying428, Ty.sz428, Ty.by428, Ty.ag428, Ty.ze428, Tryz.underlying436, Ty.sz436, Ty.by436, Ty.ag436, Ty.ze436] | skip)) | (refine ⟨fun hb => ?_, fun hb => ?_⟩ <;> first | (exfalso; omega) | skip) | fail)
        refine turn_evN ht hr 11 21 le (by decide) (by decide) rfl rfl ?_
        (try (first | refine Abs.EvO.nx ?_ | refine Abs.EvA.nx ?_)); repeat' (first | refine Abs.Ev.seq ?_ | refine Abs.Ev.region ?_ | refine Abs.Ev.block ?_ | refine Abs.Ev.skip ?_ | refine Abs.Ev.exit ?_ | refine Abs.Ev.ret ?_ | refine Abs.Ev.runNil ?_ | refine Abs.Ev.stepsNil ?_ | refine Abs.Seq.go ?_ | refine Abs.Seq.off ?_ | refine Abs.Blk.here ?_ | refine Abs.Blk.go ?_ | refine Abs.Blk.off rfl ?_ | refine Abs.Blk.ret ?_ | refine Abs.Ev.label ?_ | refine Abs.Ev.scope ?_ | refine Abs.Ev.step' rfl rfl rfl ?_ | refine Abs.Ev.stepG' rfl rfl rfl rfl ?_ | refine Abs.Ev.condG' ?_ | refine Abs.Ev.goS' rfl rfl rfl rfl ?_ | refine Abs.Ev.goG' rfl rfl rfl rfl rfl ?_ | refine Abs.Ev.againS' rfl rfl rfl ?_ | refine Abs.Ev.newS' rfl rfl rfl ?_ | refine Abs.Ev.callF' rfl ?_ | refine Abs.Ev.callG' rfl rfl ?_ | refine Abs.Ev.goCall' rfl rfl ?_ | refine Abs.Body.retE rfl ?_ | refine Abs.Body.endE rfl ?_ | (refine Abs.Nx.go ?_; (first | simp (disch := first | omega | assumption) only [go_sem, g0, g2, g6, g11, g102, hvc, hwc, hkc', hkv, hwv, tab_len, add32_eq, Tryz.underlying3, Ty.sz3, Ty.by3, Ty.ag3, Ty.ze3, Tryz.underlying4, Ty.sz4, Ty.by4, Ty.ag4, Ty.ze4, Tryz.underlying5, Ty.sz5, Ty.by5, Ty.ag5, Ty.ze5, Tryz.underlying9, Ty.sz9, Ty.by9, Ty.ag9, Ty.ze9, Tryz.underlying30, Ty.sz30, Ty.by30, Ty.ag30, Ty.ze30, Tryz.underlying94, Ty.sz94, Ty.by94, Ty.ag94, Ty.ze94, Tryz.underlying318, Ty.sz318, Ty.by318, Ty.ag318, Ty.ze318, Tryz.underlying425, Ty.sz425, Ty.by425, Ty.ag425, Ty.ze425, Tryz.underlying428, Ty.sz428, Ty.by428, Ty.ag428, Ty.ze428, Tryz.underlying436, Ty.sz436, Ty.by436, Ty.ag436, Ty.ze436] | skip)) | (refine ⟨fun hb => ?_, fun hb => ?_⟩ <;> first | (exfalso; omega) | skip) | fail)
        refine turn_evN ht hr 25 7 le (by decide) (by decide) rfl rfl ?_
        (try (first | refine Abs.EvO.nx ?_ | refine Abs.EvA.nx ?_)); repeat' (first | refine Abs.Ev.seq ?_ | refine Abs.Ev.region ?_ | refine Abs.Ev.block ?_ | refine Abs.Ev.skip ?_ | refine Abs.Ev.exit ?_ | refine Abs.Ev.ret ?_ | refine Abs.Ev.runNil ?_ | refine Abs.Ev.stepsNil ?_ | refine Abs.Seq.go ?_ | refine Abs.Seq.off ?_ | refine Abs.Blk.here ?_ | refine Abs.Blk.go ?_ | refine Abs.Blk.off rfl ?_ | refine Abs.Blk.ret ?_ | refine Abs.Ev.label ?_ | refine Abs.Ev.scope ?_ | refine Abs.Ev.step' rfl rfl rfl ?_ | refine Abs.Ev.stepG' rfl rfl rfl rfl ?_ | refine Abs.Ev.condG' ?_ | refine Abs.Ev.goS' rfl rfl rfl rfl ?_ | refine Abs.Ev.goG' rfl rfl rfl rfl rfl ?_ | refine Abs.Ev.againS' rfl rfl rfl ?_ | refine Abs.Ev.newS' rfl rfl rfl ?_ | refine Abs.Ev.callF' rfl ?_ | refine Abs.Ev.callG' rfl rfl ?_ | refine Abs.Ev.goCall' rfl rfl ?_ | refine Abs.Body.retE rfl ?_ | refine Abs.Body.endE rfl ?_ | (refine Abs.Nx.go ?_; (first | simp (disch := first | omega | assumption) only [go_sem, g0, g2, g6, g11, g102, hvc, hwc, hkc', hkv, hwv, tab_len, add32_eq, Tryz.underlying3, Ty.sz3, Ty.by3, Ty.ag3, Ty.ze3, Tryz.underlying4, Ty.sz4, Ty.by4, Ty.ag4, Ty.ze4, Tryz.underlying5, Ty.sz5, Ty.by5, Ty.ag5, Ty.ze5, Tryz.underlying9, Ty.sz9, Ty.by9, Ty.ag9, Ty.ze9, Tryz.underlying30, Ty.sz30, Ty.by30, Ty.ag30, Ty.ze30, Tryz.underlying94, Ty.sz94, Ty.by94, Ty.ag94, Ty.ze94, Tryz.underlying318, Ty.sz318, Ty.by318, Ty.ag318, Ty.ze318, Tryz.underlying425, Ty.sz425, Ty.by425, Ty.ag425, Ty.ze425, Tryz.underlying428, Ty.sz428, Ty.by428, Ty.ag428, Ty.ze428, Tryz.underlying436, Ty.sz436, Ty.by436, Ty.ag436, Ty.ze436] | skip)) | (refine ⟨fun hb => ?_, fun hb => ?_⟩ <;> first | (exfalso; omega) | skip) | fail)
        have t1 := rr_lt (n := 2) (m := 30) la
        have t2 := rr_lt (n := 13) (m := 19) la
        have t3 := rr_lt (n := 22) (m := 10) la
        have t4 := xor32_lt t1 t2
        have t5 := xor32_lt t4 t3
        have w1 := and32_lt (y := vb) la
        have w2 := and32_lt (y := vc) la
        have w3 := xor32_lt w1 w2
        have w4 := and32_lt (y := vc) lb
        have w5 := xor32_lt w3 w4
        refine Abs.Ev.regionD (n := 0) (l := [.go 0, .go 2, .go 5, .go 8, .go 9, .go 10, .go 11, .go 12, .go 13, .go 14, .go 15, .go 16, .go 17, .go 18, .go 19, .go 20, .go 21, .go 22, .go 1, .again 10, .again 14, .again 18, .again 20, .go 3, .go 4, .again 10, .again 14, .again 18, .again 20, .go 6, .go 7, .again 10, .again 14, .again 18, .again 20, .go 23, .go 24]) (by kernel_rfl) ?_
        (try (first | refine Abs.EvO.nx ?_ | refine Abs.EvA.nx ?_)); repeat' (first | refine Abs.Ev.seq ?_ | refine Abs.Ev.region ?_ | refine Abs.Ev.block ?_ | refine Abs.Ev.skip ?_ | refine Abs.Ev.exit ?_ | refine Abs.Ev.ret ?_ | refine Abs.Ev.runNil ?_ | refine Abs.Ev.stepsNil ?_ | refine Abs.Seq.go ?_ | refine Abs.Seq.off ?_ | refine Abs.Blk.here ?_ | refine Abs.Blk.go ?_ | refine Abs.Blk.off rfl ?_ | refine Abs.Blk.ret ?_ | refine Abs.Ev.label ?_ | refine Abs.Ev.scope ?_ | refine Abs.Ev.step' rfl rfl rfl ?_ | refine Abs.Ev.stepG' rfl rfl rfl rfl ?_ | refine Abs.Ev.condG' ?_ | refine Abs.Ev.goS' rfl rfl rfl rfl ?_ | refine Abs.Ev.goG' rfl rfl rfl rfl rfl ?_ | refine Abs.Ev.againS' rfl rfl rfl ?_ | refine Abs.Ev.newS' rfl rfl rfl ?_ | refine Abs.Ev.callF' rfl ?_ | refine Abs.Ev.callG' rfl rfl ?_ | refine Abs.Ev.goCall' rfl rfl ?_ | refine Abs.Body.retE rfl ?_ | refine Abs.Body.endE rfl ?_ | (refine Abs.Nx.go ?_; (first | simp (disch := first | omega | assumption) only [go_sem, g0, g2, g6, g11, g102, hvc, hwc, hkc', hkv, hwv, tab_len, add32_eq, Tryz.underlying3, Ty.sz3, Ty.by3, Ty.ag3, Ty.ze3, Tryz.underlying4, Ty.sz4, Ty.by4, Ty.ag4, Ty.ze4, Tryz.underlying5, Ty.sz5, Ty.by5, Ty.ag5, Ty.ze5, Tryz.underlying9, Ty.sz9, Ty.by9, Ty.ag9, Ty.ze9, Tryz.underlying30, Ty.sz30, Ty.by30, Ty.ag30, Ty.ze30, Tryz.underlying94, Ty.sz94, Ty.by94, Ty.ag94, Ty.ze94, Tryz.underlying318, Ty.sz318, Ty.by318, Ty.ag318, Ty.ze318, Tryz.underlying425, Ty.sz425, Ty.by425, Ty.ag425, Ty.ze425, Tryz.underlying428, Ty.sz428, Ty.by428, Ty.ag428, Ty.ze428, Tryz.underlying436, Ty.sz436, Ty.by436, Ty.ag436, Ty.ze436] | skip)) | (refine ⟨fun hb => ?_, fun hb => ?_⟩ <;> first | (exfalso; omega) | skip) | fail)
        refine turn_evN ht hr 2 30 la (by decide) (by decide) rfl rfl ?_
        (try (first | refine Abs.EvO.nx ?_ | refine Abs.EvA.nx ?_)); repeat' (first | refine Abs.Ev.seq ?_ | refine Abs.Ev.region ?_ | refine Abs.Ev.block ?_ | refine Abs.Ev.skip ?_ | refine Abs.Ev.exit ?_ | refine Abs.Ev.ret ?_ | refine Abs.Ev.runNil ?_ | refine Abs.Ev.stepsNil ?_ | refine Abs.Seq.go ?_ | refine Abs.Seq.off ?_ | refine Abs.Blk.here ?_ | refine Abs.Blk.go ?_ | refine Abs.Blk.off rfl ?_ | refine Abs.Blk.ret ?_ | refine Abs.Ev.label ?_ | refine Abs.Ev.scope ?_ | refine Abs.Ev.step' rfl rfl rfl ?_ | refine Abs.Ev.stepG' rfl rfl rfl rfl ?_ | refine Abs.Ev.condG' ?_ | refine Abs.Ev.goS' rfl rfl rfl rfl ?_ | refine Abs.Ev.goG' rfl rfl rfl rfl rfl ?_ | refine Abs.Ev.againS' rfl rfl rfl ?_ | refine Abs.Ev.newS' rfl rfl rfl ?_ | refine Abs.Ev.callF' rfl ?_ | refine Abs.Ev.callG' rfl rfl ?_ | refine Abs.Ev.goCall' rfl rfl ?_ | refine Abs.Body.retE rfl ?_ | refine Abs.Body.endE rfl ?_ | (refine Abs.Nx.go ?_; (first | simp (disch := first | omega | assumption) only [go_sem, g0, g2, g6, g11, g102, hvc, hwc, hkc', hkv, hwv, tab_len, add32_eq, Tryz.underlying3, Ty.sz3, Ty.by3, Ty.ag3, Ty.ze3, Tryz.underlying4, Ty.sz4, Ty.by4, Ty.ag4, Ty.ze4, Tryz.underlying5, Ty.sz5, Ty.by5, Ty.ag5, Ty.ze5, Tryz.underlying9, Ty.sz9, Ty.by9, Ty.ag9, Ty.ze9, Tryz.underlying30, Ty.sz30, Ty.by30, Ty.ag30, Ty.ze30, Tryz.underlying94, Ty.sz94, Ty.by94, Ty.ag94, Ty.ze94, Tryz.underlying318, Ty.sz318, Ty.by318, Ty.ag318, Ty.ze318, Tryz.underlying425, Ty.sz425, Ty.by425, Ty.ag425, Ty.ze425, Tryz.underlying428, Ty.sz428, Ty.by428, Ty.ag428, Ty.ze428, Tryz.underlying436, Ty.sz436, Ty.by436, Ty.ag436, Ty.ze436] | skip)) | (refine ⟨fun hb => ?_, fun hb => ?_⟩ <;> first | (exfalso; omega) | skip) | fail)
        refine turn_evN ht hr 13 19 la (by decide) (by decide) rfl rfl ?_
        (try (first | refine Abs.EvO.nx ?_ | refine Abs.EvA.nx ?_)); repeat' (first | refine Abs.Ev.seq ?_ | refine Abs.Ev.region ?_ | refine Abs.Ev.block ?_ | refine Abs.Ev.skip ?_ | refine Abs.Ev.exit ?_ | refine Abs.Ev.ret ?_ | refine Abs.Ev.runNil ?_ | refine Abs.Ev.stepsNil ?_ | refine Abs.Seq.go ?_ | refine Abs.Seq.off ?_ | refine Abs.Blk.here ?_ | refine Abs.Blk.go ?_ | refine Abs.Blk.off rfl ?_ | refine Abs.Blk.ret ?_ | refine Abs.Ev.label ?_ | refine Abs.Ev.scope ?_ | refine Abs.Ev.step' rfl rfl rfl ?_ | refine Abs.Ev.stepG' rfl rfl rfl rfl ?_ | refine Abs.Ev.condG' ?_ | refine Abs.Ev.goS' rfl rfl rfl rfl ?_ | refine Abs.Ev.goG' rfl rfl rfl rfl rfl ?_ | refine Abs.Ev.againS' rfl rfl rfl ?_ | refine Abs.Ev.newS' rfl rfl rfl ?_ | refine Abs.Ev.callF' rfl ?_ | refine Abs.Ev.callG' rfl rfl ?_ | refine Abs.Ev.goCall' rfl rfl ?_ | refine Abs.Body.retE rfl ?_ | refine Abs.Body.endE rfl ?_ | (refine Abs.Nx.go ?_; (first | simp (disch := first | omega | assumption) only [go_sem, g0, g2, g6, g11, g102, hvc, hwc, hkc', hkv, hwv, tab_len, add32_eq, Tryz.underlying3, Ty.sz3, Ty.by3, Ty.ag3, Ty.ze3, Tryz.underlying4, Ty.sz4, Ty.by4, Ty.ag4, Ty.ze4, Tryz.underlying5, Ty.sz5, Ty.by5, Ty.ag5, Ty.ze5, Tryz.underlying9, Ty.sz9, Ty.by9, Ty.ag9, Ty.ze9, Tryz.underlying30, Ty.sz30, Ty.by30, Ty.ag30, Ty.ze30, Tryz.underlying94, Ty.sz94, Ty.by94, Ty.ag94, Ty.ze94, Tryz.underlying318, Ty.sz318, Ty.by318, Ty.ag318, Ty.ze318, Tryz.underlying425, Ty.sz425, Ty.by425, Ty.ag425, Ty.ze425, Tryz.underlying428, Ty.sz428, Ty.by428, Ty.ag428, Ty.ze428, Tryz.underlying436, Ty.sz436, Ty.by436, Ty.ag436, Ty.ze436] | skip)) | (refine ⟨fun hb => ?_, fun hb => ?_⟩ <;> first | (exfalso; omega) | skip) | fail)
        refine turn_evN ht hr 22 10 la (by decide) (by decide) rfl rfl ?_
        (try (first | refine Abs.EvO.nx ?_ | refine Abs.EvA.nx ?_)); repeat' (first | refine Abs.Ev.seq ?_ | refine Abs.Ev.region ?_ | refine Abs.Ev.block ?_ | refine Abs.Ev.skip ?_ | refine Abs.Ev.exit ?_ | refine Abs.Ev.ret ?_ | refine Abs.Ev.runNil ?_ | refine Abs.Ev.stepsNil ?_ | refine Abs.Seq.go ?_ | refine Abs.Seq.off ?_ | refine Abs.Blk.here ?_ | refine Abs.Blk.go ?_ | refine Abs.Blk.off rfl ?_ | refine Abs.Blk.ret ?_ | refine Abs.Ev.label ?_ | refine Abs.Ev.scope ?_ | refine Abs.Ev.step' rfl rfl rfl ?_ | refine Abs.Ev.stepG' rfl rfl rfl rfl ?_ | refine Abs.Ev.condG' ?_ | refine Abs.Ev.goS' rfl rfl rfl rfl ?_ | refine Abs.Ev.goG' rfl rfl rfl rfl rfl ?_ | refine Abs.Ev.againS' rfl rfl rfl ?_ | refine Abs.Ev.newS' rfl rfl rfl ?_ | refine Abs.Ev.callF' rfl ?_ | refine Abs.Ev.callG' rfl rfl ?_ | refine Abs.Ev.goCall' rfl rfl ?_ | refine Abs.Body.retE rfl ?_ | refine Abs.Body.endE rfl ?_ | (refine Abs.Nx.go ?_; (first | simp (disch := first | omega | assumption) only [go_sem, g0, g2, g6, g11, g102, hvc, hwc, hkc', hkv, hwv, tab_len, add32_eq, build8, pBuild, List.drop_nil, Tryz.underlying3, Ty.sz3, Ty.by3, Ty.ag3, Ty.ze3, Tryz.underlying4, Ty.sz4, Ty.by4, Ty.ag4, Ty.ze4, Tryz.underlying5, Ty.sz5, Ty.by5, Ty.ag5, Ty.ze5, Tryz.underlying9, Ty.sz9, Ty.by9, Ty.ag9, Ty.ze9, Tryz.underlying30, Ty.sz30, Ty.by30, Ty.ag30, Ty.ze30, Tryz.underlying94, Ty.sz94, Ty.by94, Ty.ag94, Ty.ze94, Tryz.underlying318, Ty.sz318, Ty.by318, Ty.ag318, Ty.ze318, Tryz.underlying425, Ty.sz425, Ty.by425, Ty.ag425, Ty.ze425, Tryz.underlying428, Ty.sz428, Ty.by428, Ty.ag428, Ty.ze428, Tryz.underlying436, Ty.sz436, Ty.by436, Ty.ag436, Ty.ze436] | skip)) | (refine ⟨fun hb => ?_, fun hb => ?_⟩ <;> first | (exfalso; omega) | skip) | fail)
        refine ⟨64 - (i + 1), by omega, hK.set (b := s.next + 1) (by omega) (by omega) hwf _, hnx, _, i + 1, shStep kk w ⟨va, vb, vc, vd, ve, vf, vg, vh⟩, rfl, ?_, ?_, ?_, ?_, ?_, by omega, ?_, ?_, shStep_ok ⟨la, lb, lc, ld, le, lf, lg, lh⟩, hgo, rfl⟩
        · simp (disch := first | omega | assumption) only [go_sem, g0]
        · simp (disch := first | omega | assumption) only [go_sem, g2]
        · simp (disch := first | omega | assumption) only [go_sem, g6]
        · simp (disch := first | omega | assumption) only [go_sem, g11]
        · simp (disch := first | omega | assumption) only [go_sem, Int.natCast_add, Int.natCast_one]
        · first
          | (rw [get_other _ _ _ _ (by show s.next ≠ s.next + 1; omega)]; exact hwc)
          | simp (disch := first | omega | assumption) only [go_sem, hwc]
        · exact get_same _ _ _
        -->
      · obtain rfl : i = 64 := by omega
        have hgo : shV m (ks.drop 64) 64 v0 = R := hgo
        rw [List.drop_of_length_le (by omega)] at hgo
        obtain rfl : v0 = R := hgo
        have hsb3 := hK.old _ _ hsb
        have hold : ∀ b x, b ≠ sb → s.heap.get b = some x → s3.heap.get b = some x := fun b x _ h => hK.old b x h
        have hwf3 := hK.wf
        have hnx3 := Nat.le_of_eq hnx
        clear hK hok hwc hf hmlt hk hklt hkc hkb hnlt hmlt0 hsb g2 g6 hksl hk64
        obtain ⟨va, vb, vc, vd, ve, vf, vg, vh⟩ := v0
        obtain ⟨na, nb, nc, nd, ne, nf, ng, nh⟩ := v8
        subst hnsl
        rw [addAll_eq] at k6
        simp only [V8.list, List.map_cons, List.map_nil, List.zipWith_cons_cons, List.zipWith_nil_left] at hvc hsb3 k6
        generalize s.next + 1 = vp at *
        (try (first | refine Abs.EvO.nx ?_ | refine Abs.EvA.nx ?_)); repeat' (first | refine Abs.Ev.seq ?_ | refine Abs.Ev.region ?_ | refine Abs.Ev.block ?_ | refine Abs.Ev.skip ?_ | refine Abs.Ev.exit ?_ | refine Abs.Ev.ret ?_ | refine Abs.Ev.runNil ?_ | refine Abs.Ev.stepsNil ?_ | refine Abs.Seq.go ?_ | refine Abs.Seq.off ?_ | refine Abs.Blk.here ?_ | refine Abs.Blk.go ?_ | refine Abs.Blk.off rfl ?_ | refine Abs.Blk.ret ?_ | refine Abs.Ev.label ?_ | refine Abs.Ev.scope ?_ | refine Abs.Ev.step' rfl rfl rfl ?_ | refine Abs.Ev.stepG' rfl rfl rfl rfl ?_ | refine Abs.Ev.condG' ?_ | refine Abs.Ev.goS' rfl rfl rfl rfl ?_ | refine Abs.Ev.goG' rfl rfl rfl rfl rfl ?_ | refine Abs.Ev.againS' rfl rfl rfl ?_ | refine Abs.Ev.newS' rfl rfl rfl ?_ | refine Abs.Ev.callF' rfl ?_ | refine Abs.Ev.callG' rfl rfl ?_ | refine Abs.Ev.goCall' rfl rfl ?_ | refine Abs.Body.retE rfl ?_ | refine Abs.Body.endE rfl ?_ | (refine Abs.Nx.go ?_; (first | simp (disch := first | omega | assumption) only [go_sem, g0, g11, g102, hvc, hsb3, cut_eight, Tryz.underlying3, Ty.sz3, Ty.by3, Ty.ag3, Ty.ze3, Tryz.underlying4, Ty.sz4, Ty.by4, Ty.ag4, Ty.ze4, Tryz.underlying5, Ty.sz5, Ty.by5, Ty.ag5, Ty.ze5, Tryz.underlying9, Ty.sz9, Ty.by9, Ty.ag9, Ty.ze9, Tryz.underlying30, Ty.sz30, Ty.by30, Ty.ag30, Ty.ze30, Tryz.underlying94, Ty.sz94, Ty.by94, Ty.ag94, Ty.ze94, Tryz.underlying318, Ty.sz318, Ty.by318, Ty.ag318, Ty.ze318, Tryz.underlying425, Ty.sz425, Ty.by425, Ty.ag425, Ty.ze425, Tryz.underlying428, Ty.sz428, Ty.by428, Ty.ag428, Ty.ze428, Tryz.underlying436, Ty.sz436, Ty.by436, Ty.ag436, Ty.ze436] | skip)) | (refine ⟨fun hb => ?_, fun hb => ?_⟩ <;> first | (exfalso; omega) | skip) | fail)
        iterate 8 (
          refine Ev.unroll ?_
          (try (first | refine Abs.EvO.nx ?_ | refine Abs.EvA.nx ?_)); repeat' (first | refine Abs.Ev.seq ?_ | refine Abs.Ev.region ?_ | refine Abs.Ev.block ?_ | refine Abs.Ev.skip ?_ | refine Abs.Ev.exit ?_ | refine Abs.Ev.ret ?_ | refine Abs.Ev.runNil ?_ | refine Abs.Ev.stepsNil ?_ | refine Abs.Seq.go ?_ | refine Abs.Seq.off ?_ | refine Abs.Blk.here ?_ | refine Abs.Blk.go ?_ | refine Abs.Blk.off rfl ?_ | refine Abs.Blk.ret ?_ | refine Abs.Ev.label ?_ | refine Abs.Ev.scope ?_ | refine Abs.Ev.step' rfl rfl rfl ?_ | refine Abs.Ev.stepG' rfl rfl rfl rfl ?_ | refine Abs.Ev.condG' ?_ | refine Abs.Ev.goS' rfl rfl rfl rfl ?_ | refine Abs.Ev.goG' rfl rfl rfl rfl rfl ?_ | refine Abs.Ev.againS' rfl rfl rfl ?_ | refine Abs.Ev.newS' rfl rfl rfl ?_ | refine Abs.Ev.callF' rfl ?_ | refine Abs.Ev.callG' rfl rfl ?_ | refine Abs.Ev.goCall' rfl rfl ?_ | refine Abs.Body.retE rfl ?_ | refine Abs.Body.endE rfl ?_ | (refine Abs.Nx.go ?_; (first | simp (disch := first | omega | assumption) only [go_sem, g0, hsb3, cut_head, Tryz.underlying3, Ty.sz3, Ty.by3, Ty.ag3, Ty.ze3, Tryz.underlying4, Ty.sz4, Ty.by4, Ty.ag4, Ty.ze4, Tryz.underlying5, Ty.sz5, Ty.by5, Ty.ag5, Ty.ze5, Tryz.underlying9, Ty.sz9, Ty.by9, Ty.ag9, Ty.ze9, Tryz.underlying30, Ty.sz30, Ty.by30, Ty.ag30, Ty.ze30, Tryz.underlying94, Ty.sz94, Ty.by94, Ty.ag94, Ty.ze94, Tryz.underlying318, Ty.sz318, Ty.by318, Ty.ag318, Ty.ze318, Tryz.underlying425, Ty.sz425, Ty.by425, Ty.ag425, Ty.ze425, Tryz.underlying428, Ty.sz428, Ty.by428, Ty.ag428, Ty.ze428, Tryz.underlying436, Ty.sz436, Ty.by436, Ty.ag436, Ty.ze436] | skip)) | (refine ⟨fun hb => ?_, fun hb => ?_⟩ <;> first | (exfalso; omega) | skip) | fail)
          refine Abs.Ev.regionD (n := 0) (l := [.go 0, .go 1, .go 2, .go 3, .go 4, .go 5, .go 6, .go 7, .go 8, .go 9]) (by kernel_rfl) ?_
          (try (first | refine Abs.EvO.nx ?_ | refine Abs.EvA.nx ?_)); repeat' (first | refine Abs.Ev.seq ?_ | refine Abs.Ev.region ?_ | refine Abs.Ev.block ?_ | refine Abs.Ev.skip ?_ | refine Abs.Ev.exit ?_ | refine Abs.Ev.ret ?_ | refine Abs.Ev.runNil ?_ | refine Abs.Ev.stepsNil ?_ | refine Abs.Seq.go ?_ | refine Abs.Seq.off ?_ | refine Abs.Blk.here ?_ | refine Abs.Blk.go ?_ | refine Abs.Blk.off rfl ?_ | refine Abs.Blk.ret ?_ | refine Abs.Ev.label ?_ | refine Abs.Ev.scope ?_ | refine Abs.Ev.step' rfl rfl rfl ?_ | refine Abs.Ev.stepG' rfl rfl rfl rfl ?_ | refine Abs.Ev.condG' ?_ | refine Abs.Ev.goS' rfl rfl rfl rfl ?_ | refine Abs.Ev.goG' rfl rfl rfl rfl rfl ?_ | refine Abs.Ev.againS' rfl rfl rfl ?_ | refine Abs.Ev.newS' rfl rfl rfl ?_ | refine Abs.Ev.callF' rfl ?_ | refine Abs.Ev.callG' rfl rfl ?_ | refine Abs.Ev.goCall' rfl rfl ?_ | refine Abs.Body.retE rfl ?_ | refine Abs.Body.endE rfl ?_ | (refine Abs.Nx.go ?_; (first | simp (disch := first | omega | assumption) only [go_sem, g0, hsb3, cut_head, add32_eq, List.set_cons_zero, List.set_cons_succ, Tryz.underlying3, Ty.sz3, Ty.by3, Ty.ag3, Ty.ze3, Tryz.underlying4, Ty.sz4, Ty.by4, Ty.ag4, Ty.ze4, Tryz.underlying5, Ty.sz5, Ty.by5, Ty.ag5, Ty.ze5, Tryz.underlying9, Ty.sz9, Ty.by9, Ty.ag9, Ty.ze9, Tryz.underlying30, Ty.sz30, Ty.by30, Ty.ag30, Ty.ze30, Tryz.underlying94, Ty.sz94, Ty.by94, Ty.ag94, Ty.ze94, Tryz.underlying318, Ty.sz318, Ty.by318, Ty.ag318, Ty.ze318, Tryz.underlying425, Ty.sz425, Ty.by425, Ty.ag425, Ty.ze425, Tryz.underlying428, Ty.sz428, Ty.by428, Ty.ag428, Ty.ze428, Tryz.underlying436, Ty.sz436, Ty.by436, Ty.ag436, Ty.ze436] | skip)) | (refine ⟨fun hb => ?_, fun hb => ?_⟩ <;> first | (exfalso; omega) | skip) | fail))
        refine Ev.unroll ?_
        (try (first | refine Abs.EvO.nx ?_ | refine Abs.EvA.nx ?_)); repeat' (first | refine Abs.Ev.seq ?_ | refine Abs.Ev.region ?_ | refine Abs.Ev.block ?_ | refine Abs.Ev.skip ?_ | refine Abs.Ev.exit ?_ | refine Abs.Ev.ret ?_ | refine Abs.Ev.runNil ?_ | refine Abs.Ev.stepsNil ?_ | refine Abs.Seq.go ?_ | refine Abs.Seq.off ?_ | refine Abs.Blk.here ?_ | refine Abs.Blk.go ?_ | refine Abs.Blk.off rfl ?_ | refine Abs.Blk.ret ?_ | refine Abs.Ev.label ?_ | refine Abs.Ev.scope ?_ | refine Abs.Ev.step' rfl rfl rfl ?_ | refine Abs.Ev.stepG' rfl rfl rfl rfl ?_ | refine Abs.Ev.condG' ?_ | refine Abs.Ev.goS' rfl rfl rfl rfl ?_ | refine Abs.Ev.goG' rfl rfl rfl rfl rfl ?_ | refine Abs.Ev.againS' rfl rfl rfl ?_ | refine Abs.Ev.newS' rfl rfl rfl ?_ | refine Abs.Ev.callF' rfl ?_ | refine Abs.Ev.callG' rfl rfl ?_ | refine Abs.Ev.goCall' rfl rfl ?_ | refine Abs.Body.retE rfl ?_ | refine Abs.Body.endE rfl ?_ | (refine Abs.Nx.go ?_; (first | simp (disch := first | omega | assumption) only [go_sem, g0, cut_head, Tryz.underlying3, Ty.sz3, Ty.by3, Ty.ag3, Ty.ze3, Tryz.underlying4, Ty.sz4, Ty.by4, Ty.ag4, Ty.ze4, Tryz.underlying5, Ty.sz5, Ty.by5, Ty.ag5, Ty.ze5, Tryz.underlying9, Ty.sz9, Ty.by9, Ty.ag9, Ty.ze9, Tryz.underlying30, Ty.sz30, Ty.by30, Ty.ag30, Ty.ze30, Tryz.underlying94, Ty.sz94, Ty.by94, Ty.ag94, Ty.ze94, Tryz.underlying318, Ty.sz318, Ty.by318, Ty.ag318, Ty.ze318, Tryz.underlying425, Ty.sz425, Ty.by425, Ty.ag425, Ty.ze425, Tryz.underlying428, Ty.sz428, Ty.by428, Ty.ag428, Ty.ze428, Tryz.underlying436, Ty.sz436, Ty.by436, Ty.ag436, Ty.ze436] | skip)) | (refine ⟨fun hb => ?_, fun hb => ?_⟩ <;> first | (exfalso; omega) | skip) | fail)
        cases k6
        refine ⟨_, rfl, fun b x hb => ?_, ?_⟩
        · by_cases hbs : b = sb
          · subst hbs
            rw [show (St.mk (s.heap.set b _) s.next).heap.get b = _ from get_same _ _ _] at hb
            rw [← hb]
            exact get_same _ _ _
          · have hb' : s.heap.get b = some x := (get_other _ _ _ _ hbs).symm.trans hb
            have hb3 := hold b x hbs hb'
            simp (disch := first | omega | assumption) only [go_sem, hb3]
        · exact hnx3
end
end Go.Proofs.YtihplijjkcdcjaaGreatDoor

/-
  A closed run is cut: that it may be.
-/
namespace Go.Proofs.YtihplijjkcdcjaaGreatDoor.Abs
section
set_option linter.unusedVariables false
variable {P : Program} {φ ψ : Phi} {w w' : World}
theorem vSameL_eq {f : Value → Value → Bool} (hf : ∀ a b, f a b = true → a = b) : ∀ {x y : List Value}, vSameL f x y = true → x = y
  | [], [], _ => rfl
  | [], _ :: _, h => by cases h
  | _ :: _, [], h => by cases h
  | a :: x, b :: y, h => by
    have h' : ifb (f a b) (vSameL f x y) false = true := h
    rw [ifb_eq] at h'
    split at h'
    · rename_i h1
      rw [hf a b h1, vSameL_eq hf h']
    · cases h'
theorem adSame_eq {a b : Option Addr} (h : adSame a b = true) : a = b := by
  unfold adSame at h
  split at h
  · rfl
  · rw [ifb_eq] at h
    split at h
    · rename_i h1
      rw [Nat.eq_of_beq_eq_true h1, Nat.eq_of_beq_eq_true h]
    · cases h
  · cases h
theorem refSame_eq {a b : Option Nat} (h : refSame a b = true) : a = b := by
  unfold refSame at h
  split at h
  · rfl
  · rw [Nat.eq_of_beq_eq_true h]
  · cases h
theorem bSame_eq {a b : Bool} (h : bSame a b = true) : a = b := by cases a <;> cases b <;> first | rfl | cases h
theorem arr_eq {a b : Array Value} (h : a.toList = b.toList) : a = b := Array.toList_inj.1 h
theorem vSame1_eq {f : Value → Value → Bool} (hf : ∀ a b, f a b = true → a = b) (a b : Value) (h : vSame1 f a b = true) : a = b := by
  unfold vSame1 at h
  split at h
  · unfold vInt at h
    split at h
    · rw [ifb_eq] at h
      split at h
      · rename_i h1
        rw [kEq_eq h1]
        rw [iBeq_eq] at h
        rw [eq_of_beq h]
      · cases h
    · cases h
  · unfold vStr at h
    split at h
    · rename_i x _ y
      rw [bEq_eq] at h
      obtain ⟨⟨x⟩⟩ := x
      obtain ⟨⟨y⟩⟩ := y
      have : x = y := by simpa using h
      rw [this]
    · cases h
  · unfold vBool at h
    split at h
    · rw [bSame_eq h]
    · cases h
  · unfold vPtr at h
    split at h
    · rw [adSame_eq h]
    · cases h
  · unfold vSlc at h
    split at h
    · rw [ifb_eq] at h
      split at h
      · rename_i h1
        rw [ifb_eq] at h
        split at h
        · rename_i h2
          rw [adSame_eq h1, Nat.eq_of_beq_eq_true h2, Nat.eq_of_beq_eq_true h]
        · cases h
      · cases h
    · cases h
  · unfold vMap at h
    split at h
    · rw [refSame_eq h]
    · cases h
  · unfold vNilF at h
    split at h
    · rfl
    · cases h
  · unfold vNilI at h
    split at h
    · rfl
    · cases h
  · unfold vAgg at h
    split at h
    · rw [arr_eq (vSameL_eq hf h)]
    · cases h
  · unfold vTup at h
    split at h
    · rw [arr_eq (vSameL_eq hf h)]
    · cases h
  · unfold vIfc at h
    split at h
    · rw [ifb_eq] at h
      split at h
      · rename_i h1
        rw [Nat.eq_of_beq_eq_true h1, hf _ _ h]
      · cases h
    · cases h
  · cases h
theorem vSame_eq (a b : Value) (h : vSame a b = true) : a = b :=
  vSame1_eq (vSame1_eq (vSame1_eq fun _ _ h => by cases h)) a b h
theorem eSame_eq {a b : MapEntry} (h : eSame a b = true) : a = b := by
  obtain ⟨k, v, n⟩ := a
  obtain ⟨j, u, m⟩ := b
  have h : ifb (vSame k j) (ifb (vSame v u) (Nat.beq n m) false) false = true := h
  rw [ifb_eq] at h
  split at h
  · rename_i h1
    rw [ifb_eq] at h
    split at h
    · rename_i h2
      rw [vSame_eq _ _ h1, vSame_eq _ _ h2, Nat.eq_of_beq_eq_true h]
    · cases h
  · cases h
theorem eSameL_eq : ∀ {x y : List MapEntry}, eSameL x y = true → x = y
  | [], [], _ => rfl
  | [], _ :: _, h => by cases h
  | _ :: _, [], h => by cases h
  | a :: x, b :: y, h => by
    have h' : ifb (eSame a b) (eSameL x y) false = true := h
    rw [ifb_eq] at h'
    split at h'
    · rename_i h1
      rw [eSame_eq h1, eSameL_eq h']
    · cases h'
theorem pSame_eq {a b : Nat × Nat} (h : pSame a b = true) : a = b := by
  obtain ⟨i, j⟩ := a
  obtain ⟨k, l⟩ := b
  have h : ifb (Nat.beq i k) (Nat.beq j l) false = true := h
  rw [ifb_eq] at h
  split at h
  · rename_i h1
    rw [Nat.eq_of_beq_eq_true h1, Nat.eq_of_beq_eq_true h]
  · cases h
theorem ifb_both {c b : Bool} (h : ifb c b false = true) : c = true ∧ b = true := by
  rw [ifb_eq] at h
  split at h
  · exact ⟨‹_›, h⟩
  · cases h
theorem oSame_eq {a b : AObj} (h : oSame a b = true) : a = b := by
  unfold oSame at h
  split at h
  · unfold oCells at h
    split at h
    · obtain ⟨h1, h⟩ := ifb_both h
      obtain ⟨h2, h⟩ := ifb_both h
      obtain ⟨h3, h⟩ := ifb_both h
      obtain ⟨h4, h⟩ := ifb_both h
      rw [Nat.eq_of_beq_eq_true h1, Nat.eq_of_beq_eq_true h2, bSame_eq h3, pSame_eq h4, vSameL_eq vSame_eq h]
    · cases h
  · unfold oConst at h
    split at h
    · obtain ⟨h1, h⟩ := ifb_both h
      rw [Nat.eq_of_beq_eq_true h1, vSameL_eq vSame_eq h]
    · cases h
  · unfold oMap at h
    split at h
    · obtain ⟨h1, h⟩ := ifb_both h
      rw [Nat.eq_of_beq_eq_true h1, eSameL_eq h]
    · cases h
  · cases h
theorem oIs_eq {o : Option AObj} {x : AObj} (h : oIs o x = true) : o = some x := by
  cases o with
  | none => cases h
  | some y => rw [oSame_eq (show oSame y x = true from h)]
theorem footOk_get {h : Tr AObj} : ∀ {l : List (Nat × AObj)}, footOk h l = true → ∀ p ∈ l, h.get p.1 = some p.2
  | [], _, p, hp => by cases hp
  | q :: l, hl, p, hp => by
    obtain ⟨h1, h2⟩ := ifb_both (show ifb (oIs (h.get q.1) q.2) (footOk h l) false = true from hl)
    rcases List.mem_cons.1 hp with rfl | hp
    · exact oIs_eq h1
    · exact footOk_get h2 p hp
theorem outOk_get {h : Tr AObj} : ∀ {l : List (Nat × Option AObj)}, outOk h l = true → ∀ p ∈ l, ∀ x, p.2 = some x → h.get p.1 = some x
  | [], _, p, hp => by cases hp
  | q :: l, hl, p, hp => by
    obtain ⟨h1, h2⟩ := ifb_both (show ifb (Option.rec true (fun x => oIs (h.get q.1) x) q.2) (outOk h l) false = true from hl)
    rcases List.mem_cons.1 hp with rfl | hp
    · intro x hx
      rw [hx] at h1
      exact oIs_eq h1
    · exact outOk_get h2 p hp
theorem putAllO_get : ∀ (l : List (Nat × Option AObj)) (h : Tr AObj) {b : Nat} {x : AObj}, (putAllO l h).get b = some x → (b, some x) ∈ l ∨ (memN l b = false ∧ h.get b = some x)
  | [], h, b, x, hb => .inr ⟨rfl, hb⟩
  | p :: l, h, b, x, hb => by
    have hb' : (putAllO l (Tr.put p.2 h p.1)).get b = some x := by
      have e : putAllO (p :: l) h = (Tr.put p.2 h p.1).force (putAllO l) := rfl
      rw [e, Tr.force_eq] at hb
      exact hb
    have em : memN (p :: l) b = ifb (Nat.beq p.1 b) true (memN l b) := rfl
    rcases putAllO_get l _ hb' with h1 | ⟨h1, h2⟩
    · exact .inl (List.mem_cons_of_mem _ h1)
    · rcases Tr.get_put h2 with ⟨rfl, h3⟩ | ⟨h3, h4⟩
      · refine .inl ?_
        obtain ⟨i, y⟩ := p
        simp only at h3
        subst h3
        exact List.mem_cons_self
      · refine .inr ⟨?_, h4⟩
        rw [em, h1]
        cases hx : Nat.beq p.1 b with
        | true => exact absurd (Nat.eq_of_beq_eq_true hx).symm h3
        | false => rfl
theorem putAllO_named : ∀ (l : List (Nat × AObj)) (h : Tr AObj) (b : Nat), ((putAllO (somes l) h).get b).isSome = true ∨ ((∀ p ∈ l, p.1 ≠ b) ∧ (putAllO (somes l) h).get b = h.get b)
  | [], _, _ => .inr ⟨fun _ h => (by cases h), rfl⟩
  | p :: l, h, b => by
    have e : putAllO (somes (p :: l)) h = (Tr.put (some p.2) h p.1).force (putAllO (somes l)) := rfl
    rw [e, Tr.force_eq]
    rcases putAllO_named l (Tr.put (some p.2) h p.1) b with h1 | ⟨h1, h2⟩
    · exact .inl h1
    · by_cases hb : p.1 = b
      · subst hb
        exact .inl (by rw [h2, Tr.get_put_same]; rfl)
      · exact .inr ⟨fun q hq => by
          rcases List.mem_cons.1 hq with rfl | hq
          · exact hb
          · exact h1 q hq, h2.trans (Tr.get_put_ne (Ne.symm hb))⟩
/-- WHAT STANDS BESIDE what a call looks at stays, and so do tables. -/
theorem Post.beside {f0 f : Nat → Option AObj} {f1 f2 : Nat → Option AObj} {n n1 n2 : Nat} (hS : SF φ f n w) (h0 : ∀ b x, f0 b = some x → f b = some x) (hP : PF φ f0 n w ψ f1 n1 w') (hn : n1 ≤ n2)
    (h2 : ∀ b x, f2 b = some x → f1 b = some x ∨ ((f0 b = none ∨ x.isConst = true) ∧ f b = some x)) : PF φ f n w ψ f2 n2 w' := by
  have side : ∀ b x, (f0 b = none ∨ x.isConst = true) → f b = some x → ∀ L, φ b = some L → ∀ c y M, f0 c = some y → y.isConst = false → φ c = some M → M.blk ≠ L.blk := fun b x hb hx L hL c y M hc hy hM e => by
    obtain rfl : c = b := hS.mem.inj c b y x M L (h0 _ _ hc) hx hM hL e (.inl hy)
    rcases hb with hb | hb
    · rw [hb] at hc
      cases hc
    · have e1 := h0 _ _ hc
      rw [hx] at e1
      cases e1
      rw [hb] at hy
      cases hy
  have loc : ∀ b x, f b = some x → ∃ L, φ b = some L ∧ ψ b = some L := fun b x hx => by
    obtain ⟨L, h1, _⟩ := hS.mem.obj b x hx
    exact ⟨L, h1, hP.le _ _ h1⟩
  have mix : ∀ b x L, (f0 b = none ∨ x.isConst = true) → f b = some x → ψ b = some L → ∀ c y M, f1 c = some y → ψ c = some M → M.blk = L.blk → x.isConst = false ∨ y.isConst = false → c = b := fun b x L hb hx hL c y M hc hM e hcon => by
    obtain ⟨L', g1, g2⟩ := loc b x hx
    rw [g2] at hL
    cases hL
    obtain ⟨k1, k2, k3⟩ := (hP.fr.rest L.blk (hS.mem.lt hx g1) fun c y M hc hy hM => side b x hb hx L g1 c y M hc hy hM).2 c y M hc hM e
    have hx' : x.isConst = false := hcon.resolve_right (by rw [k1]; decide)
    exact hS.mem.inj c b y x M L (h0 _ _ k2) hx k3 g1 e (.inr hx')
  refine ⟨⟨⟨?_, ?_⟩, fun b hb => hP.rel.fresh b (Nat.le_trans hn hb), hP.rel.globals⟩, hP.le, ⟨hP.fr.size, hP.fr.os, hP.fr.tape, hP.fr.output, ?_⟩, Nat.le_trans hP.next hn, hP.names⟩
  · intro b c x y L M hb hc hL hM e hcon
    rcases h2 b x hb with h3 | ⟨h3, h4⟩ <;> rcases h2 c y hc with h5 | ⟨h5, h6⟩
    · exact hP.rel.mem.inj b c x y L M h3 h5 hL hM e hcon
    · exact mix c y M h5 h6 hM b x L h3 hL e hcon.symm
    · exact (mix b x L h3 h4 hL c y M h5 hM e.symm hcon).symm
    · obtain ⟨L', g1, g2⟩ := loc b x h4
      obtain ⟨M', g3, g4⟩ := loc c y h6
      rw [g2] at hL
      rw [g4] at hM
      cases hL
      cases hM
      exact hS.mem.inj b c x y L M h4 h6 g1 g3 e hcon
  · intro b x hb
    rcases h2 b x hb with h3 | ⟨h3, h4⟩
    · exact hP.rel.mem.obj b x h3
    · obtain ⟨L, g1, o, g2, g3⟩ := hS.mem.obj b x h4
      refine ⟨L, hP.le _ _ g1, o, ?_, g3.mono hP.le⟩
      rw [(hP.fr.rest L.blk (hS.mem.lt h4 g1) fun c y M hc hy hM => side b x h3 h4 L g1 c y M hc hy hM).1]
      exact g2
  · intro k hk hno
    obtain ⟨k1, k2⟩ := hP.fr.rest k hk fun b x L hb hx hL => hno b x L (h0 _ _ hb) hx hL
    refine ⟨k1, fun b x L hb hL e => ?_⟩
    rcases h2 b x hb with h3 | ⟨h3, h4⟩
    · obtain ⟨q1, q2, q3⟩ := k2 b x L h3 hL e
      exact ⟨q1, h0 _ _ q2, q3⟩
    · obtain ⟨L', g1, g2⟩ := loc b x h4
      rw [g2] at hL
      cases hL
      exact FrF.own hno b x L h4 g1 e
theorem SF.part {f0 f : Nat → Option AObj} {n : Nat} (hS : SF φ f n w) (h0 : ∀ b x, f0 b = some x → f b = some x) : SF φ f0 n w :=
  ⟨⟨fun b c x y L M hb hc => hS.mem.inj b c x y L M (h0 _ _ hb) (h0 _ _ hc), fun b x hb => hS.mem.obj b x (h0 _ _ hb)⟩, hS.fresh, hS.globals⟩
theorem somes_mem {l : List (Nat × AObj)} {b : Nat} {x : AObj} (h : (b, some x) ∈ somes l) : (b, x) ∈ l := by
  unfold somes at h
  obtain ⟨⟨i, y⟩, h1, h2⟩ := List.mem_map.1 h
  cases h2
  exact h1
/-- CUTS OF A FUNCTION serve as its summary. -/
theorem cuts_ok {Sm : Summ} (hmix : P.follows .mixedOrders = true) (hSm : SmOk P Sm) (hNum : NumOk P) {f : FuncId} {l : List Cut} {N : Nat} {base : Tr AObj → Option (Tr AObj)} (hbase : ∀ h B, base h = some B → ∀ b x, B.get b = some x → h.get b = some x ∧ x.isConst = true)
    (hl : ∀ h B, base h = some B → ∀ c ∈ l, c.good (run P Sm N (.inv (.fn (.func f) #[]) c.args (c.st B))) = true) : SmOk P (Sm.add f (sumCuts base l)) := by
  refine smOk_calls hSm fun args s v s1 h fr cs φ w args' hS hargs => ?_
  obtain ⟨B, hB, h'⟩ : ∃ B, base s.heap = some B ∧ pickCut l args s = .ok (v, s1) := by
    unfold sumCuts at h
    cases hb : base s.heap with
    | none => rw [hb] at h; cases h
    | some B => rw [hb] at h; exact ⟨B, rfl, h⟩
  replace h := h'
  clear h'
  replace hl := hl _ _ hB
  replace hbase := hbase _ _ hB
  have pick : ∃ c ∈ l, s.next = c.n0 ∧ c.says args s = .ok (v, s1) := by
    clear hl
    induction l with
    | nil => cases h
    | cons c l ih =>
      have h' : ifb (Nat.beq s.next c.n0) (c.says args s) (pickCut l args s) = .ok (v, s1) := h
      rcases ifb_ok h' with ⟨h1, h2⟩ | ⟨_, h2⟩
      · exact ⟨c, List.mem_cons_self, Nat.eq_of_beq_eq_true h1, h2⟩
      · obtain ⟨d, h3, h4⟩ := ih h2
        exact ⟨d, List.mem_cons_of_mem _ h3, h4⟩
  obtain ⟨c, hc, hn, hsay⟩ := pick
  have hgood := hl c hc
  unfold Cut.says at hsay
  obtain ⟨a1, hsay⟩ := ifb_no hsay
  obtain ⟨a2, hsay⟩ := ifb_no hsay
  obtain ⟨a3, hsay⟩ := ifb_no hsay
  rw [Tr.force_eq] at hsay
  cases hsay
  obtain rfl := vSameL_eq vSame_eq a1
  unfold Cut.good at hgood
  split at hgood
  · rename_i v' s' hrun
    obtain ⟨b1, hgood⟩ := ifb_both hgood
    obtain ⟨b2, hgood⟩ := ifb_both hgood
    obtain ⟨b3, hgood⟩ := ifb_both hgood
    obtain ⟨b4, b5⟩ := ifb_both hgood
    obtain rfl := vSame_eq _ _ b1
    have b2 := Nat.le_of_ble_eq_true b2
    have sub : ∀ b x, (c.st B).heap.get b = some x → s.heap.get b = some x := by
      intro b x hb
      rcases putAllO_get _ _ hb with h1 | ⟨_, h1⟩
      · exact footOk_get a3 _ (somes_mem h1)
      · rcases putAllO_get _ _ h1 with h2 | ⟨_, h2⟩
        · exact footOk_get a2 _ (somes_mem h2)
        · exact (hbase _ _ h2).1
    have hS' : SF φ s.heap.get c.n0 w := hn ▸ hS
    have hS0 : SRel φ (c.st B) w := hS'.part sub
    obtain ⟨v2, s2, ψ, n, w1, v3, w', q1, q2, q3, q4, q5⟩ := (run_ok hmix hSm hNum N).inv _ _ _ _ hrun .normal fr cs (.inl rfl) (.inl rfl) φ w _ args' hS0 (.fn (.func f) (.nil φ)) hargs
    cases q1
    refine ⟨ψ, n, w1, v3, w', by simpa [invoke] using q2, q3, ?_, q5⟩
    have key : PF φ s.heap.get c.n0 w ψ (putAllO c.out s.heap).get c.n1 w' := by
      refine Post.beside hS' sub q4 b2 fun b x hb => ?_
      rcases putAllO_get _ _ hb with h1 | ⟨h1, h2⟩
      · exact .inl (outOk_get b4 _ h1 x rfl)
      · rcases putAllO_named c.turned (putAllO (somes c.same) B) b with h3 | ⟨h3, h4⟩
        · obtain ⟨y, hy⟩ := Option.isSome_iff_exists.1 h3
          have hy' : s.heap.get b = some y := sub b y hy
          rw [h2] at hy'
          cases hy'
          rcases putAllO_get _ _ hy with h5 | ⟨_, h5⟩
          · have := List.all_eq_true.1 b5 _ (somes_mem h5)
            rw [h1] at this
            cases this
          · rcases putAllO_get _ _ h5 with h6 | ⟨_, h6⟩
            · exact .inl (footOk_get b3 _ (somes_mem h6))
            · exact .inr ⟨.inr (hbase _ _ h6).2, h2⟩
        · rcases putAllO_named c.same B b with h5 | ⟨h5, h6⟩
          · obtain ⟨y, hy⟩ := Option.isSome_iff_exists.1 h5
            have hy0 : (c.st B).heap.get b = some y := h4.trans hy
            have hy' := sub b y hy0
            rw [h2] at hy'
            cases hy'
            rcases putAllO_get _ _ hy with h7 | ⟨_, h7⟩
            · exact .inl (footOk_get b3 _ (somes_mem h7))
            · exact .inr ⟨.inr (hbase _ _ h7).2, h2⟩
          · cases hBb : B.get b with
            | none => exact .inr ⟨.inl ((h4.trans h6).trans hBb), h2⟩
            | some y =>
              obtain ⟨q1, q2⟩ := hbase _ _ hBb
              rw [h2] at q1
              cases q1
              exact .inr ⟨.inr q2, h2⟩
    rw [← hn] at key
    exact key
  · cases hgood
theorem baseM_get {g : Nat} {h B : Tr AObj} (e : baseM g h = some B) : ∃ m t, h.get g = some (.const [.int .i64 m] t) ∧ B = Tr.nil.set g (.const [.int .i64 m] t) := by
  unfold baseM baseM2 at e
  split at e
  · rename_i m t hb
    cases e
    exact ⟨m, t, hb, rfl⟩
  · cases e
theorem baseM_ok (g : Nat) : ∀ h B, baseM g h = some B → ∀ b x, B.get b = some x → h.get b = some x ∧ x.isConst = true := fun h B e b x hb => by
  obtain ⟨m, t, h1, rfl⟩ := baseM_get e
  rcases Tr.get_set hb with ⟨rfl, rfl⟩ | ⟨_, hb⟩
  · exact ⟨h1, rfl⟩
  · exact Tr.get_nil_no hb
theorem cuts_fastM {Sm : Summ} (hmix : P.follows .mixedOrders = true) (hSm : SmOk P Sm) (hNum : NumOk P) {f g : Nat} {l : List Cut} (hl : ∀ c ∈ l, ∀ m t, c.good (c.runs P Sm f (Tr.nil.set g (.const [.int .i64 m] t))) = true) : SmOk P (Sm.add f (sumCuts (baseM g) l)) :=
  cuts_ok (N := 1000000000) hmix hSm hNum (baseM_ok g) fun h B e c hc => by
    obtain ⟨m, t, _, rfl⟩ := baseM_get e
    have := hl c hc m t
    rwa [Cut.runs_eq] at this
end
end Go.Proofs.YtihplijjkcdcjaaGreatDoor.Abs

/-
  The evaluator's summary of bytes.Index serves, by the kit's contract.
-/
namespace Go.Proofs.YtihplijjkcdcjaaGreatDoor.Abs
section
set_option linter.unusedVariables false
variable {P : Program} {φ ψ : Phi} {w w' : World}
theorem nats8_some : ∀ {l : List Value} {xs : List Nat}, nats8 l = some xs → l = xs.map (fun n => Value.int .u8 (Int.ofNat n)) ∧ ∀ x ∈ xs, x < 256
  | [], xs, h => by cases h; exact ⟨rfl, fun x hx => by cases hx⟩
  | v :: l, xs, h => by
    have h' : (onByte v fun b => Option.rec none (fun l => some (b :: l)) (nats8 l)) = some xs := h
    unfold onByte at h'
    split at h'
    · rename_i b
      rw [ifb_eq] at h'
      split at h'
      · rename_i hb
        rw [natK_eq] at h'
        cases hx : nats8 l with
        | none => rw [hx] at h'; cases h'
        | some ys =>
          rw [hx] at h'
          cases h'
          obtain ⟨h1, h2⟩ := nats8_some hx
          refine ⟨by rw [h1]; rfl, fun x hx => ?_⟩
          rcases List.mem_cons.1 hx with rfl | hx
          · exact of_decide_eq_true (by simpa [Nat.blt_eq] using hb)
          · exact h2 x hx
      · cases h'
    · cases h'
def u8l (l : List Nat) : List UInt8 := l.map UInt8.ofNat
theorem u8_ofNat_beq {a b : Nat} (ha : a < 256) (hb : b < 256) : (UInt8.ofNat a == UInt8.ofNat b) = Nat.beq a b := by
  by_cases h : a = b
  · subst h; simp
  · have : UInt8.ofNat a ≠ UInt8.ofNat b := fun e => h (by
      have := congrArg UInt8.toNat e
      simp at this
      omega)
    have hb : Nat.beq a b = false := by
      cases hb : Nat.beq a b with
      | true => exact absurd (Nat.eq_of_beq_eq_true hb) h
      | false => rfl
    rw [hb]
    simpa using this
theorem preN_eq : ∀ {y x : List Nat}, (∀ a ∈ y, a < 256) → (∀ a ∈ x, a < 256) → preN y x = (u8l y).isPrefixOf (u8l x)
  | [], x, _, _ => by cases x <;> rfl
  | a :: y, [], _, _ => rfl
  | a :: y, b :: x, hy, hx => by
    have e : preN (a :: y) (b :: x) = ifb (Nat.beq a b) (preN y x) false := rfl
    rw [e, ifb_eq, preN_eq (fun c hc => hy c (List.mem_cons_of_mem _ hc)) (fun c hc => hx c (List.mem_cons_of_mem _ hc))]
    show _ = List.isPrefixOf (UInt8.ofNat a :: u8l y) (UInt8.ofNat b :: u8l x)
    rw [List.isPrefixOf, u8_ofNat_beq (hy a List.mem_cons_self) (hx b List.mem_cons_self)]
    cases Nat.beq a b <;> simp
theorem findN_eq {y : List Nat} (hy : ∀ a ∈ y, a < 256) : ∀ {x : List Nat} (i : Nat), (∀ a ∈ x, a < 256) → findN y x i = if Lib.index (u8l x) (u8l y) = -1 then none else some (i + (Lib.index (u8l x) (u8l y)).toNat)
  | [], i, _ => by
    show ifb (preN y []) (some i) none = _
    cases y with
    | nil => rfl
    | cons a y => rfl
  | b :: x, i, hx => by
    show ifb (preN y (b :: x)) (some i) (findN y x (i + 1)) = _
    rw [preN_eq hy hx, ifb_eq, findN_eq hy (i + 1) fun a ha => hx a (List.mem_cons_of_mem _ ha)]
    have ei : Lib.index (UInt8.ofNat b :: u8l x) (u8l y) = if (u8l y).isPrefixOf (UInt8.ofNat b :: u8l x) = true then 0 else if (Lib.index (u8l x) (u8l y) == -1) = true then -1 else Lib.index (u8l x) (u8l y) + 1 := rfl
    have e : u8l (b :: x) = UInt8.ofNat b :: u8l x := rfl
    rw [e, ei]
    have hge := Lib.index_ge (u8l x) (u8l y)
    generalize Lib.index (u8l x) (u8l y) = r at *
    split
    · rw [if_neg (by decide)]; simp
    · by_cases hr : r = -1
      · subst hr; rfl
      · have e3 : (if (r == -1) = true then (-1 : Int) else r + 1) = r + 1 := if_neg (by simpa using hr)
        rw [if_neg hr, e3, if_neg (by omega)]
        congr 1
        omega
theorem add_plain (b o i : Nat) : (⟨b, o, none⟩ : Addr).add i = ⟨b, o + i, none⟩ := by unfold Addr.add; split <;> simp_all
theorem optI_find {y x : List Nat} (hy : ∀ a ∈ y, a < 256) (hx : ∀ a ∈ x, a < 256) : optI (findN y x 0) = .int .i64 (Lib.index (u8l x) (u8l y)) := by
  rw [findN_eq hy 0 hx]
  have hge := Lib.index_ge (u8l x) (u8l y)
  generalize Lib.index (u8l x) (u8l y) = r at *
  by_cases hr : r = -1
  · subst hr; rfl
  · rw [if_neg hr]
    show Value.int .i64 (Int.ofNat (0 + r.toNat)) = _
    congr 1
    show ((0 + r.toNat : Nat) : Int) = r
    omega
/-- the kit's contract -/
def IdxOk (P : Program) (f g : Nat) : Prop :=
  ∀ (a1 a2 : Addr) (n c1 k c2 : Nat) (xs ys : List Int) (m : Int) (w : World), xs.length = n → ys.length = k → (∀ x ∈ xs, 0 ≤ x ∧ x < 256) → (∀ y ∈ ys, 0 ≤ y ∧ y < 256) →
    (∀ i, i < n → w.cell? (a1.add i) = some (.int .u8 (xs.getD i 0))) → (∀ i, i < k → w.cell? (a2.add i) = some (.int .u8 (ys.getD i 0))) → n ≤ c1 → n < 4294967281 → k ≤ 9223372036854775807 → w.cell? ⟨g, 0, none⟩ = some (.int .i64 m) →
    Calls P f #[.slice (some a1) n c1, .slice (some a2) k c2] w fun e w' => e = .returned (.int .i64 (Lib.index (Lib.bytesOf xs) (Lib.bytesOf ys))) ∧ ∃ q, w' = w.drewN q
theorem Post.drewN {st : St} (k : SRel φ st w) (q : Nat) : Post φ st w φ st (w.drewN q) :=
  ⟨⟨⟨k.mem.inj, k.mem.obj⟩, k.fresh, k.globals⟩, φ.le_refl, ⟨Nat.le_refl _, rfl, rfl, rfl, fun _ _ n => ⟨rfl, FrF.own n⟩⟩, Nat.le_refl _, fun _ _ => rfl⟩
/-- bytes of a slice, as the world holds them -/
theorem slice_bytes {s : St} (hS : SRel φ s w) {a : Addr} {n c : Nat} {x' : Value} (hn : 0 < n) (hx : VRel φ (.slice (some a) n c) x') {p : Nat × List Value} (h : srcCells s.heap 1 (.slice (some a) n c) = .ok p) {xs : List Nat} (hxs : nats8 p.2 = some xs) :
    ∃ a' c', x' = .slice (some a') n c' ∧ n ≤ c' ∧ xs.length = n ∧ ∀ i, i < n → w.cell? (a'.add i) = some (.int .u8 ((xs.map Int.ofNat).getD i 0)) := by
  obtain ⟨h1, h2⟩ := nats8_some hxs
  obtain ⟨b, o, sp⟩ := a
  have main : ∀ (L : Loc), φ b = some L → sp = none → p.2.length = n ∧ ∀ i, i < n → w.cell? ⟨L.blk, L.base + o + i, none⟩ = p.2[i]? := by
    intro L hL hsp
    subst hsp
    have key : ∀ l, (Rs.of 75 (cutN l o (n * 1))).bind (fun cs => Rs.ok (n, cs)) = .ok p → (∃ c ty fr, w.heap[L.blk]? = some (.cells c ty fr) ∧ CellsAt φ L l c) → p.2.length = n ∧ ∀ i, i < n → w.cell? ⟨L.blk, L.base + o + i, none⟩ = p.2[i]? := by
      intro l e1 ⟨c, ty, fr, hw, hc⟩
      obtain ⟨cs, h3, h4⟩ := Rs.bind_ok e1
      cases h4
      have hcut := Rs.of_ok h3
      rw [Nat.mul_one] at hcut
      obtain ⟨k1, k2⟩ := cutN_some hcut
      have hlen : cs.length = n := by rw [k2, List.length_take, List.length_drop]; omega
      refine ⟨hlen, fun i hi => ?_⟩
      have hi' : cs[i]? = l[o + i]? := by
        rw [k2, List.getElem?_take, if_pos hi, List.getElem?_drop]
      show _ = cs[i]?
      rw [hi']
      have hlt : o + i < l.length := by omega
      obtain ⟨v', q1, q2⟩ := hc (o + i) _ (List.getElem?_eq_getElem hlt)
      rw [cell_of hw, show L.base + o + i = L.base + (o + i) by omega, q1]
      have hv : cs[i]? = some l[o + i] := by rw [hi', List.getElem?_eq_getElem hlt]
      rw [show (n, cs).2 = cs from rfl] at h1
      rw [h1, List.getElem?_map, Option.map_eq_some_iff] at hv
      obtain ⟨z, _, hz⟩ := hv
      rw [List.getElem?_eq_getElem hlt, ← hz]
      rw [← hz] at q2
      cases q2
      rfl
    have h' : (match s.heap.get b with
      | some (.cells l _ _ _ _) => (Rs.of 75 (cutN l o (n * 1))).bind fun cs => Rs.ok (n, cs)
      | some (.const l _) => (Rs.of 75 (cutN l o (n * 1))).bind fun cs => Rs.ok (n, cs)
      | _ => .no 75 "") = .ok p := h
    split at h' <;> first | (cases h'; done) | skip
    · rename_i hb
      obtain ⟨c, fr, hw, hc, _⟩ := hS.mem.cellsAt hb hL
      exact key _ h' ⟨c, _, fr, hw, hc⟩
    · rename_i hb
      obtain ⟨o, hw, hor⟩ := hS.mem.objAt hb hL
      cases hor with
      | const hc => exact key _ h' ⟨_, _, _, hw, hc⟩
  have fin : ∀ (L : Loc), φ b = some L → sp = none → xs.length = n ∧ ∀ i, i < n → w.cell? ((⟨L.blk, L.base + o, none⟩ : Addr).add i) = some (.int .u8 ((xs.map Int.ofNat).getD i 0)) := by
    intro L hL hsp
    obtain ⟨k1, k2⟩ := main L hL hsp
    have hl : xs.length = n := by rw [← k1, h1, List.length_map]
    refine ⟨hl, fun i hi => ?_⟩
    rw [add_plain, k2 i hi, h1, List.getElem?_map, List.getElem?_eq_getElem (by omega)]
    simp [List.getD_eq_getElem?_getD, List.getElem?_map, List.getElem?_eq_getElem (show i < xs.length by omega)]
  cases hx with
  | slice o hL hc hn' =>
    obtain ⟨k1, k2⟩ := fin _ hL rfl
    exact ⟨_, _, rfl, hn', k1, k2⟩
  | room hL hs hc hn' =>
    obtain ⟨k1, k2⟩ := fin _ hL rfl
    exact ⟨_, _, rfl, hn', k1, k2⟩
  | full a hL ho => omega
theorem sumIdx_ok {f g : Nat} (hg : g < 4096) (enter : ∀ args w, (callFunc f args).run P w = .ok (.enter f args) w) (C : IdxOk P f g) {args : List Value} {s : St} {v : Value} {s1 : St} (h : sumIdx g args s = .ok (v, s1))
    (fr : Frame) (cs : List Frame) {args' : Array Value} (hS : SRel φ s w) (hl : LRel φ args args'.toList) :
    ∃ ψ n w1 v' w', (callFunc f args').run P w = .ok n w1 ∧ Ran P .normal fr cs n w1 v' w' ∧ Post φ s w ψ s1 w' ∧ VRel ψ v v' := by
  unfold sumIdx at h
  split at h <;> first | (cases h; done) | skip
  rename_i a n c b m d
  obtain ⟨hn, h⟩ := ifb_no h
  obtain ⟨hm, h⟩ := ifb_no h
  obtain ⟨hn2, h⟩ := ifb_no h
  obtain ⟨hm2, h⟩ := ifb_no h
  obtain ⟨B, hB, h⟩ := Rs.bind_ok h
  have hB := Rs.of_ok hB
  unfold sumIdx2 at h
  obtain ⟨p, h1, h⟩ := Rs.bind_ok h
  obtain ⟨xs, h2, h⟩ := Rs.bind_ok h
  obtain ⟨q, h3, h⟩ := Rs.bind_ok h
  obtain ⟨ys, h4, h⟩ := Rs.bind_ok h
  cases h
  have h2 := Rs.of_ok h2
  have h4 := Rs.of_ok h4
  have hn : 0 < n := by simpa [Nat.blt_eq] using hn
  have hm : 0 < m := by simpa [Nat.blt_eq] using hm
  have hn2 : n ≤ 1073741824 := Nat.le_of_ble_eq_true hn2
  have hm2 : m ≤ 1073741824 := Nat.le_of_ble_eq_true hm2
  obtain ⟨x', y', rfl, hx, hy⟩ : ∃ x' y', args' = #[x', y'] ∧ VRel φ (.slice (some a) n c) x' ∧ VRel φ (.slice (some b) m d) y' := by
    obtain ⟨hlen, hat⟩ := hl
    obtain ⟨l⟩ := args'
    match l, hlen with
    | [x', y'], _ => exact ⟨x', y', rfl, hat 0 _ _ rfl rfl, hat 1 _ _ rfl rfl⟩
  obtain ⟨a1, c1, rfl, k1, k2, k3⟩ := slice_bytes hS hn hx h1 h2
  obtain ⟨a2, c2, rfl, j1, j2, j3⟩ := slice_bytes hS hm hy h3 h4
  obtain ⟨mm, t, hgm, _⟩ := baseM_get hB
  obtain ⟨L, g1, o, g2, g3⟩ := hS.mem.obj _ _ hgm
  rw [hS.globals _ hg] at g1
  cases g1
  have hcell : w.cell? ⟨g, 0, none⟩ = some (.int .i64 mm) := by
    cases g3 with
    | const hc =>
      obtain ⟨v', q1, q2⟩ := hc 0 _ rfl
      cases q2
      rw [cell_of g2]
      simpa using q1
  obtain ⟨r1, r2⟩ := nats8_some h2
  obtain ⟨t1, t2⟩ := nats8_some h4
  have rng : ∀ {zs : List Nat}, (∀ x ∈ zs, x < 256) → ∀ x ∈ zs.map Int.ofNat, 0 ≤ x ∧ x < 256 := fun h x hx => by
    obtain ⟨z, hz, rfl⟩ := List.mem_map.1 hx
    have := h z hz
    show 0 ≤ ((z : Nat) : Int) ∧ ((z : Nat) : Int) < 256
    omega
  have hcall := C a1 a2 n c1 m c2 (xs.map Int.ofNat) (ys.map Int.ofNat) mm w (by rw [List.length_map, k2]) (by rw [List.length_map, j2]) (rng r2) (rng t2) k3 j3 k1 (by omega) (by omega) hcell
  obtain ⟨v', w', ⟨e1, qn, rfl⟩, hran⟩ := ran_of_calls hcall (fun e w' hx => ⟨_, hx.1⟩) fr cs
  cases e1
  have eb : ∀ zs : List Nat, Lib.bytesOf (zs.map Int.ofNat) = u8l zs := fun zs => by
    unfold Lib.bytesOf u8l
    rw [List.map_map]
    rfl
  refine ⟨φ, _, _, _, _, enter _ w, hran, Post.drewN hS qn, ?_⟩
  rw [eb, eb, optI_find t2 r2]
  exact .int _ _
end
end Go.Proofs.YtihplijjkcdcjaaGreatDoor.Abs

