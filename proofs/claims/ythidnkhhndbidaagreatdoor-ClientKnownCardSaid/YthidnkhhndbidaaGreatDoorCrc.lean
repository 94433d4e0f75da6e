/-
  crc.More at the evaluator: what it answers.
-/
import Derived.Test.YthidnkhhndbidaaGreatDoorEvA
import Derived.Test.YthidnkhhndbidaaGreatDoorSumDef
import Derived.Test.YthidnkhhndbidaaGreatDoorTy
namespace Go.Proofs.YthidnkhhndbidaaGreatDoor
open Abs
set_option maxHeartbeats 16000000
set_option maxRecDepth 20000
set_option linter.unusedSimpArgs false
attribute [local irreducible] Abs.Ev Abs.EvF Abs.EvO Abs.EvA Abs.Seq Abs.Blk Abs.Body Abs.Scp Abs.EvG Abs.EvAg Abs.Nx
attribute [local go_sem] Abs.EvO_k Abs.bind_ok Abs.of_some Abs.ifb_true Abs.ifb_false Abs.ifb_blt Abs.ifb_ble Abs.ifb_beq Abs.ifb_and Abs.ifb_or Abs.ifb_not Abs.ifb_decide Abs.sayV_ok Abs.get_same Abs.get_other Abs.ofList_nil Abs.ofList_cons Abs.upd_none Abs.upd_some Abs.ev_tmp Abs.ev_int Abs.ev_bool Abs.ev_str Abs.ev_nilp Abs.ev_nils Abs.ev_nilm Abs.ev_nilf Abs.ev_nili Abs.ev_global Abs.ev_func Abs.mapR_nil Abs.mapR_cons Abs.do_move Abs.do_assign Abs.do_pick Abs.do_binOp Abs.do_unOp Abs.do_makeIface Abs.do_makeFunc Abs.do_fieldAddr Abs.do_field Abs.do_indexAddr Abs.do_index Abs.do_extract Abs.do_nilCheck Abs.do_build Abs.do_typeAssert Abs.do_load Abs.do_slice Abs.do_lookup Abs.do_builtin Abs.do_alloc Abs.do_box Abs.do_store Abs.do_convert Abs.do_makeMap Abs.do_mapUpdate Abs.do_range Abs.do_next Abs.do_entry Abs.bin_add Abs.bin_sub Abs.bin_mul Abs.bin_rem Abs.bin_quo Abs.bin_eql Abs.bin_neq Abs.bin_lss Abs.bin_leq Abs.bin_gtr Abs.bin_geq Abs.un_not Abs.un_xor_u32 Abs.wrap_i64 Abs.wrap_u64 Abs.wrap_u32 Abs.wrap_u8 Abs.idx_int Abs.bnd_int Abs.addA_eq Abs.pIndexAddr2 Abs.ptrR_ok if_pos if_neg List.toList_toArray Abs.undT_eq Nat.mul_one Nat.zero_add Abs.pIndexAddr Abs.pLoad Abs.pLoad2 Abs.turn Abs.eStore Abs.cvOf Abs.pConv Abs.pConvI Abs.pConvS Abs.pField Abs.pFieldAddr Abs.pFieldAddr2 Abs.pIndex Abs.indexStr_int Abs.pSlice Abs.pSlice1 Abs.pSlice2 Abs.pSliceStr Abs.pSliceKnown Abs.pSliceOpen Abs.openCap Abs.cutIx Abs.optN Abs.sliceV Abs.pBuiltin Abs.pBuiltin1 Abs.pLen2 Abs.pCap2 Abs.pFold Abs.pMin Abs.pMax Abs.eBuiltin Abs.eCopy Abs.eDelete Abs.pick_bool Abs.pNilCheck Abs.pExtract Abs.pIface Abs.part Abs.bin_str Abs.aBinStr Abs.aBinEq Abs.pLookup Abs.mapOf Abs.cellsOf Abs.ptrTo Abs.St.put_eq Abs.St.new_eq Abs.nth_eq Abs.lenN_eq Abs.over_eq List.length_cons List.length_nil List.all_cons List.all_nil Bool.and_true Abs.oneB Nat.add_zero Array.toList_empty List.append_nil Int.ofNat_eq_natCast List.getElem?_toArray List.getElem?_cons_zero List.getElem?_cons_succ Abs.objCells_cells Abs.objCells_const Abs.bin_and_u8 Abs.bin_or_u8 Abs.bin_xor_u8 Abs.bin_shr_u8 Abs.bin_and_u16 Abs.bin_or_u16 Abs.bin_xor_u16 Abs.bin_shr_u16 Abs.bin_and_u32 Abs.bin_or_u32 Abs.bin_xor_u32 Abs.bin_shr_u32 Abs.bin_and_u64 Abs.bin_or_u64 Abs.bin_xor_u64 Abs.bin_shr_u64 Abs.bin_and_i64 Abs.bin_or_i64 Abs.bin_xor_i64 Abs.bin_shr_i64 Abs.bin_and_i32 Abs.bin_or_i32 Abs.bin_xor_i32 Abs.bin_shr_i32 Int.toNat_natCast Int.reduceToNat Abs.str_eql Abs.str_neq Abs.EvA_ok ite_true ite_false Abs.over_set List.take_zero List.nil_append List.drop_of_length_le Option.toList_some Option.toList_none List.take_length List.drop_succ_cons List.drop_zero Abs.mkStr Abs.str_lss Abs.str_gtr beq_self_eq_true Bool.not_true Bool.not_false Int.reduceAdd Int.reduceSub Abs.EvG_some Abs.true_imp Abs.false_imp Abs.true_no Abs.false_no Abs.ev_is Abs.vEq2_int Abs.vEq2_bool Abs.vEq2_str Abs.vEq2_ptr Abs.vEq2_slice Abs.vEq2_nils Abs.vEq2_map Abs.a_alloc Abs.a_box Abs.a_lit Abs.a_map Abs.a_conv Abs.do_lit Abs.do_mkslice Abs.mk_map Abs.litT_ok Abs.lit0 Abs.slT_ok Abs.ptT_ok Abs.mpT_ok Abs.eql_snil Abs.eql_ssome Abs.neq_snil Abs.neq_ssome Abs.eql_pnil Abs.eql_psome Abs.neq_pnil Abs.neq_psome decide_eq_true_eq decide_eq_false_iff_not true_and and_true eq_self Bool.false_eq_true Bool.true_eq_false true_implies false_implies Abs.tup_one Abs.tup_two Abs.tup_three Abs.tup_none Abs.res_tmp Abs.res_cell Abs.p_move Abs.p_assign Abs.p_pick Abs.p_binOp Abs.p_unOp Abs.p_convert Abs.p_iface Abs.p_fieldAddr Abs.p_field Abs.p_indexAddr Abs.p_index Abs.p_extract Abs.p_nilCheck Abs.p_build Abs.p_load Abs.p_slice Abs.p_lookup Abs.p_builtin Abs.EvAg_some Abs.un_neg Abs.shl_u32 Abs.shl_u64
section
theorem crcBit_lt {c : Nat} (h : c < 4294967296) : crcBit c < 4294967296 := by
  have h1 : c >>> 1 < 2 ^ 32 := by rw [Nat.shiftRight_eq_div_pow]; omega
  unfold crcBit
  rw [ifb_beq]
  split
  · exact Nat.xor_lt_two_pow (n := 32) h1 (by decide)
  · exact h1
theorem crcBits_succ (c j : Nat) : crcBits c (j + 1) = crcBit (crcBits c j) := natK_eq _ _
theorem crcBits_lt {c : Nat} (h : c < 4294967296) (j : Nat) : crcBits c j < 4294967296 := by
  induction j with
  | zero => exact h
  | succ j ih => rw [crcBits_succ]; exact crcBit_lt ih
theorem crcGo_cons (v : Value) (l : List Value) (c : Nat) : crcGo (v :: l) c = crcStep v c (crcGo l) := rfl
theorem crcStep_some {v : Value} {c r : Nat} {k : Nat → Option Nat} (h : crcStep v c k = some r) : ∃ b : Nat, b < 256 ∧ v = .int .u8 (b : Int) ∧ k (crcByte c b) = some r := by
  unfold crcStep at h
  split at h
  · rename_i b
    rw [ifb_blt, natK_eq] at h
    split at h
    · exact ⟨b, ‹_›, rfl, h⟩
    · cases h
  · cases h
theorem crcBit_odd {c : Nat} (h : c &&& 1 = 1) : crcBit c = (c >>> 1) ^^^ 2197175160 := by
  unfold crcBit
  rw [ifb_beq]
  exact if_pos h
theorem crcBit_even {c : Nat} (h : ¬ c &&& 1 = 1) : crcBit c = c >>> 1 := by
  unfold crcBit
  rw [ifb_beq]
  exact if_neg h
theorem shr32 {c : Nat} (h : c < 4294967296) : c >>> 1 < 4294967296 := by rw [Nat.shiftRight_eq_div_pow]; omega
theorem nat_xor (a b : Nat) : Nat.xor a b = a ^^^ b := rfl
theorem xor32 {c : Nat} (h : c < 4294967296) : 4294967295 ^^^ c < 4294967296 := Nat.xor_lt_two_pow (n := 32) (by decide) h
variable {Sm : Summ}
theorem crc_says (hs : Sm 256 = none) : EvSays Tryz.prog Sm 256 sumCrc := by
  intro args s v s1 hwf h
  unfold sumCrc at h
  split at h <;> first | (cases h; done) | skip
  rename_i c0 A n k0
  rw [ifb_blt, ifb_ble] at h
  split at h <;> first | (cases h; done) | skip
  rename_i hc0
  split at h <;> first | (cases h; done) | skip
  rename_i hn0
  obtain ⟨q, hq, h⟩ := Rs.bind_ok h
  obtain ⟨r, hr, h⟩ := Rs.bind_ok h
  have hr := Rs.of_ok hr
  simp only [nat_xor] at hr h ⊢
  obtain ⟨rfl, rfl⟩ : v = .int .u32 (.ofNat (4294967295 ^^^ r)) ∧ s1 = s := by cases h; exact ⟨rfl, rfl⟩
  refine Ev.func hs Tryz.func256 rfl (m := 35) rfl ?_
  obtain ⟨b, o, sp⟩ := A
  cases sp with
  | some _ => cases hq
  | none =>
  simp only [Array.toList_empty, List.append_nil, ofList_cons, ofList_nil]
  have hcell : ∃ l, objCells (s1.heap.get b) = .ok l ∧ cutN l o n = some q.2 ∧ q.1 = n := by
    simp only [srcCells, Nat.mul_one] at hq
    split at hq <;> first | (cases hq; done) | skip
    · obtain ⟨cs, h1, h2⟩ := Rs.bind_ok hq
      rename_i l _ _ _ _ hb
      cases h2
      exact ⟨l, by rw [hb]; rfl, Rs.of_ok h1, rfl⟩
    · obtain ⟨cs, h1, h2⟩ := Rs.bind_ok hq
      rename_i l _ hb
      cases h2
      exact ⟨l, by rw [hb]; rfl, Rs.of_ok h1, rfl⟩
  obtain ⟨l, hl, hcut, hqn⟩ := hcell
  obtain ⟨hn, hql⟩ := cutN_some hcut
  generalize q.2 = q2 at hcut hql hr
  clear hqn
  have hlen : q2.length = n := by rw [hql, List.length_take, List.length_drop]; omega
  have hget : ∀ i, i < n → l[o + i]? = q2[i]? := by
    intro i hi
    rw [hql, List.getElem?_take_of_lt hi, List.getElem?_drop]
  clear hql hcut hn hq h
  repeat (first | refine Abs.Ev.seq ?_ | refine Abs.Ev.region ?_ | refine Abs.Ev.block ?_ | refine Abs.Ev.skip ?_ | refine Abs.Ev.exit ?_ | refine Abs.Ev.ret ?_ | refine Abs.Ev.runNil ?_ | refine Abs.Ev.stepsNil ?_ | refine Abs.Seq.go ?_ | refine Abs.Seq.off ?_ | refine Abs.Blk.here ?_ | refine Abs.Blk.go ?_ | refine Abs.Blk.off rfl ?_ | refine Abs.Blk.ret ?_ | refine Abs.Ev.label ?_ | refine Abs.Ev.scope ?_ | refine Abs.Ev.condY (Abs.get_same _ _ _) ?_ | refine Abs.Ev.condN (Abs.get_same _ _ _) ?_ | refine Abs.Ev.step' rfl rfl rfl ?_ | refine Abs.Ev.stepG' rfl rfl rfl rfl ?_ | (refine Abs.Nx.go ?_; (first | simp (disch := first | omega | assumption) only [go_sem, Tryz.underlying43] | skip)) | fail)
  refine Ev.loop (fun k a s' => s' = s1 ∧ ∃ T c i, a = ⟨T, 35, []⟩ ∧ T.get 5 = some (.int .u32 ((c : Nat) : Int)) ∧ T.get 11 = some (.slice (some ⟨b, o, none⟩) n k0) ∧ T.get 12 = some (.int .i64 (n : Int)) ∧ T.get 13 = some (.int .i64 ((i : Nat) : Int)) ∧ c < 4294967296 ∧ i ≤ n ∧ crcGo (q2.drop i) c = some r ∧ k = n - i) (k := n)
    ⟨rfl, _, 4294967295 ^^^ c0, 0, rfl, ?g5, ?g11, ?g12, ?g13, xor32 hc0, Nat.zero_le _, by rw [List.drop_zero]; exact hr, rfl⟩ ?_
  case g5 => simp (disch := omega) only [go_sem]
  case g11 => simp (disch := omega) only [go_sem]
  case g12 => simp (disch := omega) only [go_sem]
  case g13 => simp (disch := omega) only [go_sem]; rfl
  rintro m a s' ⟨rfl, T, c, i, rfl, h5, h11, h12, h13, hc, hi, hgo, rfl⟩
  repeat (first | refine Abs.Ev.seq ?_ | refine Abs.Ev.region ?_ | refine Abs.Ev.block ?_ | refine Abs.Ev.skip ?_ | refine Abs.Ev.exit ?_ | refine Abs.Ev.ret ?_ | refine Abs.Ev.runNil ?_ | refine Abs.Ev.stepsNil ?_ | refine Abs.Seq.go ?_ | refine Abs.Seq.off ?_ | refine Abs.Blk.here ?_ | refine Abs.Blk.go ?_ | refine Abs.Blk.off rfl ?_ | refine Abs.Blk.ret ?_ | refine Abs.Ev.label ?_ | refine Abs.Ev.scope ?_ | refine Abs.Ev.condY (Abs.get_same _ _ _) ?_ | refine Abs.Ev.condN (Abs.get_same _ _ _) ?_ | refine Abs.Ev.step' rfl rfl rfl ?_ | refine Abs.Ev.stepG' rfl rfl rfl rfl ?_ | (refine Abs.Nx.go ?_; (first | simp (disch := first | omega | assumption) only [go_sem, h5, h11, h12, h13] | skip)) | fail)
  refine Ev.condT (get_same _ _ _) (fun hb => ?_) (fun hb => ?_)
  · have hlt : i < n := by have := of_decide_eq_true hb; omega
    have hd : q2.drop i = q2[i]'(by omega) :: q2.drop (i + 1) := List.drop_eq_getElem_cons (by omega)
    rw [hd, crcGo_cons] at hgo
    obtain ⟨x, hx, hv, hgo⟩ := crcStep_some hgo
    have hv' : l[o + i]? = some (.int .u8 (x : Int)) := by rw [hget i hlt, List.getElem?_eq_getElem (by omega), hv]
    clear hd hv hb
    repeat (first | refine Abs.Ev.seq ?_ | refine Abs.Ev.region ?_ | refine Abs.Ev.block ?_ | refine Abs.Ev.skip ?_ | refine Abs.Ev.exit ?_ | refine Abs.Ev.ret ?_ | refine Abs.Ev.runNil ?_ | refine Abs.Ev.stepsNil ?_ | refine Abs.Seq.go ?_ | refine Abs.Seq.off ?_ | refine Abs.Blk.here ?_ | refine Abs.Blk.go ?_ | refine Abs.Blk.off rfl ?_ | refine Abs.Blk.ret ?_ | refine Abs.Ev.label ?_ | refine Abs.Ev.scope ?_ | refine Abs.Ev.condY (Abs.get_same _ _ _) ?_ | refine Abs.Ev.condN (Abs.get_same _ _ _) ?_ | refine Abs.Ev.step' rfl rfl rfl ?_ | refine Abs.Ev.stepG' rfl rfl rfl rfl ?_ | (refine Abs.Nx.go ?_; (first | simp (disch := first | omega | assumption) only [go_sem, h5, h11, h12, h13, Tryz.underlying43, Tryz.underlying5, Tryz.underlying97, Ty.sz5, Ty.ag5, hl, hv'] | skip)) | fail)
    refine Ev.loop (fun k a s'' => s'' = s' ∧ ∃ T j, a = ⟨T, 35, []⟩ ∧ T.get 5 = some (.int .u32 ((crcBits (c ^^^ x) j : Nat) : Int)) ∧ T.get 11 = some (.slice (some ⟨b, o, none⟩) n k0) ∧ T.get 12 = some (.int .i64 (n : Int)) ∧ T.get 13 = some (.int .i64 (i : Int)) ∧ T.get 21 = some (.int .i64 ((j : Nat) : Int)) ∧ j ≤ 8 ∧ k = 8 - j) (k := 8)
      ⟨rfl, _, 0, rfl, ?g5, ?g11, ?g12, ?g13, ?g21, by omega, rfl⟩ ?_
    case g5 => simp (disch := omega) only [go_sem]; rfl
    case g11 => simp (disch := omega) only [go_sem, h11]
    case g12 => simp (disch := omega) only [go_sem, h12]
    case g13 => simp (disch := omega) only [go_sem, h13]
    case g21 => simp (disch := omega) only [go_sem]; rfl
    clear h5 h11 h12 h13 T
    rintro m a s'' ⟨rfl, T, j, rfl, h5, h11, h12, h13, h21, hj, rfl⟩
    have hcx : c ^^^ x < 4294967296 := Nat.xor_lt_two_pow (n := 32) hc (by omega)
    have hcj := crcBits_lt hcx j
    repeat (first | refine Abs.Ev.seq ?_ | refine Abs.Ev.region ?_ | refine Abs.Ev.block ?_ | refine Abs.Ev.skip ?_ | refine Abs.Ev.exit ?_ | refine Abs.Ev.ret ?_ | refine Abs.Ev.runNil ?_ | refine Abs.Ev.stepsNil ?_ | refine Abs.Seq.go ?_ | refine Abs.Seq.off ?_ | refine Abs.Blk.here ?_ | refine Abs.Blk.go ?_ | refine Abs.Blk.off rfl ?_ | refine Abs.Blk.ret ?_ | refine Abs.Ev.label ?_ | refine Abs.Ev.scope ?_ | refine Abs.Ev.condY (Abs.get_same _ _ _) ?_ | refine Abs.Ev.condN (Abs.get_same _ _ _) ?_ | refine Abs.Ev.step' rfl rfl rfl ?_ | refine Abs.Ev.stepG' rfl rfl rfl rfl ?_ | (refine Abs.Nx.go ?_; (first | simp (disch := first | omega | assumption) only [go_sem, h5, h11, h12, h13, h21] | skip)) | fail)
    refine Ev.condT (get_same _ _ _) (fun hb => ?_) (fun hb => ?_)
    · have hb := of_decide_eq_true hb
      have hsh := shr32 hcj
      repeat (first | refine Abs.Ev.seq ?_ | refine Abs.Ev.region ?_ | refine Abs.Ev.block ?_ | refine Abs.Ev.skip ?_ | refine Abs.Ev.exit ?_ | refine Abs.Ev.ret ?_ | refine Abs.Ev.runNil ?_ | refine Abs.Ev.stepsNil ?_ | refine Abs.Seq.go ?_ | refine Abs.Seq.off ?_ | refine Abs.Blk.here ?_ | refine Abs.Blk.go ?_ | refine Abs.Blk.off rfl ?_ | refine Abs.Blk.ret ?_ | refine Abs.Ev.label ?_ | refine Abs.Ev.scope ?_ | refine Abs.Ev.condY (Abs.get_same _ _ _) ?_ | refine Abs.Ev.condN (Abs.get_same _ _ _) ?_ | refine Abs.Ev.step' rfl rfl rfl ?_ | refine Abs.Ev.stepG' rfl rfl rfl rfl ?_ | (refine Abs.Nx.go ?_; (first | simp (disch := first | omega | assumption) only [go_sem, h5, h21] | skip)) | fail)
      refine Ev.condT (get_same _ _ _) (fun hc1 => ?_) (fun hc1 => ?_)
      · have hc1 := of_decide_eq_true hc1
        repeat (first | refine Abs.Ev.seq ?_ | refine Abs.Ev.region ?_ | refine Abs.Ev.block ?_ | refine Abs.Ev.skip ?_ | refine Abs.Ev.exit ?_ | refine Abs.Ev.ret ?_ | refine Abs.Ev.runNil ?_ | refine Abs.Ev.stepsNil ?_ | refine Abs.Seq.go ?_ | refine Abs.Seq.off ?_ | refine Abs.Blk.here ?_ | refine Abs.Blk.go ?_ | refine Abs.Blk.off rfl ?_ | refine Abs.Blk.ret ?_ | refine Abs.Ev.label ?_ | refine Abs.Ev.scope ?_ | refine Abs.Ev.condY (Abs.get_same _ _ _) ?_ | refine Abs.Ev.condN (Abs.get_same _ _ _) ?_ | refine Abs.Ev.step' rfl rfl rfl ?_ | refine Abs.Ev.stepG' rfl rfl rfl rfl ?_ | (refine Abs.Nx.go ?_; (first | simp (disch := first | omega | assumption) only [go_sem, h21] | skip)) | fail)
        refine ⟨8 - (j + 1), by omega, rfl, _, j + 1, rfl, ?_, ?_, ?_, ?_, ?_, by omega, rfl⟩
        · simp (disch := omega) only [go_sem]
          rw [crcBits_succ, crcBit_odd (by omega)]
        · simp (disch := omega) only [go_sem, h11]
        · simp (disch := omega) only [go_sem, h12]
        · simp (disch := omega) only [go_sem, h13]
        · simp (disch := omega) only [go_sem, Int.natCast_add, Int.natCast_one]
      · have hc1 := of_decide_eq_false hc1
        repeat (first | refine Abs.Ev.seq ?_ | refine Abs.Ev.region ?_ | refine Abs.Ev.block ?_ | refine Abs.Ev.skip ?_ | refine Abs.Ev.exit ?_ | refine Abs.Ev.ret ?_ | refine Abs.Ev.runNil ?_ | refine Abs.Ev.stepsNil ?_ | refine Abs.Seq.go ?_ | refine Abs.Seq.off ?_ | refine Abs.Blk.here ?_ | refine Abs.Blk.go ?_ | refine Abs.Blk.off rfl ?_ | refine Abs.Blk.ret ?_ | refine Abs.Ev.label ?_ | refine Abs.Ev.scope ?_ | refine Abs.Ev.condY (Abs.get_same _ _ _) ?_ | refine Abs.Ev.condN (Abs.get_same _ _ _) ?_ | refine Abs.Ev.step' rfl rfl rfl ?_ | refine Abs.Ev.stepG' rfl rfl rfl rfl ?_ | (refine Abs.Nx.go ?_; (first | simp (disch := first | omega | assumption) only [go_sem, h21] | skip)) | fail)
        refine ⟨8 - (j + 1), by omega, rfl, _, j + 1, rfl, ?_, ?_, ?_, ?_, ?_, by omega, rfl⟩
        · simp (disch := omega) only [go_sem]
          rw [crcBits_succ, crcBit_even (by omega)]
        · simp (disch := omega) only [go_sem, h11]
        · simp (disch := omega) only [go_sem, h12]
        · simp (disch := omega) only [go_sem, h13]
        · simp (disch := omega) only [go_sem, Int.natCast_add, Int.natCast_one]
    · have hb := of_decide_eq_false hb
      obtain rfl : j = 8 := by omega
      repeat (first | refine Abs.Ev.seq ?_ | refine Abs.Ev.region ?_ | refine Abs.Ev.block ?_ | refine Abs.Ev.skip ?_ | refine Abs.Ev.exit ?_ | refine Abs.Ev.ret ?_ | refine Abs.Ev.runNil ?_ | refine Abs.Ev.stepsNil ?_ | refine Abs.Seq.go ?_ | refine Abs.Seq.off ?_ | refine Abs.Blk.here ?_ | refine Abs.Blk.go ?_ | refine Abs.Blk.off rfl ?_ | refine Abs.Blk.ret ?_ | refine Abs.Ev.label ?_ | refine Abs.Ev.scope ?_ | refine Abs.Ev.condY (Abs.get_same _ _ _) ?_ | refine Abs.Ev.condN (Abs.get_same _ _ _) ?_ | refine Abs.Ev.step' rfl rfl rfl ?_ | refine Abs.Ev.stepG' rfl rfl rfl rfl ?_ | (refine Abs.Nx.go ?_; (first | simp (disch := first | omega | assumption) only [go_sem, h5, h11, h12, h13] | skip)) | fail)
      refine ⟨n - (i + 1), by omega, rfl, _, crcBits (c ^^^ x) 8, i + 1, rfl, ?_, ?_, ?_, ?_, hcj, hlt, hgo, rfl⟩
      · simp (disch := omega) only [go_sem, h5]
      · simp (disch := omega) only [go_sem, h11]
      · simp (disch := omega) only [go_sem, h12]
      · simp (disch := omega) only [go_sem, Int.natCast_add, Int.natCast_one]
  · have hb := of_decide_eq_false hb
    obtain rfl : i = n := by omega
    rw [List.drop_of_length_le (by omega)] at hgo
    obtain rfl : c = r := Option.some.inj hgo
    repeat (first | refine Abs.Ev.seq ?_ | refine Abs.Ev.region ?_ | refine Abs.Ev.block ?_ | refine Abs.Ev.skip ?_ | refine Abs.Ev.exit ?_ | refine Abs.Ev.ret ?_ | refine Abs.Ev.runNil ?_ | refine Abs.Ev.stepsNil ?_ | refine Abs.Seq.go ?_ | refine Abs.Seq.off ?_ | refine Abs.Blk.here ?_ | refine Abs.Blk.go ?_ | refine Abs.Blk.off rfl ?_ | refine Abs.Blk.ret ?_ | refine Abs.Ev.label ?_ | refine Abs.Ev.scope ?_ | refine Abs.Ev.condY (Abs.get_same _ _ _) ?_ | refine Abs.Ev.condN (Abs.get_same _ _ _) ?_ | refine Abs.Ev.step' rfl rfl rfl ?_ | refine Abs.Ev.stepG' rfl rfl rfl rfl ?_ | (refine Abs.Nx.go ?_; (first | simp (disch := first | omega | assumption) only [go_sem, h5] | skip)) | fail)
    exact Body.ret rfl (res_one (get_same _ _ _)) ⟨s', rfl, St.below_refl _⟩
end
end Go.Proofs.YthidnkhhndbidaaGreatDoor
