/-
  strings.Trim at the evaluator, where the cutset is ASCII (at least two letters): what it answers.
-/
import Derived.Test.YthidnkhhndbidaaGreatDoorEvA
import Derived.Test.YthidnkhhndbidaaGreatDoorTy
namespace Go.Proofs.YthidnkhhndbidaaGreatDoor
open Abs
set_option maxHeartbeats 16000000
set_option maxRecDepth 20000
set_option linter.unusedSimpArgs false
attribute [local irreducible] Abs.Ev Abs.EvF Abs.EvO Abs.EvA Abs.Seq Abs.Blk Abs.Body Abs.Scp Abs.EvG Abs.EvAg Abs.Nx
attribute [local go_sem] Abs.EvO_k Abs.bind_ok Abs.of_some Abs.ifb_true Abs.ifb_false Abs.ifb_blt Abs.ifb_ble Abs.ifb_beq Abs.ifb_and Abs.ifb_or Abs.ifb_not Abs.ifb_decide Abs.sayV_ok Abs.get_same Abs.get_other Abs.ofList_nil Abs.ofList_cons Abs.upd_none Abs.upd_some Abs.ev_tmp Abs.ev_int Abs.ev_bool Abs.ev_str Abs.ev_nilp Abs.ev_nils Abs.ev_nilm Abs.ev_nilf Abs.ev_nili Abs.ev_global Abs.ev_func Abs.mapR_nil Abs.mapR_cons Abs.do_move Abs.do_assign Abs.do_pick Abs.do_binOp Abs.do_unOp Abs.do_makeIface Abs.do_makeFunc Abs.do_fieldAddr Abs.do_field Abs.do_indexAddr Abs.do_index Abs.do_extract Abs.do_nilCheck Abs.do_build Abs.do_typeAssert Abs.do_load Abs.do_slice Abs.do_lookup Abs.do_builtin Abs.do_alloc Abs.do_box Abs.do_store Abs.do_convert Abs.do_makeMap Abs.do_mapUpdate Abs.do_range Abs.do_next Abs.do_entry Abs.bin_add Abs.bin_sub Abs.bin_mul Abs.bin_rem Abs.bin_quo Abs.bin_eql Abs.bin_neq Abs.bin_lss Abs.bin_leq Abs.bin_gtr Abs.bin_geq Abs.un_not Abs.un_xor_u32 Abs.wrap_i64 Abs.wrap_u64 Abs.wrap_u32 Abs.wrap_u8 Abs.idx_int Abs.bnd_int Abs.addA_eq Abs.pIndexAddr2 Abs.ptrR_ok if_pos if_neg List.toList_toArray Abs.undT_eq Nat.mul_one Nat.zero_add Abs.pIndexAddr Abs.pLoad Abs.pLoad2 Abs.turn Abs.eStore Abs.cvOf Abs.pConv Abs.pConvI Abs.pConvS Abs.pField Abs.pFieldAddr Abs.pFieldAddr2 Abs.pIndex Abs.indexStr_int Abs.pSlice Abs.pSlice1 Abs.pSlice2 Abs.pSliceStr Abs.pSliceKnown Abs.pSliceOpen Abs.openCap Abs.cutIx Abs.optN Abs.sliceV Abs.pBuiltin Abs.pBuiltin1 Abs.pLen2 Abs.pCap2 Abs.pFold Abs.pMin Abs.pMax Abs.eBuiltin Abs.eCopy Abs.eDelete Abs.pick_bool Abs.pNilCheck Abs.pExtract Abs.pIface Abs.part Abs.bin_str Abs.aBinStr Abs.aBinEq Abs.pLookup Abs.mapOf Abs.cellsOf Abs.ptrTo Abs.St.put_eq Abs.St.new_eq Abs.nth_eq Abs.lenN_eq Abs.over_eq List.length_cons List.length_nil List.all_cons List.all_nil Bool.and_true Abs.oneB Nat.add_zero Array.toList_empty List.append_nil Int.ofNat_eq_natCast List.getElem?_toArray List.getElem?_cons_zero List.getElem?_cons_succ Abs.objCells_cells Abs.objCells_const Abs.bin_and_u8 Abs.bin_or_u8 Abs.bin_xor_u8 Abs.bin_shr_u8 Abs.bin_and_u16 Abs.bin_or_u16 Abs.bin_xor_u16 Abs.bin_shr_u16 Abs.bin_and_u32 Abs.bin_or_u32 Abs.bin_xor_u32 Abs.bin_shr_u32 Abs.bin_and_u64 Abs.bin_or_u64 Abs.bin_xor_u64 Abs.bin_shr_u64 Abs.bin_and_i64 Abs.bin_or_i64 Abs.bin_xor_i64 Abs.bin_shr_i64 Abs.bin_and_i32 Abs.bin_or_i32 Abs.bin_xor_i32 Abs.bin_shr_i32 Int.toNat_natCast Int.reduceToNat Abs.str_eql Abs.str_neq Abs.EvA_ok ite_true ite_false Abs.over_set List.take_zero List.nil_append List.drop_of_length_le Option.toList_some Option.toList_none List.take_length List.drop_succ_cons List.drop_zero Abs.mkStr Abs.str_lss Abs.str_gtr beq_self_eq_true Bool.not_true Bool.not_false Int.reduceAdd Int.reduceSub Abs.EvG_some Abs.true_imp Abs.false_imp Abs.true_no Abs.false_no Abs.ev_is Abs.vEq2_int Abs.vEq2_bool Abs.vEq2_str Abs.vEq2_ptr Abs.vEq2_slice Abs.vEq2_nils Abs.vEq2_map Abs.a_alloc Abs.a_box Abs.a_lit Abs.a_map Abs.a_conv Abs.do_lit Abs.do_mkslice Abs.mk_map Abs.litT_ok Abs.lit0 Abs.slT_ok Abs.ptT_ok Abs.mpT_ok Abs.eql_snil Abs.eql_ssome Abs.neq_snil Abs.neq_ssome Abs.eql_pnil Abs.eql_psome Abs.neq_pnil Abs.neq_psome decide_eq_true_eq decide_eq_false_iff_not true_and and_true eq_self Bool.false_eq_true Bool.true_eq_false true_implies false_implies Abs.tup_one Abs.tup_two Abs.tup_three Abs.tup_none Abs.res_tmp Abs.res_cell Abs.p_move Abs.p_assign Abs.p_pick Abs.p_binOp Abs.p_unOp Abs.p_convert Abs.p_iface Abs.p_fieldAddr Abs.p_field Abs.p_indexAddr Abs.p_index Abs.p_extract Abs.p_nilCheck Abs.p_build Abs.p_load Abs.p_slice Abs.p_lookup Abs.p_builtin Abs.EvAg_some Abs.un_neg Abs.shl_u32 Abs.shl_u64
section
variable {Sm : Summ} {Q : Ans → Prop}
theorem has_ev (hs : Sm 332 = none) {s : St} {b : Nat} {l : List Value} (hb : objCells (s.heap.get b) = .ok l) {c : Nat} (hc : c < 256) {v : Bool} (hv : l[c]? = some (.bool v)) (h : Q (.val (.bool v) s)) :
    Ev Tryz.prog Sm (.inv (.fn (.func 332) #[]) [.pointer (some ⟨b, 0, none⟩), .int .u8 (c : Int)] s) Q := by
  refine Ev.func hs Tryz.func332 rfl (m := 10) rfl ?_
  simp only [Array.toList_empty, List.append_nil, ofList_cons, ofList_nil]
  repeat (first | refine Abs.Ev.seq ?_ | refine Abs.Ev.region ?_ | refine Abs.Ev.block ?_ | refine Abs.Ev.skip ?_ | refine Abs.Ev.exit ?_ | refine Abs.Ev.ret ?_ | refine Abs.Ev.runNil ?_ | refine Abs.Ev.stepsNil ?_ | refine Abs.Seq.go ?_ | refine Abs.Seq.off ?_ | refine Abs.Blk.here ?_ | refine Abs.Blk.go ?_ | refine Abs.Blk.off rfl ?_ | refine Abs.Blk.ret ?_ | refine Abs.Ev.label ?_ | refine Abs.Ev.scope ?_ | refine Abs.Ev.condY (Abs.get_same _ _ _) ?_ | refine Abs.Ev.condN (Abs.get_same _ _ _) ?_ | refine Abs.Ev.step' rfl rfl rfl ?_ | refine Abs.Ev.stepG' rfl rfl rfl rfl ?_ | (refine Abs.Nx.go ?_; (first | simp (disch := first | omega | assumption) only [go_sem, hb, hv, Tryz.underlying357, Ty.sz4, Ty.ag4] | skip)) | fail)
  exact Body.ret rfl (res_one (get_same _ _ _)) h
theorem inSet_iff (cs : List UInt8) (c : UInt8) : inSet cs c = true ↔ c ∈ cs := by
  induction cs with
  | nil => exact ⟨fun h => (by cases h), fun h => (by cases h)⟩
  | cons x cs ih =>
    have e : inSet (x :: cs) c = ifb (Nat.beq x.toNat c.toNat) true (inSet cs c) := rfl
    rw [e, beqNat, ifb_eq]
    by_cases h : x = c
    · subst h; simp
    · have h' : (x == c) = false := by simpa using h
      rw [h', if_neg (by decide), ih]
      simp [Ne.symm h]
theorem inSet_eq (cs : List UInt8) (c : UInt8) : inSet cs c = decide (c ∈ cs) := by
  rw [Bool.eq_iff_iff, inSet_iff, decide_eq_true_eq]
theorem allLow_mem {cs : List UInt8} (h : allLow cs = true) : ∀ x ∈ cs, x.toNat < 128 := by
  induction cs with
  | nil => intro x hx; cases hx
  | cons y cs ih =>
    have e : allLow (y :: cs) = ifb (Nat.blt y.toNat 128) (allLow cs) false := rfl
    rw [e, ifb_blt] at h
    split at h
    · intro x hx
      rcases List.mem_cons.1 hx with rfl | hx
      · assumption
      · exact ih h x hx
    · cases h
theorem make_ev (hs : Sm 246 = none) {s : St} (hwf : s.wf) {cs : List UInt8} (hlow : allLow cs = true) (hlen : cs.length ≤ 1073741824)
    (h : ∀ l s', l.length = 256 → (∀ c, c < 256 → l[c]? = some (.bool (decide (UInt8.ofNat c ∈ cs)))) → (∀ b x, s.heap.get b = some x → s'.heap.get b = some x) → s'.next = s.next + 1 → Q (.val (.tuple #[.agg ⟨l⟩, .bool true]) s')) :
    Ev Tryz.prog Sm (.inv (.fn (.func 246) #[]) [.string ⟨⟨cs⟩⟩] s) Q := by
  refine Ev.func hs Tryz.func246 rfl (m := 21) rfl ?_
  simp only [Array.toList_empty, List.append_nil, ofList_cons, ofList_nil]
  repeat (first | refine Abs.Ev.seq ?_ | refine Abs.Ev.region ?_ | refine Abs.Ev.block ?_ | refine Abs.Ev.skip ?_ | refine Abs.Ev.exit ?_ | refine Abs.Ev.ret ?_ | refine Abs.Ev.runNil ?_ | refine Abs.Ev.stepsNil ?_ | refine Abs.Seq.go ?_ | refine Abs.Seq.off ?_ | refine Abs.Blk.here ?_ | refine Abs.Blk.go ?_ | refine Abs.Blk.off rfl ?_ | refine Abs.Blk.ret ?_ | refine Abs.Ev.label ?_ | refine Abs.Ev.scope ?_ | refine Abs.Ev.condY (Abs.get_same _ _ _) ?_ | refine Abs.Ev.condN (Abs.get_same _ _ _) ?_ | refine Abs.Ev.step' rfl rfl rfl ?_ | refine Abs.Ev.stepG' rfl rfl rfl rfl ?_ | (refine Abs.Nx.go ?_; (first | simp (disch := first | omega | assumption) only [go_sem, Ty.ze357] | skip)) | fail)
  refine Ev.loop (fun k a s' => ∃ T i l, a = ⟨T, 21, []⟩ ∧ T.get 0 = some (.string ⟨⟨cs⟩⟩) ∧ T.get 2 = some (.pointer (some ⟨s.next, 0, none⟩)) ∧ T.get 4 = some (.int .i64 ((i : Nat) : Int)) ∧ i ≤ cs.length ∧ k = cs.length - i ∧ s'.heap.get s.next = some (.cells l 357 0 false (0, 0)) ∧ l.length = 256 ∧ (∀ c, c < 256 → l[c]? = some (.bool (decide (UInt8.ofNat c ∈ cs.take i)))) ∧ (∀ b, b ≠ s.next → s'.heap.get b = s.heap.get b) ∧ s'.next = s.next + 1) (k := cs.length)
    ⟨_, 0, _, rfl, ?g0, ?g2, ?g4, Nat.zero_le _, rfl, get_same _ _ _, ?gl, ?gc, fun b hb => get_other _ _ _ _ hb, rfl⟩ ?_
  case g0 => simp (disch := first | omega | assumption) only [go_sem, ]
  case g2 => simp (disch := first | omega | assumption) only [go_sem, ]
  case g4 => simp (disch := first | omega | assumption) only [go_sem, ]; rfl
  case gl => exact List.length_replicate
  case gc => intro c hc; rw [List.getElem?_replicate, if_pos hc]; simp
  rintro m a s' ⟨T, i, l, rfl, g0, g2, g4, hi, rfl, hb, hl, hc, hoth, hnx⟩
  repeat (first | refine Abs.Ev.seq ?_ | refine Abs.Ev.region ?_ | refine Abs.Ev.block ?_ | refine Abs.Ev.skip ?_ | refine Abs.Ev.exit ?_ | refine Abs.Ev.ret ?_ | refine Abs.Ev.runNil ?_ | refine Abs.Ev.stepsNil ?_ | refine Abs.Seq.go ?_ | refine Abs.Seq.off ?_ | refine Abs.Blk.here ?_ | refine Abs.Blk.go ?_ | refine Abs.Blk.off rfl ?_ | refine Abs.Blk.ret ?_ | refine Abs.Ev.label ?_ | refine Abs.Ev.scope ?_ | refine Abs.Ev.condY (Abs.get_same _ _ _) ?_ | refine Abs.Ev.condN (Abs.get_same _ _ _) ?_ | refine Abs.Ev.step' rfl rfl rfl ?_ | refine Abs.Ev.stepG' rfl rfl rfl rfl ?_ | (refine Abs.Nx.go ?_; (first | simp (disch := first | omega | assumption) only [go_sem, g0, g4, Tryz.underlying9] | skip)) | fail)
  refine Ev.condT (get_same _ _ _) (fun h1 => ?_) (fun h1 => ?_)
  · have hlt : i < cs.length := by have := of_decide_eq_true h1; omega
    have hx : cs[i]? = some cs[i] := List.getElem?_eq_getElem hlt
    have hmem := allLow_mem hlow cs[i] (List.getElem_mem hlt)
    have htake : cs.take (i + 1) = cs.take i ++ [cs[i]] := (List.take_append_getElem hlt).symm
    generalize cs[i] = x at hx hmem htake
    repeat (first | refine Abs.Ev.seq ?_ | refine Abs.Ev.region ?_ | refine Abs.Ev.block ?_ | refine Abs.Ev.skip ?_ | refine Abs.Ev.exit ?_ | refine Abs.Ev.ret ?_ | refine Abs.Ev.runNil ?_ | refine Abs.Ev.stepsNil ?_ | refine Abs.Seq.go ?_ | refine Abs.Seq.off ?_ | refine Abs.Blk.here ?_ | refine Abs.Blk.go ?_ | refine Abs.Blk.off rfl ?_ | refine Abs.Blk.ret ?_ | refine Abs.Ev.label ?_ | refine Abs.Ev.scope ?_ | refine Abs.Ev.condY (Abs.get_same _ _ _) ?_ | refine Abs.Ev.condN (Abs.get_same _ _ _) ?_ | refine Abs.Ev.step' rfl rfl rfl ?_ | refine Abs.Ev.stepG' rfl rfl rfl rfl ?_ | (refine Abs.Nx.go ?_; (first | simp (disch := first | omega | assumption) only [go_sem, g0, g4, Tryz.underlying9, hx] | skip)) | fail)
    refine Ev.condT (get_same _ _ _) (fun h2 => ?_) (fun h2 => ?_)
    · have := of_decide_eq_true h2
      omega
    repeat (first | refine Abs.Ev.seq ?_ | refine Abs.Ev.region ?_ | refine Abs.Ev.block ?_ | refine Abs.Ev.skip ?_ | refine Abs.Ev.exit ?_ | refine Abs.Ev.ret ?_ | refine Abs.Ev.runNil ?_ | refine Abs.Ev.stepsNil ?_ | refine Abs.Seq.go ?_ | refine Abs.Seq.off ?_ | refine Abs.Blk.here ?_ | refine Abs.Blk.go ?_ | refine Abs.Blk.off rfl ?_ | refine Abs.Blk.ret ?_ | refine Abs.Ev.label ?_ | refine Abs.Ev.scope ?_ | refine Abs.Ev.condY (Abs.get_same _ _ _) ?_ | refine Abs.Ev.condN (Abs.get_same _ _ _) ?_ | refine Abs.Ev.step' rfl rfl rfl ?_ | refine Abs.Ev.stepG' rfl rfl rfl rfl ?_ | (refine Abs.Nx.go ?_; (first | simp (disch := first | omega | assumption) only [go_sem, g0, g2, g4, Tryz.underlying357, Ty.sz4, hb] | skip)) | fail)
    refine ⟨cs.length - (i + 1), by omega, _, i + 1, _, rfl, ?_, ?_, ?_, hlt, rfl, get_same _ _ _, by rw [List.length_set]; exact hl, ?_, fun b hb => by rw [get_other _ _ _ _ hb]; exact hoth b hb, hnx⟩
    · simp (disch := first | omega | assumption) only [go_sem, g0]
    · simp (disch := first | omega | assumption) only [go_sem, g2]
    · simp (disch := first | omega | assumption) only [go_sem, Int.natCast_add, Int.natCast_one]
    · intro c hc'
      rw [List.getElem?_set, htake]
      by_cases e : x.toNat = c
      · subst e
        rw [if_pos rfl, if_pos (by omega)]
        simp
      · rw [if_neg e, hc c hc']
        have : ¬ UInt8.ofNat c = x := by
          intro e2
          apply e
          rw [← e2]
          simp
          omega
        simp [this]
  · have := of_decide_eq_false h1
    obtain rfl : i = cs.length := by omega
    rw [List.take_length] at hc
    have hone : l.all oneB = true := one_all fun i hi => by
      have := hc i (by omega)
      rw [List.getElem?_eq_getElem hi] at this
      rw [Option.some.inj this]
      rfl
    repeat (first | refine Abs.Ev.seq ?_ | refine Abs.Ev.region ?_ | refine Abs.Ev.block ?_ | refine Abs.Ev.skip ?_ | refine Abs.Ev.exit ?_ | refine Abs.Ev.ret ?_ | refine Abs.Ev.runNil ?_ | refine Abs.Ev.stepsNil ?_ | refine Abs.Seq.go ?_ | refine Abs.Seq.off ?_ | refine Abs.Blk.here ?_ | refine Abs.Blk.go ?_ | refine Abs.Blk.off rfl ?_ | refine Abs.Blk.ret ?_ | refine Abs.Ev.label ?_ | refine Abs.Ev.scope ?_ | refine Abs.Ev.condY (Abs.get_same _ _ _) ?_ | refine Abs.Ev.condN (Abs.get_same _ _ _) ?_ | refine Abs.Ev.step' rfl rfl rfl ?_ | refine Abs.Ev.stepG' rfl rfl rfl rfl ?_ | (refine Abs.Nx.go ?_; (first | simp (disch := first | omega | assumption) only [go_sem, g0, g2, g4, hb, hl, hone, cut_all hl, Ty.sz357, Ty.ag357] | skip)) | fail)
    refine Body.ret (rs := [.cell 2 357, .tmp 3]) rfl (vs := [.agg ⟨l⟩, .bool true]) ?_ ?_
    · simp (disch := first | omega | assumption) only [go_sem, res_cell, res_tmp, g2, Ty.sz357, Ty.ag357, cut_all hl]
    · exact h l _ hl hc (fun b x hx => by rw [get_other _ _ _ _ (Nat.ne_of_lt (hwf b x hx)), hoth _ (Nat.ne_of_lt (hwf b x hx))]; exact hx) hnx
theorem dropIn_cons (cs : List UInt8) (c : UInt8) (l : List UInt8) : dropIn cs (c :: l) = if c ∈ cs then dropIn cs l else c :: l := by
  have e : dropIn cs (c :: l) = ifb (inSet cs c) (dropIn cs l) (c :: l) := rfl
  rw [e, inSet_eq, ifb_decide]
theorem trimR_snoc (cs : List UInt8) (c : UInt8) (l : List UInt8) : trimR cs (l ++ [c]) = if c ∈ cs then trimR cs l else l ++ [c] := by
  unfold trimR
  rw [List.reverse_append, List.reverse_singleton, List.singleton_append, dropIn_cons]
  split
  · rfl
  · rw [List.reverse_cons, List.reverse_reverse]
/-- the set's block -/
def SetAt (s : St) (b : Nat) (cs : List UInt8) : Prop := ∃ l e z, s.heap.get b = some (.cells l e z false (0, 0)) ∧ ∀ c, c < 256 → l[c]? = some (.bool (decide (UInt8.ofNat c ∈ cs)))
theorem SetAt.cell {s : St} {b : Nat} {cs : List UInt8} (h : SetAt s b cs) : ∃ l, objCells (s.heap.get b) = .ok l ∧ ∀ c, c < 256 → l[c]? = some (.bool (decide (UInt8.ofNat c ∈ cs))) := by
  obtain ⟨l, e, z, h1, h2⟩ := h
  exact ⟨l, by rw [h1]; rfl, h2⟩
theorem left_ev (hs : Sm 247 = none) (hh : Sm 332 = none) {s : St} {b : Nat} {cs l0 : List UInt8} (hb : SetAt s b cs) (hlen : l0.length ≤ 1073741824) (h : Q (.val (.string ⟨⟨dropIn cs l0⟩⟩) s)) :
    Ev Tryz.prog Sm (.inv (.fn (.func 247) #[]) [.string ⟨⟨l0⟩⟩, .pointer (some ⟨b, 0, none⟩)] s) Q := by
  refine Ev.func hs Tryz.func247 rfl (m := 16) rfl ?_
  simp only [Array.toList_empty, List.append_nil, ofList_cons, ofList_nil]
  repeat (first | refine Abs.Ev.seq ?_ | refine Abs.Ev.region ?_ | refine Abs.Ev.block ?_ | refine Abs.Ev.skip ?_ | refine Abs.Ev.exit ?_ | refine Abs.Ev.ret ?_ | refine Abs.Ev.runNil ?_ | refine Abs.Ev.stepsNil ?_ | refine Abs.Seq.go ?_ | refine Abs.Seq.off ?_ | refine Abs.Blk.here ?_ | refine Abs.Blk.go ?_ | refine Abs.Blk.off rfl ?_ | refine Abs.Blk.ret ?_ | refine Abs.Ev.label ?_ | refine Abs.Ev.scope ?_ | refine Abs.Ev.condY (Abs.get_same _ _ _) ?_ | refine Abs.Ev.condN (Abs.get_same _ _ _) ?_ | refine Abs.Ev.step' rfl rfl rfl ?_ | refine Abs.Ev.stepG' rfl rfl rfl rfl ?_ | (refine Abs.Nx.go ?_; (first | simp (disch := first | omega | assumption) only [go_sem, ] | skip)) | fail)
  refine Ev.loop (fun k a s' => s' = s ∧ ∃ T l, a = ⟨T, 16, []⟩ ∧ T.get 0 = some (.string ⟨⟨l⟩⟩) ∧ T.get 1 = some (.pointer (some ⟨b, 0, none⟩)) ∧ k = l.length ∧ l.length ≤ 1073741824 ∧ dropIn cs l = dropIn cs l0) (k := l0.length)
    ⟨rfl, _, l0, rfl, ?g0, ?g1, rfl, hlen, rfl⟩ ?_
  case g0 => simp (disch := first | omega | assumption) only [go_sem, ]
  case g1 => simp (disch := first | omega | assumption) only [go_sem, ]
  rintro m a s' ⟨rfl, T, l, rfl, g0, g1, rfl, hl, hd⟩
  repeat (first | refine Abs.Ev.seq ?_ | refine Abs.Ev.region ?_ | refine Abs.Ev.block ?_ | refine Abs.Ev.skip ?_ | refine Abs.Ev.exit ?_ | refine Abs.Ev.ret ?_ | refine Abs.Ev.runNil ?_ | refine Abs.Ev.stepsNil ?_ | refine Abs.Seq.go ?_ | refine Abs.Seq.off ?_ | refine Abs.Blk.here ?_ | refine Abs.Blk.go ?_ | refine Abs.Blk.off rfl ?_ | refine Abs.Blk.ret ?_ | refine Abs.Ev.label ?_ | refine Abs.Ev.scope ?_ | refine Abs.Ev.condY (Abs.get_same _ _ _) ?_ | refine Abs.Ev.condN (Abs.get_same _ _ _) ?_ | refine Abs.Ev.step' rfl rfl rfl ?_ | refine Abs.Ev.stepG' rfl rfl rfl rfl ?_ | (refine Abs.Nx.go ?_; (first | simp (disch := first | omega | assumption) only [go_sem, g0, Tryz.underlying9] | skip)) | fail)
  refine Ev.condT (get_same _ _ _) (fun h1 => ?_) (fun h1 => ?_)
  · cases l with
    | nil => simp at h1
    | cons c l =>
      obtain ⟨cells, q1, q2⟩ := hb.cell
      have q3 := q2 c.toNat c.toNat_lt
      rw [UInt8.ofNat_toNat] at q3
      repeat (first | refine Abs.Ev.seq ?_ | refine Abs.Ev.region ?_ | refine Abs.Ev.block ?_ | refine Abs.Ev.skip ?_ | refine Abs.Ev.exit ?_ | refine Abs.Ev.ret ?_ | refine Abs.Ev.runNil ?_ | refine Abs.Ev.stepsNil ?_ | refine Abs.Seq.go ?_ | refine Abs.Seq.off ?_ | refine Abs.Blk.here ?_ | refine Abs.Blk.go ?_ | refine Abs.Blk.off rfl ?_ | refine Abs.Blk.ret ?_ | refine Abs.Ev.label ?_ | refine Abs.Ev.scope ?_ | refine Abs.Ev.condY (Abs.get_same _ _ _) ?_ | refine Abs.Ev.condN (Abs.get_same _ _ _) ?_ | refine Abs.Ev.step' rfl rfl rfl ?_ | refine Abs.Ev.stepG' rfl rfl rfl rfl ?_ | (refine Abs.Nx.go ?_; (first | simp (disch := first | omega | assumption) only [go_sem, g0, g1, Tryz.underlying9] | skip)) | fail)
      (refine Abs.Ev.callF rfl ?_; simp (disch := first | omega | assumption) only [go_sem, g0, g1])
      refine has_ev hh q1 c.toNat_lt q3 ⟨_, _, rfl, ?_⟩
      repeat (first | refine Abs.Ev.seq ?_ | refine Abs.Ev.region ?_ | refine Abs.Ev.block ?_ | refine Abs.Ev.skip ?_ | refine Abs.Ev.exit ?_ | refine Abs.Ev.ret ?_ | refine Abs.Ev.runNil ?_ | refine Abs.Ev.stepsNil ?_ | refine Abs.Seq.go ?_ | refine Abs.Seq.off ?_ | refine Abs.Blk.here ?_ | refine Abs.Blk.go ?_ | refine Abs.Blk.off rfl ?_ | refine Abs.Blk.ret ?_ | refine Abs.Ev.label ?_ | refine Abs.Ev.scope ?_ | refine Abs.Ev.condY (Abs.get_same _ _ _) ?_ | refine Abs.Ev.condN (Abs.get_same _ _ _) ?_ | refine Abs.Ev.step' rfl rfl rfl ?_ | refine Abs.Ev.stepG' rfl rfl rfl rfl ?_ | (refine Abs.Nx.go ?_; (first | simp (disch := first | omega | assumption) only [go_sem, g0, g1] | skip)) | fail)
      refine Ev.condT (get_same _ _ _) (fun h2 => ?_) (fun h2 => ?_)
      · have h2 : ¬ c ∈ cs := by simpa using h2
        rw [dropIn_cons, if_neg h2] at hd
        repeat (first | refine Abs.Ev.seq ?_ | refine Abs.Ev.region ?_ | refine Abs.Ev.block ?_ | refine Abs.Ev.skip ?_ | refine Abs.Ev.exit ?_ | refine Abs.Ev.ret ?_ | refine Abs.Ev.runNil ?_ | refine Abs.Ev.stepsNil ?_ | refine Abs.Seq.go ?_ | refine Abs.Seq.off ?_ | refine Abs.Blk.here ?_ | refine Abs.Blk.go ?_ | refine Abs.Blk.off rfl ?_ | refine Abs.Blk.ret ?_ | refine Abs.Ev.label ?_ | refine Abs.Ev.scope ?_ | refine Abs.Ev.condY (Abs.get_same _ _ _) ?_ | refine Abs.Ev.condN (Abs.get_same _ _ _) ?_ | refine Abs.Ev.step' rfl rfl rfl ?_ | refine Abs.Ev.stepG' rfl rfl rfl rfl ?_ | (refine Abs.Nx.go ?_; (first | simp (disch := first | omega | assumption) only [go_sem, g0, g1] | skip)) | fail)
        exact Body.ret rfl (res_one (get_same _ _ _)) (hd ▸ h)
      · have h2 : c ∈ cs := by simpa using h2
        rw [dropIn_cons, if_pos h2] at hd
        repeat (first | refine Abs.Ev.seq ?_ | refine Abs.Ev.region ?_ | refine Abs.Ev.block ?_ | refine Abs.Ev.skip ?_ | refine Abs.Ev.exit ?_ | refine Abs.Ev.ret ?_ | refine Abs.Ev.runNil ?_ | refine Abs.Ev.stepsNil ?_ | refine Abs.Seq.go ?_ | refine Abs.Seq.off ?_ | refine Abs.Blk.here ?_ | refine Abs.Blk.go ?_ | refine Abs.Blk.off rfl ?_ | refine Abs.Blk.ret ?_ | refine Abs.Ev.label ?_ | refine Abs.Ev.scope ?_ | refine Abs.Ev.condY (Abs.get_same _ _ _) ?_ | refine Abs.Ev.condN (Abs.get_same _ _ _) ?_ | refine Abs.Ev.step' rfl rfl rfl ?_ | refine Abs.Ev.stepG' rfl rfl rfl rfl ?_ | (refine Abs.Nx.go ?_; (first | simp (disch := first | omega | assumption) only [go_sem, g0, g1, Tryz.underlying9] | skip)) | fail)
        have hl2 : l.length ≤ 1073741824 := by simp at hl; omega
        refine ⟨l.length, by simp, rfl, _, l, rfl, ?_, ?_, rfl, hl2, hd⟩
        · simp (disch := first | omega | assumption) only [go_sem, ]; simp
        · simp (disch := first | omega | assumption) only [go_sem, g1]
  · have h1 := of_decide_eq_false h1
    have : l = [] := by cases l with
      | nil => rfl
      | cons c l => simp at h1
    subst this
    rw [← hd] at h
    repeat (first | refine Abs.Ev.seq ?_ | refine Abs.Ev.region ?_ | refine Abs.Ev.block ?_ | refine Abs.Ev.skip ?_ | refine Abs.Ev.exit ?_ | refine Abs.Ev.ret ?_ | refine Abs.Ev.runNil ?_ | refine Abs.Ev.stepsNil ?_ | refine Abs.Seq.go ?_ | refine Abs.Seq.off ?_ | refine Abs.Blk.here ?_ | refine Abs.Blk.go ?_ | refine Abs.Blk.off rfl ?_ | refine Abs.Blk.ret ?_ | refine Abs.Ev.label ?_ | refine Abs.Ev.scope ?_ | refine Abs.Ev.condY (Abs.get_same _ _ _) ?_ | refine Abs.Ev.condN (Abs.get_same _ _ _) ?_ | refine Abs.Ev.step' rfl rfl rfl ?_ | refine Abs.Ev.stepG' rfl rfl rfl rfl ?_ | (refine Abs.Nx.go ?_; (first | simp (disch := first | omega | assumption) only [go_sem, g0, g1] | skip)) | fail)
    exact Body.ret rfl (res_one (get_same _ _ _)) h
theorem dropIn_len (cs l : List UInt8) : (dropIn cs l).length ≤ l.length := by
  induction l with
  | nil => exact Nat.le_refl _
  | cons c l ih =>
    rw [dropIn_cons]
    split
    · simp; omega
    · exact Nat.le_refl _
theorem trimR_len (cs l : List UInt8) : (trimR cs l).length ≤ l.length := by
  unfold trimR
  have := dropIn_len cs l.reverse
  simpa using this
theorem trimR_nil (cs : List UInt8) : trimR cs [] = [] := rfl
theorem right_ev (hs : Sm 248 = none) (hh : Sm 332 = none) {s : St} {b : Nat} {cs l0 : List UInt8} (hb : SetAt s b cs) (hlen : l0.length ≤ 1073741824) (h : Q (.val (.string ⟨⟨trimR cs l0⟩⟩) s)) :
    Ev Tryz.prog Sm (.inv (.fn (.func 248) #[]) [.string ⟨⟨l0⟩⟩, .pointer (some ⟨b, 0, none⟩)] s) Q := by
  refine Ev.func hs Tryz.func248 rfl (m := 22) rfl ?_
  simp only [Array.toList_empty, List.append_nil, ofList_cons, ofList_nil]
  repeat (first | refine Abs.Ev.seq ?_ | refine Abs.Ev.region ?_ | refine Abs.Ev.block ?_ | refine Abs.Ev.skip ?_ | refine Abs.Ev.exit ?_ | refine Abs.Ev.ret ?_ | refine Abs.Ev.runNil ?_ | refine Abs.Ev.stepsNil ?_ | refine Abs.Seq.go ?_ | refine Abs.Seq.off ?_ | refine Abs.Blk.here ?_ | refine Abs.Blk.go ?_ | refine Abs.Blk.off rfl ?_ | refine Abs.Blk.ret ?_ | refine Abs.Ev.label ?_ | refine Abs.Ev.scope ?_ | refine Abs.Ev.condY (Abs.get_same _ _ _) ?_ | refine Abs.Ev.condN (Abs.get_same _ _ _) ?_ | refine Abs.Ev.step' rfl rfl rfl ?_ | refine Abs.Ev.stepG' rfl rfl rfl rfl ?_ | (refine Abs.Nx.go ?_; (first | simp (disch := first | omega | assumption) only [go_sem, ] | skip)) | fail)
  refine Ev.loop (fun k a s' => s' = s ∧ ∃ T l, a = ⟨T, 22, []⟩ ∧ T.get 0 = some (.string ⟨⟨l⟩⟩) ∧ T.get 1 = some (.pointer (some ⟨b, 0, none⟩)) ∧ k = l.length ∧ l.length ≤ 1073741824 ∧ trimR cs l = trimR cs l0) (k := l0.length)
    ⟨rfl, _, l0, rfl, ?g0, ?g1, rfl, hlen, rfl⟩ ?_
  case g0 => simp (disch := first | omega | assumption) only [go_sem, ]
  case g1 => simp (disch := first | omega | assumption) only [go_sem, ]
  rintro m a s' ⟨rfl, T, l, rfl, g0, g1, rfl, hl, hd⟩
  repeat (first | refine Abs.Ev.seq ?_ | refine Abs.Ev.region ?_ | refine Abs.Ev.block ?_ | refine Abs.Ev.skip ?_ | refine Abs.Ev.exit ?_ | refine Abs.Ev.ret ?_ | refine Abs.Ev.runNil ?_ | refine Abs.Ev.stepsNil ?_ | refine Abs.Seq.go ?_ | refine Abs.Seq.off ?_ | refine Abs.Blk.here ?_ | refine Abs.Blk.go ?_ | refine Abs.Blk.off rfl ?_ | refine Abs.Blk.ret ?_ | refine Abs.Ev.label ?_ | refine Abs.Ev.scope ?_ | refine Abs.Ev.condY (Abs.get_same _ _ _) ?_ | refine Abs.Ev.condN (Abs.get_same _ _ _) ?_ | refine Abs.Ev.step' rfl rfl rfl ?_ | refine Abs.Ev.stepG' rfl rfl rfl rfl ?_ | (refine Abs.Nx.go ?_; (first | simp (disch := first | omega | assumption) only [go_sem, g0, Tryz.underlying9] | skip)) | fail)
  refine Ev.condT (get_same _ _ _) (fun h1 => ?_) (fun h1 => ?_)
  · rcases List.eq_nil_or_concat l with rfl | ⟨l, c, rfl⟩
    · simp at h1
    · rw [List.concat_eq_append] at *
      obtain ⟨cells, q1, q2⟩ := hb.cell
      have q3 := q2 c.toNat c.toNat_lt
      rw [UInt8.ofNat_toNat] at q3
      have hlc : (l ++ [c]).length = l.length + 1 := by simp
      have hat : (l ++ [c])[l.length]? = some c := by simp
      have hcut : (l ++ [c]).take l.length = l := by simp
      repeat (first | refine Abs.Ev.seq ?_ | refine Abs.Ev.region ?_ | refine Abs.Ev.block ?_ | refine Abs.Ev.skip ?_ | refine Abs.Ev.exit ?_ | refine Abs.Ev.ret ?_ | refine Abs.Ev.runNil ?_ | refine Abs.Ev.stepsNil ?_ | refine Abs.Seq.go ?_ | refine Abs.Seq.off ?_ | refine Abs.Blk.here ?_ | refine Abs.Blk.go ?_ | refine Abs.Blk.off rfl ?_ | refine Abs.Blk.ret ?_ | refine Abs.Ev.label ?_ | refine Abs.Ev.scope ?_ | refine Abs.Ev.condY (Abs.get_same _ _ _) ?_ | refine Abs.Ev.condN (Abs.get_same _ _ _) ?_ | refine Abs.Ev.step' rfl rfl rfl ?_ | refine Abs.Ev.stepG' rfl rfl rfl rfl ?_ | (refine Abs.Nx.go ?_; (first | simp (disch := first | omega | assumption) only [go_sem, g0, g1, Tryz.underlying9, hlc, Int.natCast_add, Int.natCast_one, Int.add_sub_cancel, hat] | skip)) | fail)
      (refine Abs.Ev.callF rfl ?_; simp (disch := first | omega | assumption) only [go_sem, g0, g1])
      refine has_ev hh q1 c.toNat_lt q3 ⟨_, _, rfl, ?_⟩
      repeat (first | refine Abs.Ev.seq ?_ | refine Abs.Ev.region ?_ | refine Abs.Ev.block ?_ | refine Abs.Ev.skip ?_ | refine Abs.Ev.exit ?_ | refine Abs.Ev.ret ?_ | refine Abs.Ev.runNil ?_ | refine Abs.Ev.stepsNil ?_ | refine Abs.Seq.go ?_ | refine Abs.Seq.off ?_ | refine Abs.Blk.here ?_ | refine Abs.Blk.go ?_ | refine Abs.Blk.off rfl ?_ | refine Abs.Blk.ret ?_ | refine Abs.Ev.label ?_ | refine Abs.Ev.scope ?_ | refine Abs.Ev.condY (Abs.get_same _ _ _) ?_ | refine Abs.Ev.condN (Abs.get_same _ _ _) ?_ | refine Abs.Ev.step' rfl rfl rfl ?_ | refine Abs.Ev.stepG' rfl rfl rfl rfl ?_ | (refine Abs.Nx.go ?_; (first | simp (disch := first | omega | assumption) only [go_sem, g0, g1] | skip)) | fail)
      refine Ev.condT (get_same _ _ _) (fun h2 => ?_) (fun h2 => ?_)
      · have h2 : ¬ c ∈ cs := by simpa using h2
        rw [trimR_snoc, if_neg h2] at hd
        repeat (first | refine Abs.Ev.seq ?_ | refine Abs.Ev.region ?_ | refine Abs.Ev.block ?_ | refine Abs.Ev.skip ?_ | refine Abs.Ev.exit ?_ | refine Abs.Ev.ret ?_ | refine Abs.Ev.runNil ?_ | refine Abs.Ev.stepsNil ?_ | refine Abs.Seq.go ?_ | refine Abs.Seq.off ?_ | refine Abs.Blk.here ?_ | refine Abs.Blk.go ?_ | refine Abs.Blk.off rfl ?_ | refine Abs.Blk.ret ?_ | refine Abs.Ev.label ?_ | refine Abs.Ev.scope ?_ | refine Abs.Ev.condY (Abs.get_same _ _ _) ?_ | refine Abs.Ev.condN (Abs.get_same _ _ _) ?_ | refine Abs.Ev.step' rfl rfl rfl ?_ | refine Abs.Ev.stepG' rfl rfl rfl rfl ?_ | (refine Abs.Nx.go ?_; (first | simp (disch := first | omega | assumption) only [go_sem, g0, g1] | skip)) | fail)
        exact Body.ret rfl (res_one (get_same _ _ _)) (hd ▸ h)
      · have h2 : c ∈ cs := by simpa using h2
        rw [trimR_snoc, if_pos h2] at hd
        repeat (first | refine Abs.Ev.seq ?_ | refine Abs.Ev.region ?_ | refine Abs.Ev.block ?_ | refine Abs.Ev.skip ?_ | refine Abs.Ev.exit ?_ | refine Abs.Ev.ret ?_ | refine Abs.Ev.runNil ?_ | refine Abs.Ev.stepsNil ?_ | refine Abs.Seq.go ?_ | refine Abs.Seq.off ?_ | refine Abs.Blk.here ?_ | refine Abs.Blk.go ?_ | refine Abs.Blk.off rfl ?_ | refine Abs.Blk.ret ?_ | refine Abs.Ev.label ?_ | refine Abs.Ev.scope ?_ | refine Abs.Ev.condY (Abs.get_same _ _ _) ?_ | refine Abs.Ev.condN (Abs.get_same _ _ _) ?_ | refine Abs.Ev.step' rfl rfl rfl ?_ | refine Abs.Ev.stepG' rfl rfl rfl rfl ?_ | (refine Abs.Nx.go ?_; (first | simp (disch := first | omega | assumption) only [go_sem, g0, g1, Tryz.underlying9, hlc, Int.natCast_add, Int.natCast_one, Int.add_sub_cancel, hcut] | skip)) | fail)
        have hl2 : l.length ≤ 1073741824 := by omega
        refine ⟨l.length, by omega, rfl, _, l, rfl, ?_, ?_, rfl, hl2, hd⟩
        · simp (disch := first | omega | assumption) only [go_sem, ]
        · simp (disch := first | omega | assumption) only [go_sem, g1]
  · have h1 := of_decide_eq_false h1
    have : l = [] := by cases l with
      | nil => rfl
      | cons c l => simp at h1
    subst this
    rw [← hd] at h
    repeat (first | refine Abs.Ev.seq ?_ | refine Abs.Ev.region ?_ | refine Abs.Ev.block ?_ | refine Abs.Ev.skip ?_ | refine Abs.Ev.exit ?_ | refine Abs.Ev.ret ?_ | refine Abs.Ev.runNil ?_ | refine Abs.Ev.stepsNil ?_ | refine Abs.Seq.go ?_ | refine Abs.Seq.off ?_ | refine Abs.Blk.here ?_ | refine Abs.Blk.go ?_ | refine Abs.Blk.off rfl ?_ | refine Abs.Blk.ret ?_ | refine Abs.Ev.label ?_ | refine Abs.Ev.scope ?_ | refine Abs.Ev.condY (Abs.get_same _ _ _) ?_ | refine Abs.Ev.condN (Abs.get_same _ _ _) ?_ | refine Abs.Ev.step' rfl rfl rfl ?_ | refine Abs.Ev.stepG' rfl rfl rfl rfl ?_ | (refine Abs.Nx.go ?_; (first | simp (disch := first | omega | assumption) only [go_sem, g0, g1] | skip)) | fail)
    exact Body.ret rfl (res_one (get_same _ _ _)) h
theorem trim_says (hs : Sm 161 = none) (hl : Sm 247 = none) (hr : Sm 248 = none) (hm : Sm 246 = none) (hh : Sm 332 = none) : EvSays Tryz.prog Sm 161 sumTrim := by
  intro args s v s1 hwf h
  unfold sumTrim at h
  split at h <;> first | (cases h; done) | skip
  rename_i x cs
  obtain ⟨⟨x⟩⟩ := x
  obtain ⟨⟨cs⟩⟩ := cs
  simp only [ifb_and, ifb_blt, ifb_ble, lenN_eq, natK_eq] at h
  rw [ifb_eq] at h
  split at h <;> first | (cases h; done) | skip
  rename_i hlow
  split at h <;> first | (cases h; done) | skip
  rename_i hc1
  split at h <;> first | (cases h; done) | skip
  rename_i hx0
  split at h <;> first | (cases h; done) | skip
  rename_i hx1
  split at h <;> first | (cases h; done) | skip
  rename_i hc2
  obtain ⟨rfl, rfl⟩ : v = mkStr (dropIn cs (trimR cs x)) ∧ s1 = ⟨s.heap, s.next + 2⟩ := by cases h; exact ⟨rfl, rfl⟩
  clear h
  have ex : (x == []) = false := by cases x with
    | nil => simp at hx0
    | cons _ _ => rfl
  have ec : (cs == []) = false := by cases cs with
    | nil => simp at hc1
    | cons _ _ => rfl
  refine Ev.func hs Tryz.func161 rfl (m := 43) rfl ?_
  simp only [Array.toList_empty, List.append_nil, ofList_cons, ofList_nil]
  have e1 : decide ((cs.length : Int) = 1) = false := by simp; omega
  repeat (first | refine Abs.Ev.seq ?_ | refine Abs.Ev.region ?_ | refine Abs.Ev.block ?_ | refine Abs.Ev.skip ?_ | refine Abs.Ev.exit ?_ | refine Abs.Ev.ret ?_ | refine Abs.Ev.runNil ?_ | refine Abs.Ev.stepsNil ?_ | refine Abs.Seq.go ?_ | refine Abs.Seq.off ?_ | refine Abs.Blk.here ?_ | refine Abs.Blk.go ?_ | refine Abs.Blk.off rfl ?_ | refine Abs.Blk.ret ?_ | refine Abs.Ev.label ?_ | refine Abs.Ev.scope ?_ | refine Abs.Ev.condY (Abs.get_same _ _ _) ?_ | refine Abs.Ev.condN (Abs.get_same _ _ _) ?_ | refine Abs.Ev.step' rfl rfl rfl ?_ | refine Abs.Ev.stepG' rfl rfl rfl rfl ?_ | (refine Abs.Nx.go ?_; (first | simp (disch := first | omega | assumption) only [go_sem, ex, ec, e1, Tryz.underlying9] | skip)) | fail)
  (refine Abs.Ev.callF rfl ?_; simp (disch := first | omega | assumption) only [go_sem, ])
  refine make_ev hm hwf hlow hc2 fun l s2 hl256 hget hold hnx => ⟨_, _, rfl, ?_⟩
  have hone : l.all oneB = true := one_all fun i hi => by
    have := hget i (by omega)
    rw [List.getElem?_eq_getElem hi] at this
    rw [Option.some.inj this]
    rfl
  have hrep : (List.replicate 256 (Value.bool false)).length = 256 := List.length_replicate
  repeat (first | refine Abs.Ev.seq ?_ | refine Abs.Ev.region ?_ | refine Abs.Ev.block ?_ | refine Abs.Ev.skip ?_ | refine Abs.Ev.exit ?_ | refine Abs.Ev.ret ?_ | refine Abs.Ev.runNil ?_ | refine Abs.Ev.stepsNil ?_ | refine Abs.Seq.go ?_ | refine Abs.Seq.off ?_ | refine Abs.Blk.here ?_ | refine Abs.Blk.go ?_ | refine Abs.Blk.off rfl ?_ | refine Abs.Blk.ret ?_ | refine Abs.Ev.label ?_ | refine Abs.Ev.scope ?_ | refine Abs.Ev.condY (Abs.get_same _ _ _) ?_ | refine Abs.Ev.condN (Abs.get_same _ _ _) ?_ | refine Abs.Ev.step' rfl rfl rfl ?_ | refine Abs.Ev.stepG' rfl rfl rfl rfl ?_ | (refine Abs.Nx.go ?_; (first | simp (disch := first | omega | assumption) only [go_sem, Ty.sz357, Ty.ze357, hl256, hone] | skip)) | fail)
  have hset : SetAt ⟨(s2.heap.set s2.next (AObj.cells (List.replicate 256 (Value.bool false)) 357 0 false (0, 0))).set s2.next (AObj.cells l 357 0 false (0, 0)), s2.next + 1⟩ s2.next cs := ⟨l, _, _, get_same _ _ _, hget⟩
  have hkeep : ∀ b x, s.heap.get b = some x → ((s2.heap.set s2.next (AObj.cells (List.replicate 256 (Value.bool false)) 357 0 false (0, 0))).set s2.next (AObj.cells l 357 0 false (0, 0))).get b = some x := fun b x hx => by
    have := hwf b x hx
    rw [get_other _ _ _ _ (by omega), get_other _ _ _ _ (by omega)]
    exact hold b x hx
  generalize (s2.heap.set s2.next (AObj.cells (List.replicate 256 (Value.bool false)) 357 0 false (0, 0))).set s2.next (AObj.cells l 357 0 false (0, 0)) = h3 at hset hkeep ⊢
  repeat (first | refine Abs.Ev.seq ?_ | refine Abs.Ev.region ?_ | refine Abs.Ev.block ?_ | refine Abs.Ev.skip ?_ | refine Abs.Ev.exit ?_ | refine Abs.Ev.ret ?_ | refine Abs.Ev.runNil ?_ | refine Abs.Ev.stepsNil ?_ | refine Abs.Seq.go ?_ | refine Abs.Seq.off ?_ | refine Abs.Blk.here ?_ | refine Abs.Blk.go ?_ | refine Abs.Blk.off rfl ?_ | refine Abs.Blk.ret ?_ | refine Abs.Ev.label ?_ | refine Abs.Ev.scope ?_ | refine Abs.Ev.condY (Abs.get_same _ _ _) ?_ | refine Abs.Ev.condN (Abs.get_same _ _ _) ?_ | refine Abs.Ev.step' rfl rfl rfl ?_ | refine Abs.Ev.stepG' rfl rfl rfl rfl ?_ | (refine Abs.Nx.go ?_; (first | simp (disch := first | omega | assumption) only [go_sem, ] | skip)) | fail)
  (refine Abs.Ev.callF rfl ?_; simp (disch := first | omega | assumption) only [go_sem, ])
  refine right_ev hr hh hset hx1 ⟨_, _, rfl, ?_⟩
  repeat (first | refine Abs.Ev.seq ?_ | refine Abs.Ev.region ?_ | refine Abs.Ev.block ?_ | refine Abs.Ev.skip ?_ | refine Abs.Ev.exit ?_ | refine Abs.Ev.ret ?_ | refine Abs.Ev.runNil ?_ | refine Abs.Ev.stepsNil ?_ | refine Abs.Seq.go ?_ | refine Abs.Seq.off ?_ | refine Abs.Blk.here ?_ | refine Abs.Blk.go ?_ | refine Abs.Blk.off rfl ?_ | refine Abs.Blk.ret ?_ | refine Abs.Ev.label ?_ | refine Abs.Ev.scope ?_ | refine Abs.Ev.condY (Abs.get_same _ _ _) ?_ | refine Abs.Ev.condN (Abs.get_same _ _ _) ?_ | refine Abs.Ev.step' rfl rfl rfl ?_ | refine Abs.Ev.stepG' rfl rfl rfl rfl ?_ | (refine Abs.Nx.go ?_; (first | simp (disch := first | omega | assumption) only [go_sem, ] | skip)) | fail)
  (refine Abs.Ev.callF rfl ?_; simp (disch := first | omega | assumption) only [go_sem, ])
  refine left_ev hl hh hset ?_ ⟨_, _, rfl, ?_⟩
  · exact Nat.le_trans (trimR_len cs x) hx1
  repeat (first | refine Abs.Ev.seq ?_ | refine Abs.Ev.region ?_ | refine Abs.Ev.block ?_ | refine Abs.Ev.skip ?_ | refine Abs.Ev.exit ?_ | refine Abs.Ev.ret ?_ | refine Abs.Ev.runNil ?_ | refine Abs.Ev.stepsNil ?_ | refine Abs.Seq.go ?_ | refine Abs.Seq.off ?_ | refine Abs.Blk.here ?_ | refine Abs.Blk.go ?_ | refine Abs.Blk.off rfl ?_ | refine Abs.Blk.ret ?_ | refine Abs.Ev.label ?_ | refine Abs.Ev.scope ?_ | refine Abs.Ev.condY (Abs.get_same _ _ _) ?_ | refine Abs.Ev.condN (Abs.get_same _ _ _) ?_ | refine Abs.Ev.step' rfl rfl rfl ?_ | refine Abs.Ev.stepG' rfl rfl rfl rfl ?_ | (refine Abs.Nx.go ?_; (first | simp (disch := first | omega | assumption) only [go_sem, ] | skip)) | fail)
  refine Body.ret rfl (res_one (get_same _ _ _)) ⟨_, rfl, hkeep, ?_⟩
  show s2.next + 1 ≤ s.next + 2
  omega
end
end Go.Proofs.YthidnkhhndbidaaGreatDoor
