/-
  manifest, versions: what same, may and good say, at the evaluator.
-/
import Derived.Test.YtbakhdgiimjnkaaGreatDoorBinRd2
import Derived.Test.YtbakhdgiimjnkaaGreatDoorEvB
import Derived.Test.YtbakhdgiimjnkaaGreatDoorPlA
namespace Go.Proofs.YtbakhdgiimjnkaaGreatDoor
open Abs
set_option maxHeartbeats 16000000
set_option maxRecDepth 20000
set_option linter.unusedSimpArgs false
attribute [local irreducible] Abs.Ev Abs.EvF Abs.EvO Abs.EvA Abs.Seq Abs.Blk Abs.Body Abs.Scp Abs.EvG Abs.EvAg Abs.Nx
attribute [local go_sem] Abs.EvO_k Abs.bind_ok Abs.of_some Abs.ifb_true Abs.ifb_false Abs.ifb_blt Abs.ifb_ble Abs.ifb_beq Abs.ifb_and Abs.ifb_or Abs.ifb_not Abs.ifb_decide Abs.sayV_ok Abs.get_same Abs.get_other Abs.ofList_nil Abs.ofList_cons Abs.upd_none Abs.upd_some Abs.ev_tmp Abs.ev_int Abs.ev_bool Abs.ev_str Abs.ev_nilp Abs.ev_nils Abs.ev_nilm Abs.ev_nilf Abs.ev_nili Abs.ev_global Abs.ev_func Abs.mapR_nil Abs.mapR_cons Abs.do_move Abs.do_assign Abs.do_pick Abs.do_binOp Abs.do_unOp Abs.do_makeIface Abs.do_makeFunc Abs.do_fieldAddr Abs.do_field Abs.do_indexAddr Abs.do_index Abs.do_extract Abs.do_nilCheck Abs.do_build Abs.do_typeAssert Abs.do_load Abs.do_slice Abs.do_lookup Abs.do_builtin Abs.do_alloc Abs.do_box Abs.do_store Abs.do_convert Abs.do_makeMap Abs.do_mapUpdate Abs.do_range Abs.do_next Abs.do_entry Abs.bin_add Abs.bin_sub Abs.bin_mul Abs.bin_rem Abs.bin_quo Abs.bin_eql Abs.bin_neq Abs.bin_lss Abs.bin_leq Abs.bin_gtr Abs.bin_geq Abs.un_not Abs.un_xor_u32 Abs.wrap_i64 Abs.wrap_u64 Abs.wrap_u32 Abs.wrap_u8 Abs.idx_int Abs.bnd_int Abs.addA_eq Abs.pIndexAddr2 Abs.ptrR_ok if_pos if_neg List.toList_toArray Abs.undT_eq Nat.mul_one Nat.zero_add Abs.pIndexAddr Abs.pLoad Abs.pLoad2 Abs.turn Abs.eStore Abs.cvOf Abs.pConv Abs.pConvI Abs.pConvS Abs.pField Abs.pFieldAddr Abs.pFieldAddr2 Abs.pIndex Abs.indexStr_int Abs.pSlice Abs.pSlice1 Abs.pSlice2 Abs.pSliceStr Abs.pSliceKnown Abs.pSliceOpen Abs.openCap Abs.cutIx Abs.optN Abs.sliceV Abs.pBuiltin Abs.pBuiltin1 Abs.pLen2 Abs.pCap2 Abs.pFold Abs.pMin Abs.pMax Abs.eBuiltin Abs.eCopy Abs.eDelete Abs.pick_bool Abs.pNilCheck Abs.pExtract Abs.pIface Abs.part Abs.bin_str Abs.aBinStr Abs.aBinEq Abs.pLookup Abs.mapOf Abs.cellsOf Abs.ptrTo Abs.St.put_eq Abs.St.new_eq Abs.nth_eq Abs.lenN_eq Abs.over_eq List.length_cons List.length_nil List.all_cons List.all_nil Bool.and_true Abs.oneB Nat.add_zero Array.toList_empty List.append_nil Int.ofNat_eq_natCast List.getElem?_toArray List.getElem?_cons_zero List.getElem?_cons_succ Abs.objCells_cells Abs.objCells_const Abs.bin_and_u8 Abs.bin_or_u8 Abs.bin_xor_u8 Abs.bin_shr_u8 Abs.bin_and_u16 Abs.bin_or_u16 Abs.bin_xor_u16 Abs.bin_shr_u16 Abs.bin_and_u32 Abs.bin_or_u32 Abs.bin_xor_u32 Abs.bin_shr_u32 Abs.bin_and_u64 Abs.bin_or_u64 Abs.bin_xor_u64 Abs.bin_shr_u64 Abs.bin_and_i64 Abs.bin_or_i64 Abs.bin_xor_i64 Abs.bin_shr_i64 Abs.bin_and_i32 Abs.bin_or_i32 Abs.bin_xor_i32 Abs.bin_shr_i32 Int.toNat_natCast Int.reduceToNat Abs.str_eql Abs.str_neq Abs.EvA_ok ite_true ite_false Abs.over_set List.take_zero List.nil_append List.drop_of_length_le Option.toList_some Option.toList_none List.take_length List.drop_succ_cons List.drop_zero Abs.mkStr Abs.str_lss Abs.str_gtr beq_self_eq_true Bool.not_true Bool.not_false Int.reduceAdd Int.reduceSub Abs.EvG_some Abs.true_imp Abs.false_imp Abs.true_no Abs.false_no Abs.ev_is Abs.vEq2_int Abs.vEq2_bool Abs.vEq2_str Abs.vEq2_ptr Abs.vEq2_slice Abs.vEq2_nils Abs.vEq2_map Abs.a_alloc Abs.a_box Abs.a_lit Abs.a_map Abs.a_conv Abs.do_lit Abs.do_mkslice Abs.mk_map Abs.litT_ok Abs.lit0 Abs.slT_ok Abs.ptT_ok Abs.mpT_ok Abs.eql_snil Abs.eql_ssome Abs.neq_snil Abs.neq_ssome Abs.eql_pnil Abs.eql_psome Abs.neq_pnil Abs.neq_psome decide_eq_true_eq decide_eq_false_iff_not true_and and_true eq_self Bool.false_eq_true Bool.true_eq_false true_implies false_implies Abs.tup_one Abs.tup_two Abs.tup_three Abs.tup_none Abs.res_tmp Abs.res_cell Abs.p_move Abs.p_assign Abs.p_pick Abs.p_binOp Abs.p_unOp Abs.p_convert Abs.p_iface Abs.p_fieldAddr Abs.p_field Abs.p_indexAddr Abs.p_index Abs.p_extract Abs.p_nilCheck Abs.p_build Abs.p_load Abs.p_slice Abs.p_lookup Abs.p_builtin Abs.EvAg_some Abs.un_neg Abs.shl_u32 Abs.shl_u64
attribute [local go_sem] Tryz.underlying3 Ty.sz3 Ty.by3 Ty.ag3 Ty.ze3 Tryz.underlying4 Ty.sz4 Ty.by4 Ty.ag4 Ty.ze4 Tryz.underlying5 Ty.sz5 Ty.by5 Ty.ag5 Ty.ze5 Tryz.underlying9 Ty.sz9 Ty.by9 Ty.ag9 Ty.ze9 Tryz.underlying23 Ty.sz23 Ty.by23 Ty.ag23 Ty.ze23 Tryz.underlying24 Ty.sz24 Ty.by24 Ty.ag24 Ty.ze24 Tryz.underlying26 Ty.sz26 Ty.by26 Ty.ag26 Ty.ze26 Tryz.underlying28 Ty.sz28 Ty.by28 Ty.ag28 Ty.ze28 Tryz.underlying41 Ty.sz41 Ty.by41 Ty.ag41 Ty.ze41 Tryz.underlying124 Ty.sz124 Ty.by124 Ty.ag124 Ty.ze124
section
variable {Sm : Summ} {Q : Ans → Prop}

def fileC (f : MF) : List Value := [.int .i64 f.num, .int .i64 f.level, .string ⟨⟨f.first⟩⟩, .string ⟨⟨f.last⟩⟩]
def filesC : List MF → List Value
  | [] => []
  | f :: l => fileC f ++ filesC l
theorem filesC_len : ∀ l : List MF, (filesC l).length = l.length * 4
  | [] => rfl
  | f :: l => by
    show (fileC f ++ filesC l).length = (l.length + 1) * 4
    rw [List.length_append, filesC_len l]
    show 4 + _ = _
    omega
theorem filesC_append (a b : List MF) : filesC (a ++ b) = filesC a ++ filesC b := by
  induction a with
  | nil => rfl
  | cons f a ih => show fileC f ++ filesC (a ++ b) = (fileC f ++ filesC a) ++ filesC b; rw [ih, List.append_assoc]
theorem filesC_at : ∀ (l : List MF) (i : Nat) (h : i < l.length), ((filesC l).drop (i * 4)).take 4 = fileC l[i]
  | f :: l, 0, _ => rfl
  | f :: l, i + 1, h => by
    have h' : i < l.length := by simpa using h
    show ((fileC f ++ filesC l).drop ((i + 1) * 4)).take 4 = fileC l[i]
    rw [show (i + 1) * 4 = (fileC f).length + i * 4 by show _ = 4 + i * 4; omega, List.drop_append]
    simp only [List.drop_eq_nil_of_le (Nat.le_add_right _ _), List.nil_append, Nat.add_sub_cancel_left]
    exact filesC_at l i h'
/-- files, as they lie -/
structure FilesAt (s : St) (v : Value) (l : List MF) : Prop where
  is : ∃ a c, v = .slice a l.length c
  src : srcCells s.heap 4 v = .ok (l.length, filesC l)
theorem FilesAt.mono {s s' : St} {v : Value} {l : List MF} (hk : ∀ b x, s.heap.get b = some x → s'.heap.get b = some x) (h : FilesAt s v l) : FilesAt s' v l := ⟨h.is, srcCells_mono hk h.src⟩
theorem FilesAt.cut {s : St} {b o n c : Nat} {l : List MF} (h : FilesAt s (.slice (some ⟨b, o, none⟩) n c) l) : n = l.length ∧ ∃ w, objCells (s.heap.get b) = .ok w ∧ ∀ (i : Nat) (hi : i < l.length), cutN w (o + i * 4) 4 = some (fileC l[i]) := by
  obtain ⟨a, c', e⟩ := h.is
  cases e
  have h2 := h.src
  obtain ⟨w, h1, h2, h3⟩ := src_parts h2
  refine ⟨rfl, w, h1, fun i hi => ?_⟩
  rw [cutN_eq, if_pos (by omega), ← filesC_at l i hi, ← h2, List.drop_take, List.take_take, List.drop_drop, Nat.min_eq_left (by omega)]
theorem cut_at {w r : List Value} {p n i : Nat} {v : Value} (h : cutN w p n = some r) (hi : r[i]? = some v) : w[p + i]? = some v := by
  obtain ⟨h1, rfl⟩ := cutN_some h
  rw [List.getElem?_take] at hi
  split at hi
  · rw [List.getElem?_drop] at hi; exact hi
  · cases hi
/-- a version, as a value -/
def verV (sv : Value) (v : MV) : Value := .agg #[sv, .int .i64 v.next, .int .u64 (v.seq : Int), .int .i64 v.log]
theorem obj_lt {s : St} (hwf : s.wf) {b : Nat} {w : List Value} (h : objCells (s.heap.get b) = .ok w) : b < s.next := by
  cases hb : s.heap.get b with
  | none => rw [hb] at h; cases h
  | some x => exact hwf _ _ hb
theorem keysI : KeyOf Tryz.prog 3 intV := Abs.keyOf_int Tryz.underlying3
theorem goodV_cut {fs : List MF} {nx lg : Int} {sq : Nat} (h0 : fs.length ≤ 1000) (h1 : 1 ≤ nx) (h2 : nx ≤ 999999) (h3 : 0 ≤ lg) (h4 : lg ≤ 999999) (h5 : ∀ i (h : i < fs.length), GoodF nx fs[i]) (h6 : (fs.map (·.num)).Nodup) : GoodV ⟨fs, nx, sq, lg⟩ :=
  ⟨h0, h1, h2, h3, h4, fun f hf => by obtain ⟨i, hi, rfl⟩ := List.getElem_of_mem hf; exact h5 i hi, h6⟩
theorem take_num {fs : List MF} {i : Nat} (h : i < fs.length) : (fs.take (i + 1)).map (·.num) = (fs.take i).map (·.num) ++ [fs[i].num] := by
  rw [List.take_add_one, List.getElem?_eq_getElem h, List.map_append]
  rfl
theorem num_in {fs : List MF} {i : Nat} (h : i < fs.length) (hm : fs[i].num ∈ (fs.take i).map (·.num)) : ¬ (fs.map (·.num)).Nodup := fun hn => by
  have h1 : ((fs.take (i + 1)).map (·.num)).Nodup := hn.sublist ((List.take_sublist _ _).map _)
  rw [take_num h, List.nodup_append] at h1
  exact h1.2.2 _ hm _ (List.mem_singleton.2 rfl) rfl
set_option maxRecDepth 20000 in
theorem good_ev (hs : Sm 46 = none) {s : St} (hwf : s.wf) {sv : Value} {v : MV} (hv : FilesAt s sv v.files) (hl : v.files.length < 1000000000) (hF : ¬ GoodV v → ∀ s', Keep s s' → Q (.val (.bool false) s')) (hT : GoodV v → ∀ s', Keep s s' → Q (.val (.bool true) s')) :
    Ev Tryz.prog Sm (.inv (.fn (.func 46) #[]) [verV sv v] s) Q := by
  refine Ev.func hs Tryz.func46 rfl (m := 80) rfl ?_
  simp only [Array.toList_empty, List.append_nil, ofList_cons, ofList_nil]
  obtain ⟨fs, nx, sq, lg⟩ := v
  obtain ⟨⟨a, c, rfl⟩, hsrc⟩ := id hv
  simp only at hv hsrc hl
  unfold verV
  (try (first | refine EvO.nx ?_ | refine EvA.nx ?_)); repeat' (first | refine Ev.seq ?_ | refine Ev.region ?_ | refine Ev.block ?_ | refine Ev.skip ?_ | refine Ev.exit ?_ | refine Ev.ret ?_ | refine Ev.runNil ?_ | refine Ev.stepsNil ?_ | refine Seq.go ?_ | refine Seq.off ?_ | refine Blk.here ?_ | refine Blk.go ?_ | refine Blk.off rfl ?_ | refine Blk.ret ?_ | refine Ev.label ?_ | refine Ev.scope ?_ | ((first | apply Ev.kcall rfl | apply Ev.kcallN | apply Ev.kgocall rfl rfl | apply Ev.kT rfl | apply Ev.kN | apply Ev.kgo rfl rfl rfl | apply Ev.kgoN rfl rfl); (· (intros; simp (disch := first | omega | assumption) only [go_sem, ]; exact rfl))) | (apply Ev.kag rfl; (· (intros; simp (disch := first | omega | assumption) only [go_sem, ]; exact rfl)); (· (intros; simp (disch := first | omega | assumption) only [go_sem, ]; exact rfl)); (· simp only [go_sem])) | ((first | apply Ev.kG (hj := rfl) (hd := rfl) | apply Ev.kcond); (· (intros; simp (disch := first | omega | assumption) only [go_sem, ]; exact rfl)); all_goals ((try simp only [upd_some, upd_none]); (intro hb; (try simp only [decide_eq_true_eq, decide_eq_false_iff_not, Bool.true_eq_false, Bool.false_eq_true, Bool.not_true, Bool.not_false, eq_self] at hb); (try (exfalso; omega))))) | (apply Ev.kG0 (hj := rfl) (hd := rfl); (· (first | (intros; simp (disch := first | omega | assumption) only [go_sem, ]; exact rfl) | simp (disch := first | omega | assumption) only [go_sem, ])); (try simp only [upd_some, upd_none])) | ((first | apply Body.kret rfl | apply Body.kend rfl); (· (intros; simp (disch := first | omega | assumption) only [go_sem, ]; exact rfl)); (· exact rfl)) | refine Ev.step' rfl rfl rfl ?_ | refine Ev.goS' rfl rfl rfl rfl ?_ | refine Ev.goG' rfl rfl rfl rfl rfl ?_ | refine Ev.againS' rfl rfl rfl ?_ | refine Ev.newS' rfl rfl rfl ?_ | refine Body.retE rfl ?_ | refine Body.endE rfl ?_ | (refine Nx.go ?_; (first | simp (disch := first | omega | assumption) only [go_sem, ] | skip)) | (refine ⟨fun hb => ?_, fun hb => ?_⟩ <;> first | (exfalso; omega) | skip) | fail)
  all_goals (try (refine hF (fun g => ?_) _ ((Keep.refl hwf).new _); obtain ⟨g0, g1, g2, g3, g4, _, _⟩ := g; simp only at g0 g1 g2 g3 g4; omega))
  refine Ev.loop (fun k a' s' => Keep s s' ∧ ∃ T i met, a' = ⟨T, 80, []⟩ ∧ T.get 1 = some (.pointer (some ⟨s.next, 0, none⟩)) ∧ T.get 3 = some (.map (some (s.next + 1))) ∧ T.get 32 = some (.slice a fs.length c) ∧ T.get 33 = some (.int .i64 (fs.length : Int)) ∧ T.get 34 = some (.int .i64 ((i : Nat) : Int)) ∧ i ≤ fs.length ∧ k = fs.length - i ∧
      s'.heap.get s.next = some (.cells [.slice a fs.length c, .int .i64 nx, .int .u64 (sq : Int), .int .i64 lg] 26 0 false (0, 0)) ∧ MapAt s' (s.next + 1) intV boolV met ∧ (∀ p ∈ met, p.2 = true) ∧ (∀ x, x ∈ akeys met ↔ x ∈ (fs.take i).map (·.num)) ∧ (∀ j (h : j < fs.length), j < i → GoodF nx fs[j]) ∧ ((fs.take i).map (·.num)).Nodup) (k := fs.length)
    ⟨((Keep.refl hwf).new _).new _, _, 0, [], rfl, ?g1, ?g3, ?g32, ?g33, ?g34, Nat.zero_le _, rfl, ?gv, ⟨[], 0, get_same _ _ _, .nil, ⟨fun e he => (by cases he), List.nodup_nil⟩⟩, fun p hp => (by cases hp), fun x => (by simp [akeys]), fun j h hj => absurd hj (Nat.not_lt_zero _), List.nodup_nil⟩ ?_
  case g1 => simp (disch := first | omega | assumption) only [go_sem, ]
  case g3 => simp (disch := first | omega | assumption) only [go_sem, ]
  case g32 => simp (disch := first | omega | assumption) only [go_sem, ]
  case g33 => simp (disch := first | omega | assumption) only [go_sem, ]
  case g34 => simp (disch := first | omega | assumption) only [go_sem, ]; try rfl
  case gv => simp (disch := first | omega | assumption) only [go_sem, ]
  rintro k a' s' ⟨hk, T, i, met, rfl, g1, g3, g32, g33, g34, hi, rfl, hver, hmap, hm1, hm2, hgo, hnd⟩
  by_cases hil : i < fs.length
  · cases a with
    | none =>
      have e : (0, ([] : List Value)) = (fs.length, filesC fs) := Rs.ok.inj hsrc
      have e1 : fs.length = 0 := (congrArg Prod.fst e).symm
      omega
    | some a =>
      obtain ⟨b, o, sp⟩ := a
      cases sp with
      | some _ => cases hsrc
      | none =>
        obtain ⟨_, w, hw, hcut⟩ := (hv.mono hk.old).cut
        have hlt := obj_lt hwf (hv.cut.2.choose_spec.1)
        have hc4 := hcut i hil
        have hG := fun g : GoodV ⟨fs, nx, sq, lg⟩ => g.all fs[i] (List.getElem_mem hil)
        have hN := fun (g : GoodV ⟨fs, nx, sq, lg⟩) hm => num_in hil hm g.nodup
        have hkn := hk.next
        have hwf' := hk.wf
        generalize hf : fs[i] = f at *
        obtain ⟨num, level, first, last⟩ := f
        unfold fileC at hc4
        simp only at hc4 hG hN
        obtain ⟨es, clock, hm, he, hbn⟩ := id hmap
        have hml := hk.wf _ _ hm
        rcases find_map keysI num met 0 he with ⟨j, v, q1, q2⟩ | ⟨q0, q2⟩
        · obtain rfl : v = true := hm1 _ (aget_mem q1)
          have hin : num ∈ (fs.take i).map (·.num) := (hm2 num).1 (List.mem_map_of_mem (f := (·.1)) (aget_mem q1))
          (try (first | refine EvO.nx ?_ | refine EvA.nx ?_)); repeat' (first | refine Ev.seq ?_ | refine Ev.region ?_ | refine Ev.block ?_ | refine Ev.skip ?_ | refine Ev.exit ?_ | refine Ev.ret ?_ | refine Ev.runNil ?_ | refine Ev.stepsNil ?_ | refine Seq.go ?_ | refine Seq.off ?_ | refine Blk.here ?_ | refine Blk.go ?_ | refine Blk.off rfl ?_ | refine Blk.ret ?_ | refine Ev.label ?_ | refine Ev.scope ?_ | ((first | apply Ev.kcall rfl | apply Ev.kcallN | apply Ev.kgocall rfl rfl | apply Ev.kT rfl | apply Ev.kN | apply Ev.kgo rfl rfl rfl | apply Ev.kgoN rfl rfl); (· (intros; simp (disch := first | omega | assumption) only [go_sem, g1, g3, g32, g33, g34, hw, hc4, hver, hm, q2, keysI.ok]; exact rfl))) | (apply Ev.kag rfl; (· (intros; simp (disch := first | omega | assumption) only [go_sem, g1, g3, g32, g33, g34, hw, hc4, hver, hm, q2, keysI.ok]; exact rfl)); (· (intros; simp (disch := first | omega | assumption) only [go_sem, g1, g3, g32, g33, g34, hw, hc4, hver, hm, q2, keysI.ok]; exact rfl)); (· simp only [go_sem])) | ((first | apply Ev.kG (hj := rfl) (hd := rfl) | apply Ev.kcond); (· (intros; simp (disch := first | omega | assumption) only [go_sem, g1, g3, g32, g33, g34, hw, hc4, hver, hm, q2, keysI.ok]; exact rfl)); all_goals ((try simp only [upd_some, upd_none]); (intro hb; (try simp only [decide_eq_true_eq, decide_eq_false_iff_not, Bool.true_eq_false, Bool.false_eq_true, Bool.not_true, Bool.not_false, eq_self] at hb); (try (exfalso; omega))))) | (apply Ev.kG0 (hj := rfl) (hd := rfl); (· (first | (intros; simp (disch := first | omega | assumption) only [go_sem, g1, g3, g32, g33, g34, hw, hc4, hver, hm, q2, keysI.ok]; exact rfl) | simp (disch := first | omega | assumption) only [go_sem, g1, g3, g32, g33, g34, hw, hc4, hver, hm, q2, keysI.ok])); (try simp only [upd_some, upd_none])) | ((first | apply Body.kret rfl | apply Body.kend rfl); (· (intros; simp (disch := first | omega | assumption) only [go_sem, g1, g3, g32, g33, g34, hw, hc4, hver, hm, q2, keysI.ok]; exact rfl)); (· exact rfl)) | refine Ev.step' rfl rfl rfl ?_ | refine Ev.goS' rfl rfl rfl rfl ?_ | refine Ev.goG' rfl rfl rfl rfl rfl ?_ | refine Ev.againS' rfl rfl rfl ?_ | refine Ev.newS' rfl rfl rfl ?_ | refine Body.retE rfl ?_ | refine Body.endE rfl ?_ | (refine Nx.go ?_; (first | simp (disch := first | omega | assumption) only [go_sem, g1, g3, g32, g33, g34, hw, hc4, hver, hm, q2, keysI.ok] | skip)) | (refine ⟨fun hb => ?_, fun hb => ?_⟩ <;> first | (exfalso; omega) | skip) | fail)
          all_goals exact hF (fun g => hN g hin) _ (by ((repeat (refine Abs.Keep.set2 ?_ (by omega) (by omega) hwf)); exact Abs.Keep.grow hk (by omega)))
        · have hnin : num ∉ (fs.take i).map (·.num) := fun x => (aget_none.1 q0) ((hm2 num).2 x)
          (try (first | refine EvO.nx ?_ | refine EvA.nx ?_)); repeat' (first | refine Ev.seq ?_ | refine Ev.region ?_ | refine Ev.block ?_ | refine Ev.skip ?_ | refine Ev.exit ?_ | refine Ev.ret ?_ | refine Ev.runNil ?_ | refine Ev.stepsNil ?_ | refine Seq.go ?_ | refine Seq.off ?_ | refine Blk.here ?_ | refine Blk.go ?_ | refine Blk.off rfl ?_ | refine Blk.ret ?_ | refine Ev.label ?_ | refine Ev.scope ?_ | ((first | apply Ev.kcall rfl | apply Ev.kcallN | apply Ev.kgocall rfl rfl | apply Ev.kT rfl | apply Ev.kN | apply Ev.kgo rfl rfl rfl | apply Ev.kgoN rfl rfl); (· (intros; simp (disch := first | omega | assumption) only [go_sem, g1, g3, g32, g33, g34, hw, hc4, hver, hm, q2, keysI.ok]; exact rfl))) | (apply Ev.kag rfl; (· (intros; simp (disch := first | omega | assumption) only [go_sem, g1, g3, g32, g33, g34, hw, hc4, hver, hm, q2, keysI.ok]; exact rfl)); (· (intros; simp (disch := first | omega | assumption) only [go_sem, g1, g3, g32, g33, g34, hw, hc4, hver, hm, q2, keysI.ok]; exact rfl)); (· simp only [go_sem])) | ((first | apply Ev.kG (hj := rfl) (hd := rfl) | apply Ev.kcond); (· (intros; simp (disch := first | omega | assumption) only [go_sem, g1, g3, g32, g33, g34, hw, hc4, hver, hm, q2, keysI.ok]; exact rfl)); all_goals ((try simp only [upd_some, upd_none]); (intro hb; (try simp only [decide_eq_true_eq, decide_eq_false_iff_not, Bool.true_eq_false, Bool.false_eq_true, Bool.not_true, Bool.not_false, eq_self] at hb); (try (exfalso; omega))))) | (apply Ev.kG0 (hj := rfl) (hd := rfl); (· (first | (intros; simp (disch := first | omega | assumption) only [go_sem, g1, g3, g32, g33, g34, hw, hc4, hver, hm, q2, keysI.ok]; exact rfl) | simp (disch := first | omega | assumption) only [go_sem, g1, g3, g32, g33, g34, hw, hc4, hver, hm, q2, keysI.ok])); (try simp only [upd_some, upd_none])) | ((first | apply Body.kret rfl | apply Body.kend rfl); (· (intros; simp (disch := first | omega | assumption) only [go_sem, g1, g3, g32, g33, g34, hw, hc4, hver, hm, q2, keysI.ok]; exact rfl)); (· exact rfl)) | refine Ev.step' rfl rfl rfl ?_ | refine Ev.goS' rfl rfl rfl rfl ?_ | refine Ev.goG' rfl rfl rfl rfl rfl ?_ | refine Ev.againS' rfl rfl rfl ?_ | refine Ev.newS' rfl rfl rfl ?_ | refine Body.retE rfl ?_ | refine Body.endE rfl ?_ | (refine Nx.go ?_; (first | simp (disch := first | omega | assumption) only [go_sem, g1, g3, g32, g33, g34, hw, hc4, hver, hm, q2, keysI.ok] | skip)) | (refine ⟨fun hb => ?_, fun hb => ?_⟩ <;> first | (exfalso; omega) | skip) | fail)
          all_goals (try (refine hF (fun g => ?_) _ (by ((repeat (refine Abs.Keep.set2 ?_ (by omega) (by omega) hwf)); exact Abs.Keep.grow hk (by omega))); obtain ⟨g1, g2, g3, g4, g5, g6⟩ := hG g; simp only at g1 g2 g3 g4 g5 g6; omega))
          have hk2 : Keep s ⟨(s'.heap.set s'.next (.cells [.int .i64 0, .int .i64 0, .string ⟨⟨[]⟩⟩, .string ⟨⟨[]⟩⟩] 41 0 false (0, 0))).set s'.next (.cells [.int .i64 num, .int .i64 level, .string ⟨⟨first⟩⟩, .string ⟨⟨last⟩⟩] 41 0 false (0, 0)), s'.next + 1⟩ := by ((repeat (refine Abs.Keep.set2 ?_ (by omega) (by omega) hwf)); exact Abs.Keep.grow hk (by omega))
          refine EvO.mput (κ := intV) (ν := boolV) (k := num) (v := true) Tryz.underlying124 keysI hk2.wf (hmap.mono fun x hx => by simp (disch := first | omega | assumption) only [go_sem, hx]) fun s2 m1 m2 m3 m4 => ?_
          have hv2 := m4 s.next _ (by omega) ((get_other _ _ _ _ (by omega)).trans ((get_other _ _ _ _ (by omega)).trans hver))
          (try (first | refine EvO.nx ?_ | refine EvA.nx ?_)); repeat' (first | refine Ev.seq ?_ | refine Ev.region ?_ | refine Ev.block ?_ | refine Ev.skip ?_ | refine Ev.exit ?_ | refine Ev.ret ?_ | refine Ev.runNil ?_ | refine Ev.stepsNil ?_ | refine Seq.go ?_ | refine Seq.off ?_ | refine Blk.here ?_ | refine Blk.go ?_ | refine Blk.off rfl ?_ | refine Blk.ret ?_ | refine Ev.label ?_ | refine Ev.scope ?_ | ((first | apply Ev.kcall rfl | apply Ev.kcallN | apply Ev.kgocall rfl rfl | apply Ev.kT rfl | apply Ev.kN | apply Ev.kgo rfl rfl rfl | apply Ev.kgoN rfl rfl); (· (intros; simp (disch := first | omega | assumption) only [go_sem, g1, g3, g32, g33, g34, hv2]; exact rfl))) | (apply Ev.kag rfl; (· (intros; simp (disch := first | omega | assumption) only [go_sem, g1, g3, g32, g33, g34, hv2]; exact rfl)); (· (intros; simp (disch := first | omega | assumption) only [go_sem, g1, g3, g32, g33, g34, hv2]; exact rfl)); (· simp only [go_sem])) | ((first | apply Ev.kG (hj := rfl) (hd := rfl) | apply Ev.kcond); (· (intros; simp (disch := first | omega | assumption) only [go_sem, g1, g3, g32, g33, g34, hv2]; exact rfl)); all_goals ((try simp only [upd_some, upd_none]); (intro hb; (try simp only [decide_eq_true_eq, decide_eq_false_iff_not, Bool.true_eq_false, Bool.false_eq_true, Bool.not_true, Bool.not_false, eq_self] at hb); (try (exfalso; omega))))) | (apply Ev.kG0 (hj := rfl) (hd := rfl); (· (first | (intros; simp (disch := first | omega | assumption) only [go_sem, g1, g3, g32, g33, g34, hv2]; exact rfl) | simp (disch := first | omega | assumption) only [go_sem, g1, g3, g32, g33, g34, hv2])); (try simp only [upd_some, upd_none])) | ((first | apply Body.kret rfl | apply Body.kend rfl); (· (intros; simp (disch := first | omega | assumption) only [go_sem, g1, g3, g32, g33, g34, hv2]; exact rfl)); (· exact rfl)) | refine Ev.step' rfl rfl rfl ?_ | refine Ev.goS' rfl rfl rfl rfl ?_ | refine Ev.goG' rfl rfl rfl rfl rfl ?_ | refine Ev.againS' rfl rfl rfl ?_ | refine Ev.newS' rfl rfl rfl ?_ | refine Body.retE rfl ?_ | refine Body.endE rfl ?_ | (refine Nx.go ?_; (first | simp (disch := first | omega | assumption) only [go_sem, g1, g3, g32, g33, g34, hv2] | skip)) | (refine ⟨fun hb => ?_, fun hb => ?_⟩ <;> first | (exfalso; omega) | skip) | fail)
          refine ⟨fs.length - (i + 1), by omega, ⟨m3, by rw [m2]; show s.next ≤ s'.next + 1; omega, fun b x hb => m4 b x (by have := hwf b x hb; omega) (hk2.old b x hb)⟩, _, i + 1, aput met num true, rfl, ?_, ?_, ?_, ?_, ?_, by omega, rfl, hv2, m1, fun p hp => ?_, fun x => ?_, fun j h hj => ?_, ?_⟩
          · simp (disch := first | omega | assumption) only [go_sem, g1]
          · simp (disch := first | omega | assumption) only [go_sem, g3]
          · simp (disch := first | omega | assumption) only [go_sem, g32]
          · simp (disch := first | omega | assumption) only [go_sem, g33]
          · simp (disch := first | omega | assumption) only [go_sem, Int.natCast_add, Int.natCast_one]
          · rcases mem_aput hp with hp | rfl
            · exact hm1 p hp
            · rfl
          · rw [take_num hil, hf, List.mem_append, ← hm2, akeys_aput]
            split
            · rename_i hx
              exact absurd ((hm2 num).1 hx) hnin
            · simp
          · by_cases hji : j = i
            · subst hji
              rw [hf]
              exact ⟨by simp only; omega, by simp only; omega, by simp only; omega, by simp only; omega, by simp only; omega, by simp only; omega⟩
            · exact hgo j h (by omega)
          · rw [take_num hil, hf, List.nodup_append]
            exact ⟨hnd, by simp, fun x hx y hy => by rw [List.mem_singleton.1 hy]; rintro rfl; exact hnin hx⟩
  · (try (first | refine EvO.nx ?_ | refine EvA.nx ?_)); repeat' (first | refine Ev.seq ?_ | refine Ev.region ?_ | refine Ev.block ?_ | refine Ev.skip ?_ | refine Ev.exit ?_ | refine Ev.ret ?_ | refine Ev.runNil ?_ | refine Ev.stepsNil ?_ | refine Seq.go ?_ | refine Seq.off ?_ | refine Blk.here ?_ | refine Blk.go ?_ | refine Blk.off rfl ?_ | refine Blk.ret ?_ | refine Ev.label ?_ | refine Ev.scope ?_ | ((first | apply Ev.kcall rfl | apply Ev.kcallN | apply Ev.kgocall rfl rfl | apply Ev.kT rfl | apply Ev.kN | apply Ev.kgo rfl rfl rfl | apply Ev.kgoN rfl rfl); (· (intros; simp (disch := first | omega | assumption) only [go_sem, g1, g3, g32, g33, g34]; exact rfl))) | (apply Ev.kag rfl; (· (intros; simp (disch := first | omega | assumption) only [go_sem, g1, g3, g32, g33, g34]; exact rfl)); (· (intros; simp (disch := first | omega | assumption) only [go_sem, g1, g3, g32, g33, g34]; exact rfl)); (· simp only [go_sem])) | ((first | apply Ev.kG (hj := rfl) (hd := rfl) | apply Ev.kcond); (· (intros; simp (disch := first | omega | assumption) only [go_sem, g1, g3, g32, g33, g34]; exact rfl)); all_goals ((try simp only [upd_some, upd_none]); (intro hb; (try simp only [decide_eq_true_eq, decide_eq_false_iff_not, Bool.true_eq_false, Bool.false_eq_true, Bool.not_true, Bool.not_false, eq_self] at hb); (try (exfalso; omega))))) | (apply Ev.kG0 (hj := rfl) (hd := rfl); (· (first | (intros; simp (disch := first | omega | assumption) only [go_sem, g1, g3, g32, g33, g34]; exact rfl) | simp (disch := first | omega | assumption) only [go_sem, g1, g3, g32, g33, g34])); (try simp only [upd_some, upd_none])) | ((first | apply Body.kret rfl | apply Body.kend rfl); (· (intros; simp (disch := first | omega | assumption) only [go_sem, g1, g3, g32, g33, g34]; exact rfl)); (· exact rfl)) | refine Ev.step' rfl rfl rfl ?_ | refine Ev.goS' rfl rfl rfl rfl ?_ | refine Ev.goG' rfl rfl rfl rfl rfl ?_ | refine Ev.againS' rfl rfl rfl ?_ | refine Ev.newS' rfl rfl rfl ?_ | refine Body.retE rfl ?_ | refine Body.endE rfl ?_ | (refine Nx.go ?_; (first | simp (disch := first | omega | assumption) only [go_sem, g1, g3, g32, g33, g34] | skip)) | (refine ⟨fun hb => ?_, fun hb => ?_⟩ <;> first | (exfalso; omega) | skip) | fail)
    obtain rfl : i = fs.length := by omega
    rw [List.take_length] at hnd
    exact hT (goodV_cut (by omega) (by omega) (by omega) (by omega) (by omega) (fun j h => hgo j h h) hnd) _ hk
theorem FilesAt.some {s : St} {a : Option Addr} {n c : Nat} {l : List MF} (h : FilesAt s (.slice a n c) l) (hl : l ≠ []) : ∃ b o, a = some ⟨b, o, none⟩ := by
  obtain ⟨a', c', e⟩ := h.is
  have h2 := h.src
  cases a with
  | none =>
    have e : (0, ([] : List Value)) = (l.length, filesC l) := Rs.ok.inj h2
    exact absurd (List.eq_nil_of_length_eq_zero (congrArg Prod.fst e).symm) hl
  | some a =>
    obtain ⟨b, o, sp⟩ := a
    cases sp with
    | some _ => cases h2
    | none => exact ⟨b, o, rfl⟩
set_option maxRecDepth 20000 in
theorem may_ev (hs : Sm 24 = none) {s : St} (hwf : s.wf) {sv : Value} {v : MV} (hv : FilesAt s sv v.files) (hl : v.files.length < 1000000000) (hF : ¬ GoodV v → ∀ s', Keep s s' → Q (.val (.bool false) s')) (hT : GoodV v → ∀ s', Keep s s' → Q (.val (.bool true) s')) :
    Ev Tryz.prog Sm (.inv (.fn (.func 24) #[]) [verV sv v] s) Q := by
  refine Ev.func hs Tryz.func24 rfl (m := 88) rfl ?_
  simp only [Array.toList_empty, List.append_nil, ofList_cons, ofList_nil]
  obtain ⟨fs, nx, sq, lg⟩ := v
  obtain ⟨⟨a, c, rfl⟩, hsrc⟩ := id hv
  simp only at hv hsrc hl
  unfold verV
  (try (first | refine EvO.nx ?_ | refine EvA.nx ?_)); repeat' (first | refine Ev.seq ?_ | refine Ev.region ?_ | refine Ev.block ?_ | refine Ev.skip ?_ | refine Ev.exit ?_ | refine Ev.ret ?_ | refine Ev.runNil ?_ | refine Ev.stepsNil ?_ | refine Seq.go ?_ | refine Seq.off ?_ | refine Blk.here ?_ | refine Blk.go ?_ | refine Blk.off rfl ?_ | refine Blk.ret ?_ | refine Ev.label ?_ | refine Ev.scope ?_ | ((first | apply Ev.kcall rfl | apply Ev.kcallN | apply Ev.kgocall rfl rfl | apply Ev.kT rfl | apply Ev.kN | apply Ev.kgo rfl rfl rfl | apply Ev.kgoN rfl rfl); (· (intros; simp (disch := first | omega | assumption) only [go_sem, ]; exact rfl))) | (apply Ev.kag rfl; (· (intros; simp (disch := first | omega | assumption) only [go_sem, ]; exact rfl)); (· (intros; simp (disch := first | omega | assumption) only [go_sem, ]; exact rfl)); (· simp only [go_sem])) | ((first | apply Ev.kG (hj := rfl) (hd := rfl) | apply Ev.kcond); (· (intros; simp (disch := first | omega | assumption) only [go_sem, ]; exact rfl)); all_goals ((try simp only [upd_some, upd_none]); (intro hb; (try simp only [decide_eq_true_eq, decide_eq_false_iff_not, Bool.true_eq_false, Bool.false_eq_true, Bool.not_true, Bool.not_false, eq_self] at hb); (try (exfalso; omega))))) | (apply Ev.kG0 (hj := rfl) (hd := rfl); (· (first | (intros; simp (disch := first | omega | assumption) only [go_sem, ]; exact rfl) | simp (disch := first | omega | assumption) only [go_sem, ])); (try simp only [upd_some, upd_none])) | ((first | apply Body.kret rfl | apply Body.kend rfl); (· (intros; simp (disch := first | omega | assumption) only [go_sem, ]; exact rfl)); (· exact rfl)) | refine Ev.step' rfl rfl rfl ?_ | refine Ev.goS' rfl rfl rfl rfl ?_ | refine Ev.goG' rfl rfl rfl rfl rfl ?_ | refine Ev.againS' rfl rfl rfl ?_ | refine Ev.newS' rfl rfl rfl ?_ | refine Body.retE rfl ?_ | refine Body.endE rfl ?_ | (refine Nx.go ?_; (first | simp (disch := first | omega | assumption) only [go_sem, ] | skip)) | (refine ⟨fun hb => ?_, fun hb => ?_⟩ <;> first | (exfalso; omega) | skip) | fail)
  all_goals (try (refine hF (fun g => ?_) _ ((Keep.refl hwf).new _); obtain ⟨g0, g1, g2, g3, g4, _, _⟩ := g; simp only at g0 g1 g2 g3 g4; omega))
  refine Ev.loop (fun k a' s' => Keep s s' ∧ ∃ T i, a' = ⟨T, 88, []⟩ ∧ T.get 1 = some (.pointer (some ⟨s.next, 0, none⟩)) ∧ T.get 3 = some (.int .i64 ((i : Nat) : Int)) ∧ i ≤ fs.length ∧ k = fs.length - i ∧
      s'.heap.get s.next = some (.cells [.slice a fs.length c, .int .i64 nx, .int .u64 (sq : Int), .int .i64 lg] 26 0 false (0, 0)) ∧ (∀ j (h : j < fs.length), j < i → GoodF nx fs[j]) ∧ ((fs.take i).map (·.num)).Nodup) (k := fs.length)
    ⟨(Keep.refl hwf).new _, _, 0, rfl, ?g1, ?g3, Nat.zero_le _, rfl, get_same _ _ _, fun j h hj => absurd hj (Nat.not_lt_zero _), List.nodup_nil⟩ ?_
  case g1 => simp (disch := first | omega | assumption) only [go_sem, ]
  case g3 => simp (disch := first | omega | assumption) only [go_sem, ]; try rfl
  rintro k a' s' ⟨hk, T, i, rfl, g1, g3, hi, rfl, hver, hgo, hnd⟩
  by_cases hil : i < fs.length
  · obtain ⟨b, o, rfl⟩ := hv.some (by intro e; rw [e] at hil; exact absurd hil (Nat.not_lt_zero _))
    obtain ⟨_, w, hw, hcut⟩ := (hv.mono hk.old).cut
    have hlt := obj_lt hwf (hv.cut.2.choose_spec.1)
    have hc4 := hcut i hil
    have hG := fun g : GoodV ⟨fs, nx, sq, lg⟩ => g.all fs[i] (List.getElem_mem hil)
    have hN := fun (g : GoodV ⟨fs, nx, sq, lg⟩) hm => num_in hil hm g.nodup
    have hkn := hk.next
    have hwf' := hk.wf
    have hml := hk.wf _ _ hver
    generalize hf : fs[i] = f at *
    obtain ⟨num, level, first, last⟩ := f
    unfold fileC at hc4
    simp only at hc4 hG hN
    (try (first | refine EvO.nx ?_ | refine EvA.nx ?_)); repeat' (first | refine Ev.seq ?_ | refine Ev.region ?_ | refine Ev.block ?_ | refine Ev.skip ?_ | refine Ev.exit ?_ | refine Ev.ret ?_ | refine Ev.runNil ?_ | refine Ev.stepsNil ?_ | refine Seq.go ?_ | refine Seq.off ?_ | refine Blk.here ?_ | refine Blk.go ?_ | refine Blk.off rfl ?_ | refine Blk.ret ?_ | refine Ev.label ?_ | refine Ev.scope ?_ | ((first | apply Ev.kcall rfl | apply Ev.kcallN | apply Ev.kgocall rfl rfl | apply Ev.kT rfl | apply Ev.kN | apply Ev.kgo rfl rfl rfl | apply Ev.kgoN rfl rfl); (· (intros; simp (disch := first | omega | assumption) only [go_sem, g1, g3, hw, hc4, hver]; exact rfl))) | (apply Ev.kag rfl; (· (intros; simp (disch := first | omega | assumption) only [go_sem, g1, g3, hw, hc4, hver]; exact rfl)); (· (intros; simp (disch := first | omega | assumption) only [go_sem, g1, g3, hw, hc4, hver]; exact rfl)); (· simp only [go_sem])) | ((first | apply Ev.kG (hj := rfl) (hd := rfl) | apply Ev.kcond); (· (intros; simp (disch := first | omega | assumption) only [go_sem, g1, g3, hw, hc4, hver]; exact rfl)); all_goals ((try simp only [upd_some, upd_none]); (intro hb; (try simp only [decide_eq_true_eq, decide_eq_false_iff_not, Bool.true_eq_false, Bool.false_eq_true, Bool.not_true, Bool.not_false, eq_self] at hb); (try (exfalso; omega))))) | (apply Ev.kG0 (hj := rfl) (hd := rfl); (· (first | (intros; simp (disch := first | omega | assumption) only [go_sem, g1, g3, hw, hc4, hver]; exact rfl) | simp (disch := first | omega | assumption) only [go_sem, g1, g3, hw, hc4, hver])); (try simp only [upd_some, upd_none])) | ((first | apply Body.kret rfl | apply Body.kend rfl); (· (intros; simp (disch := first | omega | assumption) only [go_sem, g1, g3, hw, hc4, hver]; exact rfl)); (· exact rfl)) | refine Ev.step' rfl rfl rfl ?_ | refine Ev.goS' rfl rfl rfl rfl ?_ | refine Ev.goG' rfl rfl rfl rfl rfl ?_ | refine Ev.againS' rfl rfl rfl ?_ | refine Ev.newS' rfl rfl rfl ?_ | refine Body.retE rfl ?_ | refine Body.endE rfl ?_ | (refine Nx.go ?_; (first | simp (disch := first | omega | assumption) only [go_sem, g1, g3, hw, hc4, hver] | skip)) | (refine ⟨fun hb => ?_, fun hb => ?_⟩ <;> first | (exfalso; omega) | skip) | fail)
    all_goals (try (refine hF (fun g => ?_) _ (by ((repeat (refine Abs.Keep.set2 ?_ (by omega) (by omega) hwf)); exact Abs.Keep.grow hk (by omega))); obtain ⟨g1, g2, g3, g4, g5, g6⟩ := hG g; simp only at g1 g2 g3 g4 g5 g6; omega))
    have hgf : GoodF nx ⟨num, level, first, last⟩ := ⟨by simp only; omega, by simp only; omega, by simp only; omega, by simp only; omega, by simp only; omega, by simp only; omega⟩
    obtain ⟨s2, hs2⟩ : ∃ s2 : St, s2 = ⟨(s'.heap.set s'.next (.cells [.int .i64 0, .int .i64 0, .string ⟨⟨[]⟩⟩, .string ⟨⟨[]⟩⟩] 41 0 false (0, 0))).set s'.next (.cells [.int .i64 num, .int .i64 level, .string ⟨⟨first⟩⟩, .string ⟨⟨last⟩⟩] 41 0 false (0, 0)), s'.next + 1⟩ := ⟨_, rfl⟩
    rw [← hs2]
    have hk2 : Keep s s2 := by rw [hs2]; ((repeat (refine Abs.Keep.set2 ?_ (by omega) (by omega) hwf)); exact Abs.Keep.grow hk (by omega))
    have hv2 : s2.heap.get s.next = some (.cells [.slice (some ⟨b, o, none⟩) fs.length c, .int .i64 nx, .int .u64 (sq : Int), .int .i64 lg] 26 0 false (0, 0)) := by rw [hs2]; simp (disch := first | omega | assumption) only [go_sem, hver]
    have hw2 : objCells (s2.heap.get b) = .ok w := by rw [hs2]; simp (disch := first | omega | assumption) only [go_sem, hw]
    have hf2 : s2.heap.get s'.next = some (.cells [.int .i64 num, .int .i64 level, .string ⟨⟨first⟩⟩, .string ⟨⟨last⟩⟩] 41 0 false (0, 0)) := by rw [hs2]; simp (disch := first | omega | assumption) only [go_sem, ]
    clear hs2
    refine Ev.loop (fun k a' s'' => s'' = s2 ∧ ∃ T q, a' = ⟨T, 88, []⟩ ∧ T.get 1 = some (.pointer (some ⟨s.next, 0, none⟩)) ∧ T.get 3 = some (.int .i64 ((i : Nat) : Int)) ∧ T.get 4 = some (.pointer (some ⟨s'.next, 0, none⟩)) ∧ T.get 5 = some (.int .i64 ((q : Nat) : Int)) ∧ q ≤ i ∧ k = i - q ∧ ∀ j (h : j < fs.length), j < q → fs[j].num ≠ num) (k := i)
      ⟨rfl, _, 0, rfl, ?l1, ?l3, ?l4, ?l5, Nat.zero_le _, rfl, fun j h hj => absurd hj (Nat.not_lt_zero _)⟩ ?_
    case l1 => simp (disch := first | omega | assumption) only [go_sem, g1]
    case l3 => simp (disch := first | omega | assumption) only [go_sem, g3]
    case l4 => simp (disch := first | omega | assumption) only [go_sem, ]
    case l5 => simp (disch := first | omega | assumption) only [go_sem, ]; try rfl
    rintro k a' s'' ⟨rfl, T, q, rfl, l1, l3, l4, l5, hqi, rfl, hne⟩
    by_cases hq : q < i
    · have hc5 := hcut q (by omega)
      have hc6 : w[o + q * 4]? = some (.int .i64 fs[q].num) := cut_at (i := 0) hc5 rfl
      (try (first | refine EvO.nx ?_ | refine EvA.nx ?_)); repeat' (first | refine Ev.seq ?_ | refine Ev.region ?_ | refine Ev.block ?_ | refine Ev.skip ?_ | refine Ev.exit ?_ | refine Ev.ret ?_ | refine Ev.runNil ?_ | refine Ev.stepsNil ?_ | refine Seq.go ?_ | refine Seq.off ?_ | refine Blk.here ?_ | refine Blk.go ?_ | refine Blk.off rfl ?_ | refine Blk.ret ?_ | refine Ev.label ?_ | refine Ev.scope ?_ | ((first | apply Ev.kcall rfl | apply Ev.kcallN | apply Ev.kgocall rfl rfl | apply Ev.kT rfl | apply Ev.kN | apply Ev.kgo rfl rfl rfl | apply Ev.kgoN rfl rfl); (· (intros; simp (disch := first | omega | assumption) only [go_sem, l1, l3, l4, l5]; exact rfl))) | (apply Ev.kag rfl; (· (intros; simp (disch := first | omega | assumption) only [go_sem, l1, l3, l4, l5]; exact rfl)); (· (intros; simp (disch := first | omega | assumption) only [go_sem, l1, l3, l4, l5]; exact rfl)); (· simp only [go_sem])) | ((first | apply Ev.kG (hj := rfl) (hd := rfl) | apply Ev.kcond); (· (intros; simp (disch := first | omega | assumption) only [go_sem, l1, l3, l4, l5]; exact rfl)); all_goals ((try simp only [upd_some, upd_none]); (intro hb; (try simp only [decide_eq_true_eq, decide_eq_false_iff_not, Bool.true_eq_false, Bool.false_eq_true, Bool.not_true, Bool.not_false, eq_self] at hb); (try (exfalso; omega))))) | (apply Ev.kG0 (hj := rfl) (hd := rfl); (· (first | (intros; simp (disch := first | omega | assumption) only [go_sem, l1, l3, l4, l5]; exact rfl) | simp (disch := first | omega | assumption) only [go_sem, l1, l3, l4, l5])); (try simp only [upd_some, upd_none])) | ((first | apply Body.kret rfl | apply Body.kend rfl); (· (intros; simp (disch := first | omega | assumption) only [go_sem, l1, l3, l4, l5]; exact rfl)); (· exact rfl)) | refine Ev.step' rfl rfl rfl ?_ | refine Ev.goS' rfl rfl rfl rfl ?_ | refine Ev.goG' rfl rfl rfl rfl rfl ?_ | refine Ev.againS' rfl rfl rfl ?_ | refine Ev.newS' rfl rfl rfl ?_ | refine Body.retE rfl ?_ | refine Body.endE rfl ?_ | (refine Nx.go ?_; (first | simp (disch := first | omega | assumption) only [go_sem, l1, l3, l4, l5] | skip)) | (refine ⟨fun hb => ?_, fun hb => ?_⟩ <;> first | (exfalso; omega) | skip) | fail)
      refine Abs.Ev.regionD (n := 0) (l := [.go 0, .go 1, .go 2, .go 3, .go 4, .go 5, .go 6, .go 7, .go 8]) (by kernel_rfl) ?_
      (try (first | refine EvO.nx ?_ | refine EvA.nx ?_)); repeat' (first | refine Ev.seq ?_ | refine Ev.region ?_ | refine Ev.block ?_ | refine Ev.skip ?_ | refine Ev.exit ?_ | refine Ev.ret ?_ | refine Ev.runNil ?_ | refine Ev.stepsNil ?_ | refine Seq.go ?_ | refine Seq.off ?_ | refine Blk.here ?_ | refine Blk.go ?_ | refine Blk.off rfl ?_ | refine Blk.ret ?_ | refine Ev.label ?_ | refine Ev.scope ?_ | ((first | apply Ev.kcall rfl | apply Ev.kcallN | apply Ev.kgocall rfl rfl | apply Ev.kT rfl | apply Ev.kN | apply Ev.kgo rfl rfl rfl | apply Ev.kgoN rfl rfl); (· (intros; simp (disch := first | omega | assumption) only [go_sem, l1, l3, l4, l5, hv2, hw2, hf2, hc6]; exact rfl))) | (apply Ev.kag rfl; (· (intros; simp (disch := first | omega | assumption) only [go_sem, l1, l3, l4, l5, hv2, hw2, hf2, hc6]; exact rfl)); (· (intros; simp (disch := first | omega | assumption) only [go_sem, l1, l3, l4, l5, hv2, hw2, hf2, hc6]; exact rfl)); (· simp only [go_sem])) | ((first | apply Ev.kG (hj := rfl) (hd := rfl) | apply Ev.kcond); (· (intros; simp (disch := first | omega | assumption) only [go_sem, l1, l3, l4, l5, hv2, hw2, hf2, hc6]; exact rfl)); all_goals ((try simp only [upd_some, upd_none]); (intro hb; (try simp only [decide_eq_true_eq, decide_eq_false_iff_not, Bool.true_eq_false, Bool.false_eq_true, Bool.not_true, Bool.not_false, eq_self] at hb); (try (exfalso; omega))))) | (apply Ev.kG0 (hj := rfl) (hd := rfl); (· (first | (intros; simp (disch := first | omega | assumption) only [go_sem, l1, l3, l4, l5, hv2, hw2, hf2, hc6]; exact rfl) | simp (disch := first | omega | assumption) only [go_sem, l1, l3, l4, l5, hv2, hw2, hf2, hc6])); (try simp only [upd_some, upd_none])) | ((first | apply Body.kret rfl | apply Body.kend rfl); (· (intros; simp (disch := first | omega | assumption) only [go_sem, l1, l3, l4, l5, hv2, hw2, hf2, hc6]; exact rfl)); (· exact rfl)) | refine Ev.step' rfl rfl rfl ?_ | refine Ev.goS' rfl rfl rfl rfl ?_ | refine Ev.goG' rfl rfl rfl rfl rfl ?_ | refine Ev.againS' rfl rfl rfl ?_ | refine Ev.newS' rfl rfl rfl ?_ | refine Body.retE rfl ?_ | refine Body.endE rfl ?_ | (refine Nx.go ?_; (first | simp (disch := first | omega | assumption) only [go_sem, l1, l3, l4, l5, hv2, hw2, hf2, hc6] | skip)) | (refine ⟨fun hb => ?_, fun hb => ?_⟩ <;> first | (exfalso; omega) | skip) | fail)
      · refine hF (fun g => hN g ?_) _ hk2
        rename_i hb
        rw [← hb]
        have hx : fs[q] ∈ fs.take i := List.mem_take_iff_getElem.2 ⟨q, by omega, rfl⟩
        exact List.mem_map.2 ⟨_, hx, rfl⟩
      · refine ⟨i - (q + 1), by omega, rfl, _, q + 1, rfl, ?_, ?_, ?_, ?_, by omega, rfl, fun j h hj => ?_⟩
        · simp (disch := first | omega | assumption) only [go_sem, l1]
        · simp (disch := first | omega | assumption) only [go_sem, l3]
        · simp (disch := first | omega | assumption) only [go_sem, l4]
        · simp (disch := first | omega | assumption) only [go_sem, Int.natCast_add, Int.natCast_one]
        · by_cases hjq : j = q
          · subst hjq
            assumption
          · exact hne j h (by omega)
    · obtain rfl : q = i := by omega
      (try (first | refine EvO.nx ?_ | refine EvA.nx ?_)); repeat' (first | refine Ev.seq ?_ | refine Ev.region ?_ | refine Ev.block ?_ | refine Ev.skip ?_ | refine Ev.exit ?_ | refine Ev.ret ?_ | refine Ev.runNil ?_ | refine Ev.stepsNil ?_ | refine Seq.go ?_ | refine Seq.off ?_ | refine Blk.here ?_ | refine Blk.go ?_ | refine Blk.off rfl ?_ | refine Blk.ret ?_ | refine Ev.label ?_ | refine Ev.scope ?_ | ((first | apply Ev.kcall rfl | apply Ev.kcallN | apply Ev.kgocall rfl rfl | apply Ev.kT rfl | apply Ev.kN | apply Ev.kgo rfl rfl rfl | apply Ev.kgoN rfl rfl); (· (intros; simp (disch := first | omega | assumption) only [go_sem, l1, l3, l4, l5]; exact rfl))) | (apply Ev.kag rfl; (· (intros; simp (disch := first | omega | assumption) only [go_sem, l1, l3, l4, l5]; exact rfl)); (· (intros; simp (disch := first | omega | assumption) only [go_sem, l1, l3, l4, l5]; exact rfl)); (· simp only [go_sem])) | ((first | apply Ev.kG (hj := rfl) (hd := rfl) | apply Ev.kcond); (· (intros; simp (disch := first | omega | assumption) only [go_sem, l1, l3, l4, l5]; exact rfl)); all_goals ((try simp only [upd_some, upd_none]); (intro hb; (try simp only [decide_eq_true_eq, decide_eq_false_iff_not, Bool.true_eq_false, Bool.false_eq_true, Bool.not_true, Bool.not_false, eq_self] at hb); (try (exfalso; omega))))) | (apply Ev.kG0 (hj := rfl) (hd := rfl); (· (first | (intros; simp (disch := first | omega | assumption) only [go_sem, l1, l3, l4, l5]; exact rfl) | simp (disch := first | omega | assumption) only [go_sem, l1, l3, l4, l5])); (try simp only [upd_some, upd_none])) | ((first | apply Body.kret rfl | apply Body.kend rfl); (· (intros; simp (disch := first | omega | assumption) only [go_sem, l1, l3, l4, l5]; exact rfl)); (· exact rfl)) | refine Ev.step' rfl rfl rfl ?_ | refine Ev.goS' rfl rfl rfl rfl ?_ | refine Ev.goG' rfl rfl rfl rfl rfl ?_ | refine Ev.againS' rfl rfl rfl ?_ | refine Ev.newS' rfl rfl rfl ?_ | refine Body.retE rfl ?_ | refine Body.endE rfl ?_ | (refine Nx.go ?_; (first | simp (disch := first | omega | assumption) only [go_sem, l1, l3, l4, l5] | skip)) | (refine ⟨fun hb => ?_, fun hb => ?_⟩ <;> first | (exfalso; omega) | skip) | fail)
      refine ⟨fs.length - (q + 1), by omega, hk2, _, q + 1, rfl, ?_, ?_, by omega, rfl, hv2, fun j h hj => ?_, ?_⟩
      · simp (disch := first | omega | assumption) only [go_sem, l1]
      · simp (disch := first | omega | assumption) only [go_sem, Int.natCast_add, Int.natCast_one]
      · by_cases hji : j = q
        · subst hji
          rw [hf]
          exact hgf
        · exact hgo j h (by omega)
      · rw [take_num hil, hf, List.nodup_append]
        exact ⟨hnd, by simp, fun x hx y hy => by
          rw [List.mem_singleton.1 hy]
          rintro rfl
          obtain ⟨f, h1, h2⟩ := List.mem_map.1 hx
          obtain ⟨j, h3, rfl⟩ := List.mem_take_iff_getElem.1 h1
          exact hne j (by omega) (by omega) h2⟩
  · (try (first | refine EvO.nx ?_ | refine EvA.nx ?_)); repeat' (first | refine Ev.seq ?_ | refine Ev.region ?_ | refine Ev.block ?_ | refine Ev.skip ?_ | refine Ev.exit ?_ | refine Ev.ret ?_ | refine Ev.runNil ?_ | refine Ev.stepsNil ?_ | refine Seq.go ?_ | refine Seq.off ?_ | refine Blk.here ?_ | refine Blk.go ?_ | refine Blk.off rfl ?_ | refine Blk.ret ?_ | refine Ev.label ?_ | refine Ev.scope ?_ | ((first | apply Ev.kcall rfl | apply Ev.kcallN | apply Ev.kgocall rfl rfl | apply Ev.kT rfl | apply Ev.kN | apply Ev.kgo rfl rfl rfl | apply Ev.kgoN rfl rfl); (· (intros; simp (disch := first | omega | assumption) only [go_sem, g1, g3, hver]; exact rfl))) | (apply Ev.kag rfl; (· (intros; simp (disch := first | omega | assumption) only [go_sem, g1, g3, hver]; exact rfl)); (· (intros; simp (disch := first | omega | assumption) only [go_sem, g1, g3, hver]; exact rfl)); (· simp only [go_sem])) | ((first | apply Ev.kG (hj := rfl) (hd := rfl) | apply Ev.kcond); (· (intros; simp (disch := first | omega | assumption) only [go_sem, g1, g3, hver]; exact rfl)); all_goals ((try simp only [upd_some, upd_none]); (intro hb; (try simp only [decide_eq_true_eq, decide_eq_false_iff_not, Bool.true_eq_false, Bool.false_eq_true, Bool.not_true, Bool.not_false, eq_self] at hb); (try (exfalso; omega))))) | (apply Ev.kG0 (hj := rfl) (hd := rfl); (· (first | (intros; simp (disch := first | omega | assumption) only [go_sem, g1, g3, hver]; exact rfl) | simp (disch := first | omega | assumption) only [go_sem, g1, g3, hver])); (try simp only [upd_some, upd_none])) | ((first | apply Body.kret rfl | apply Body.kend rfl); (· (intros; simp (disch := first | omega | assumption) only [go_sem, g1, g3, hver]; exact rfl)); (· exact rfl)) | refine Ev.step' rfl rfl rfl ?_ | refine Ev.goS' rfl rfl rfl rfl ?_ | refine Ev.goG' rfl rfl rfl rfl rfl ?_ | refine Ev.againS' rfl rfl rfl ?_ | refine Ev.newS' rfl rfl rfl ?_ | refine Body.retE rfl ?_ | refine Body.endE rfl ?_ | (refine Nx.go ?_; (first | simp (disch := first | omega | assumption) only [go_sem, g1, g3, hver] | skip)) | (refine ⟨fun hb => ?_, fun hb => ?_⟩ <;> first | (exfalso; omega) | skip) | fail)
    obtain rfl : i = fs.length := by omega
    rw [List.take_length] at hnd
    exact hT (goodV_cut (by omega) (by omega) (by omega) (by omega) (by omega) (fun j h => hgo j h h) hnd) _ hk
theorem file_eq (h : Tr AObj) (f g : MF) : aEq Tryz.prog h 40 41 (.agg ⟨fileC f⟩) (.agg ⟨fileC g⟩) = ifb (iBeq f.num g.num) (ifb (iBeq f.level g.level) (ifb (bEq f.first g.first) (ifb (bEq f.last g.last) (.ok true) (.ok false)) (.ok false)) (.ok false)) (.ok false) := by kernel_rfl
theorem file_ne {h : Tr AObj} {c : Bool} {f g : MF} (hne : f ≠ g) : aBin Tryz.prog h .neq 41 c (.agg ⟨fileC f⟩) (.agg ⟨fileC g⟩) = .ok (.bool true) := by
  have e : aEq Tryz.prog h 40 41 (.agg ⟨fileC f⟩) (.agg ⟨fileC g⟩) = .ok false := by
    rw [file_eq]
    simp only [iBeq_eq, bEq_eq, ifb_eq]
    obtain ⟨a, b, c, d⟩ := f
    obtain ⟨a', b', c', d'⟩ := g
    simp only [ne_eq, MF.mk.injEq] at hne
    by_cases h1 : a = a'
    · by_cases h2 : b = b'
      · by_cases h3 : c = c'
        · by_cases h4 : d = d'
          · exact absurd ⟨h1, h2, h3, h4⟩ hne
          · simp [h4]
        · simp [h3]
      · simp [h2]
    · simp [h1]
  have e2 : eqOk Tryz.prog 41 c (.agg ⟨fileC f⟩) (.agg ⟨fileC g⟩) = true := by cases c <;> kernel_rfl
  show ifb (eqOk Tryz.prog 41 c (.agg ⟨fileC f⟩) (.agg ⟨fileC g⟩)) ((aEq Tryz.prog h 40 41 (.agg ⟨fileC f⟩) (.agg ⟨fileC g⟩)).bind fun b => Rs.ok (Value.bool !b)) (.no 33 "") = _
  rw [e2, e]
  rfl
theorem file_same {h : Tr AObj} {c : Bool} (f : MF) : aBin Tryz.prog h .neq 41 c (.agg ⟨fileC f⟩) (.agg ⟨fileC f⟩) = .ok (.bool false) := by
  have e : aEq Tryz.prog h 40 41 (.agg ⟨fileC f⟩) (.agg ⟨fileC f⟩) = .ok true := by
    rw [file_eq]
    simp [iBeq_eq, bEq_eq, ifb_eq]
  have e2 : eqOk Tryz.prog 41 c (.agg ⟨fileC f⟩) (.agg ⟨fileC f⟩) = true := by cases c <;> kernel_rfl
  show ifb (eqOk Tryz.prog 41 c (.agg ⟨fileC f⟩) (.agg ⟨fileC f⟩)) ((aEq Tryz.prog h 40 41 (.agg ⟨fileC f⟩) (.agg ⟨fileC f⟩)).bind fun b => Rs.ok (Value.bool !b)) (.no 33 "") = _
  rw [e2, e]
  rfl
set_option maxRecDepth 20000 in
theorem same_ev (hs : Sm 23 = none) {s : St} (hwf : s.wf) {sv su : Value} {v u : MV} (hv : FilesAt s sv v.files) (hu : FilesAt s su u.files) (hl : v.files.length < 1000000000) (hF : v ≠ u → ∀ s', Keep s s' → Q (.val (.bool false) s')) (hT : v = u → ∀ s', Keep s s' → Q (.val (.bool true) s')) :
    Ev Tryz.prog Sm (.inv (.fn (.func 23) #[]) [verV sv v, verV su u] s) Q := by
  refine Ev.func hs Tryz.func23 rfl (m := 52) rfl ?_
  simp only [Array.toList_empty, List.append_nil, ofList_cons, ofList_nil]
  obtain ⟨fs, nx, sq, lg⟩ := v
  obtain ⟨fs', nx', sq', lg'⟩ := u
  obtain ⟨⟨a, c, rfl⟩, hsrc⟩ := id hv
  obtain ⟨⟨a', c', rfl⟩, hsrc'⟩ := id hu
  simp only at hv hsrc hl hu hsrc'
  unfold verV
  (try (first | refine EvO.nx ?_ | refine EvA.nx ?_)); repeat' (first | refine Ev.seq ?_ | refine Ev.region ?_ | refine Ev.block ?_ | refine Ev.skip ?_ | refine Ev.exit ?_ | refine Ev.ret ?_ | refine Ev.runNil ?_ | refine Ev.stepsNil ?_ | refine Seq.go ?_ | refine Seq.off ?_ | refine Blk.here ?_ | refine Blk.go ?_ | refine Blk.off rfl ?_ | refine Blk.ret ?_ | refine Ev.label ?_ | refine Ev.scope ?_ | ((first | apply Ev.kcall rfl | apply Ev.kcallN | apply Ev.kgocall rfl rfl | apply Ev.kT rfl | apply Ev.kN | apply Ev.kgo rfl rfl rfl | apply Ev.kgoN rfl rfl); (· (intros; simp (disch := first | omega | assumption) only [go_sem, ]; exact rfl))) | (apply Ev.kag rfl; (· (intros; simp (disch := first | omega | assumption) only [go_sem, ]; exact rfl)); (· (intros; simp (disch := first | omega | assumption) only [go_sem, ]; exact rfl)); (· simp only [go_sem])) | ((first | apply Ev.kG (hj := rfl) (hd := rfl) | apply Ev.kcond); (· (intros; simp (disch := first | omega | assumption) only [go_sem, ]; exact rfl)); all_goals ((try simp only [upd_some, upd_none]); (intro hb; (try simp only [decide_eq_true_eq, decide_eq_false_iff_not, Bool.true_eq_false, Bool.false_eq_true, Bool.not_true, Bool.not_false, eq_self] at hb); (try (exfalso; omega))))) | (apply Ev.kG0 (hj := rfl) (hd := rfl); (· (first | (intros; simp (disch := first | omega | assumption) only [go_sem, ]; exact rfl) | simp (disch := first | omega | assumption) only [go_sem, ])); (try simp only [upd_some, upd_none])) | ((first | apply Body.kret rfl | apply Body.kend rfl); (· (intros; simp (disch := first | omega | assumption) only [go_sem, ]; exact rfl)); (· exact rfl)) | refine Ev.step' rfl rfl rfl ?_ | refine Ev.goS' rfl rfl rfl rfl ?_ | refine Ev.goG' rfl rfl rfl rfl rfl ?_ | refine Ev.againS' rfl rfl rfl ?_ | refine Ev.newS' rfl rfl rfl ?_ | refine Body.retE rfl ?_ | refine Body.endE rfl ?_ | (refine Nx.go ?_; (first | simp (disch := first | omega | assumption) only [go_sem, ] | skip)) | (refine ⟨fun hb => ?_, fun hb => ?_⟩ <;> first | (exfalso; omega) | skip) | fail)
  all_goals (try (refine hF (fun g => ?_) _ (by ((repeat (refine Abs.Keep.set2 ?_ (by omega) (by omega) hwf)); exact Abs.Keep.grow (Keep.refl hwf) (by omega))); injection g with g1 g2 g3 g4; subst g1; omega))
  have hlen : fs.length = fs'.length := by omega
  obtain ⟨s2, hs2⟩ : ∃ s2 : St, s2 = ⟨(s.heap.set s.next (.cells [.slice a fs.length c, .int .i64 nx, .int .u64 (sq : Int), .int .i64 lg] 26 0 false (0, 0))).set (s.next + 1) (.cells [.slice a' fs'.length c', .int .i64 nx', .int .u64 (sq' : Int), .int .i64 lg'] 26 0 false (0, 0)), s.next + 1 + 1⟩ := ⟨_, rfl⟩
  rw [← hs2]
  have hk2 : Keep s s2 := by rw [hs2]; ((repeat (refine Abs.Keep.set2 ?_ (by omega) (by omega) hwf)); exact Abs.Keep.grow (Keep.refl hwf) (by omega))
  have hv2 : s2.heap.get s.next = some (.cells [.slice a fs.length c, .int .i64 nx, .int .u64 (sq : Int), .int .i64 lg] 26 0 false (0, 0)) := by rw [hs2]; simp (disch := first | omega | assumption) only [go_sem, ]
  have hu2 : s2.heap.get (s.next + 1) = some (.cells [.slice a' fs'.length c', .int .i64 nx', .int .u64 (sq' : Int), .int .i64 lg'] 26 0 false (0, 0)) := by rw [hs2]; simp (disch := first | omega | assumption) only [go_sem, ]
  clear hs2
  refine Ev.loop (fun k a'' s'' => s'' = s2 ∧ ∃ T i, a'' = ⟨T, 52, []⟩ ∧ T.get 2 = some (.pointer (some ⟨s.next, 0, none⟩)) ∧ T.get 3 = some (.pointer (some ⟨s.next + 1, 0, none⟩)) ∧ T.get 5 = some (.int .i64 ((i : Nat) : Int)) ∧ i ≤ fs.length ∧ k = fs.length - i ∧ fs.take i = fs'.take i) (k := fs.length)
    ⟨rfl, _, 0, rfl, ?g2, ?g3, ?g5, Nat.zero_le _, rfl, rfl⟩ ?_
  case g2 => simp (disch := first | omega | assumption) only [go_sem, ]
  case g3 => simp (disch := first | omega | assumption) only [go_sem, ]
  case g5 => simp (disch := first | omega | assumption) only [go_sem, ]; try rfl
  rintro k a'' s'' ⟨rfl, T, i, rfl, g2, g3, g5, hi, rfl, heq⟩
  by_cases hil : i < fs.length
  · obtain ⟨b, o, rfl⟩ := hv.some (by intro e; rw [e] at hil; exact absurd hil (Nat.not_lt_zero _))
    obtain ⟨b', o', rfl⟩ := hu.some (by intro e; rw [hlen, e] at hil; exact absurd hil (Nat.not_lt_zero _))
    obtain ⟨_, w, hw, hcut⟩ := (hv.mono hk2.old).cut
    obtain ⟨_, w', hw', hcut'⟩ := (hu.mono hk2.old).cut
    have hc4 := hcut i hil
    have hc4' := hcut' i (by omega)
    have hG := fun g : fs = fs' => (show fs[i] = fs'[i] by subst g; rfl)
    have hE := fun g : fs[i] = fs'[i] => (show fs.take (i + 1) = fs'.take (i + 1) by rw [List.take_add_one, List.take_add_one, heq, List.getElem?_eq_getElem hil, List.getElem?_eq_getElem (by omega), g])
    generalize fs[i] = f at *
    generalize fs'[i] = g at *
    by_cases hfg : f = g
    · subst hfg
      have hne := fun (h : Tr AObj) (c : Bool) => file_same (h := h) (c := c) f
      (try (first | refine EvO.nx ?_ | refine EvA.nx ?_)); repeat' (first | refine Ev.seq ?_ | refine Ev.region ?_ | refine Ev.block ?_ | refine Ev.skip ?_ | refine Ev.exit ?_ | refine Ev.ret ?_ | refine Ev.runNil ?_ | refine Ev.stepsNil ?_ | refine Seq.go ?_ | refine Seq.off ?_ | refine Blk.here ?_ | refine Blk.go ?_ | refine Blk.off rfl ?_ | refine Blk.ret ?_ | refine Ev.label ?_ | refine Ev.scope ?_ | ((first | apply Ev.kcall rfl | apply Ev.kcallN | apply Ev.kgocall rfl rfl | apply Ev.kT rfl | apply Ev.kN | apply Ev.kgo rfl rfl rfl | apply Ev.kgoN rfl rfl); (· (intros; simp (disch := first | omega | assumption) only [go_sem, g2, g3, g5, hv2, hu2]; exact rfl))) | (apply Ev.kag rfl; (· (intros; simp (disch := first | omega | assumption) only [go_sem, g2, g3, g5, hv2, hu2]; exact rfl)); (· (intros; simp (disch := first | omega | assumption) only [go_sem, g2, g3, g5, hv2, hu2]; exact rfl)); (· simp only [go_sem])) | ((first | apply Ev.kG (hj := rfl) (hd := rfl) | apply Ev.kcond); (· (intros; simp (disch := first | omega | assumption) only [go_sem, g2, g3, g5, hv2, hu2]; exact rfl)); all_goals ((try simp only [upd_some, upd_none]); (intro hb; (try simp only [decide_eq_true_eq, decide_eq_false_iff_not, Bool.true_eq_false, Bool.false_eq_true, Bool.not_true, Bool.not_false, eq_self] at hb); (try (exfalso; omega))))) | (apply Ev.kG0 (hj := rfl) (hd := rfl); (· (first | (intros; simp (disch := first | omega | assumption) only [go_sem, g2, g3, g5, hv2, hu2]; exact rfl) | simp (disch := first | omega | assumption) only [go_sem, g2, g3, g5, hv2, hu2])); (try simp only [upd_some, upd_none])) | ((first | apply Body.kret rfl | apply Body.kend rfl); (· (intros; simp (disch := first | omega | assumption) only [go_sem, g2, g3, g5, hv2, hu2]; exact rfl)); (· exact rfl)) | refine Ev.step' rfl rfl rfl ?_ | refine Ev.goS' rfl rfl rfl rfl ?_ | refine Ev.goG' rfl rfl rfl rfl rfl ?_ | refine Ev.againS' rfl rfl rfl ?_ | refine Ev.newS' rfl rfl rfl ?_ | refine Body.retE rfl ?_ | refine Body.endE rfl ?_ | (refine Nx.go ?_; (first | simp (disch := first | omega | assumption) only [go_sem, g2, g3, g5, hv2, hu2] | skip)) | (refine ⟨fun hb => ?_, fun hb => ?_⟩ <;> first | (exfalso; omega) | skip) | fail)
      refine Abs.Ev.regionD (n := 0) (l := [.go 0, .go 1, .go 2, .go 3, .go 4, .go 5, .go 6, .go 7, .go 8, .go 9, .go 10]) (by kernel_rfl) ?_
      (try (first | refine EvO.nx ?_ | refine EvA.nx ?_)); repeat' (first | refine Ev.seq ?_ | refine Ev.region ?_ | refine Ev.block ?_ | refine Ev.skip ?_ | refine Ev.exit ?_ | refine Ev.ret ?_ | refine Ev.runNil ?_ | refine Ev.stepsNil ?_ | refine Seq.go ?_ | refine Seq.off ?_ | refine Blk.here ?_ | refine Blk.go ?_ | refine Blk.off rfl ?_ | refine Blk.ret ?_ | refine Ev.label ?_ | refine Ev.scope ?_ | ((first | apply Ev.kcall rfl | apply Ev.kcallN | apply Ev.kgocall rfl rfl | apply Ev.kT rfl | apply Ev.kN | apply Ev.kgo rfl rfl rfl | apply Ev.kgoN rfl rfl); (· (intros; simp (disch := first | omega | assumption) only [go_sem, g2, g3, g5, hv2, hu2, hw, hw', hc4, hc4', hne]; exact rfl))) | (apply Ev.kag rfl; (· (intros; simp (disch := first | omega | assumption) only [go_sem, g2, g3, g5, hv2, hu2, hw, hw', hc4, hc4', hne]; exact rfl)); (· (intros; simp (disch := first | omega | assumption) only [go_sem, g2, g3, g5, hv2, hu2, hw, hw', hc4, hc4', hne]; exact rfl)); (· simp only [go_sem])) | ((first | apply Ev.kG (hj := rfl) (hd := rfl) | apply Ev.kcond); (· (intros; simp (disch := first | omega | assumption) only [go_sem, g2, g3, g5, hv2, hu2, hw, hw', hc4, hc4', hne]; exact rfl)); all_goals ((try simp only [upd_some, upd_none]); (intro hb; (try simp only [decide_eq_true_eq, decide_eq_false_iff_not, Bool.true_eq_false, Bool.false_eq_true, Bool.not_true, Bool.not_false, eq_self] at hb); (try (exfalso; omega))))) | (apply Ev.kG0 (hj := rfl) (hd := rfl); (· (first | (intros; simp (disch := first | omega | assumption) only [go_sem, g2, g3, g5, hv2, hu2, hw, hw', hc4, hc4', hne]; exact rfl) | simp (disch := first | omega | assumption) only [go_sem, g2, g3, g5, hv2, hu2, hw, hw', hc4, hc4', hne])); (try simp only [upd_some, upd_none])) | ((first | apply Body.kret rfl | apply Body.kend rfl); (· (intros; simp (disch := first | omega | assumption) only [go_sem, g2, g3, g5, hv2, hu2, hw, hw', hc4, hc4', hne]; exact rfl)); (· exact rfl)) | refine Ev.step' rfl rfl rfl ?_ | refine Ev.goS' rfl rfl rfl rfl ?_ | refine Ev.goG' rfl rfl rfl rfl rfl ?_ | refine Ev.againS' rfl rfl rfl ?_ | refine Ev.newS' rfl rfl rfl ?_ | refine Body.retE rfl ?_ | refine Body.endE rfl ?_ | (refine Nx.go ?_; (first | simp (disch := first | omega | assumption) only [go_sem, g2, g3, g5, hv2, hu2, hw, hw', hc4, hc4', hne] | skip)) | (refine ⟨fun hb => ?_, fun hb => ?_⟩ <;> first | (exfalso; omega) | skip) | fail)
      refine ⟨fs.length - (i + 1), by omega, rfl, _, i + 1, rfl, ?_, ?_, ?_, by omega, rfl, hE rfl⟩
      · simp (disch := first | omega | assumption) only [go_sem, g2]
      · simp (disch := first | omega | assumption) only [go_sem, g3]
      · simp (disch := first | omega | assumption) only [go_sem, Int.natCast_add, Int.natCast_one]
    · have hne := fun (h : Tr AObj) (c : Bool) => file_ne (h := h) (c := c) hfg
      (try (first | refine EvO.nx ?_ | refine EvA.nx ?_)); repeat' (first | refine Ev.seq ?_ | refine Ev.region ?_ | refine Ev.block ?_ | refine Ev.skip ?_ | refine Ev.exit ?_ | refine Ev.ret ?_ | refine Ev.runNil ?_ | refine Ev.stepsNil ?_ | refine Seq.go ?_ | refine Seq.off ?_ | refine Blk.here ?_ | refine Blk.go ?_ | refine Blk.off rfl ?_ | refine Blk.ret ?_ | refine Ev.label ?_ | refine Ev.scope ?_ | ((first | apply Ev.kcall rfl | apply Ev.kcallN | apply Ev.kgocall rfl rfl | apply Ev.kT rfl | apply Ev.kN | apply Ev.kgo rfl rfl rfl | apply Ev.kgoN rfl rfl); (· (intros; simp (disch := first | omega | assumption) only [go_sem, g2, g3, g5, hv2, hu2]; exact rfl))) | (apply Ev.kag rfl; (· (intros; simp (disch := first | omega | assumption) only [go_sem, g2, g3, g5, hv2, hu2]; exact rfl)); (· (intros; simp (disch := first | omega | assumption) only [go_sem, g2, g3, g5, hv2, hu2]; exact rfl)); (· simp only [go_sem])) | ((first | apply Ev.kG (hj := rfl) (hd := rfl) | apply Ev.kcond); (· (intros; simp (disch := first | omega | assumption) only [go_sem, g2, g3, g5, hv2, hu2]; exact rfl)); all_goals ((try simp only [upd_some, upd_none]); (intro hb; (try simp only [decide_eq_true_eq, decide_eq_false_iff_not, Bool.true_eq_false, Bool.false_eq_true, Bool.not_true, Bool.not_false, eq_self] at hb); (try (exfalso; omega))))) | (apply Ev.kG0 (hj := rfl) (hd := rfl); (· (first | (intros; simp (disch := first | omega | assumption) only [go_sem, g2, g3, g5, hv2, hu2]; exact rfl) | simp (disch := first | omega | assumption) only [go_sem, g2, g3, g5, hv2, hu2])); (try simp only [upd_some, upd_none])) | ((first | apply Body.kret rfl | apply Body.kend rfl); (· (intros; simp (disch := first | omega | assumption) only [go_sem, g2, g3, g5, hv2, hu2]; exact rfl)); (· exact rfl)) | refine Ev.step' rfl rfl rfl ?_ | refine Ev.goS' rfl rfl rfl rfl ?_ | refine Ev.goG' rfl rfl rfl rfl rfl ?_ | refine Ev.againS' rfl rfl rfl ?_ | refine Ev.newS' rfl rfl rfl ?_ | refine Body.retE rfl ?_ | refine Body.endE rfl ?_ | (refine Nx.go ?_; (first | simp (disch := first | omega | assumption) only [go_sem, g2, g3, g5, hv2, hu2] | skip)) | (refine ⟨fun hb => ?_, fun hb => ?_⟩ <;> first | (exfalso; omega) | skip) | fail)
      refine Abs.Ev.regionD (n := 0) (l := [.go 0, .go 1, .go 2, .go 3, .go 4, .go 5, .go 6, .go 7, .go 8, .go 9, .go 10]) (by kernel_rfl) ?_
      (try (first | refine EvO.nx ?_ | refine EvA.nx ?_)); repeat' (first | refine Ev.seq ?_ | refine Ev.region ?_ | refine Ev.block ?_ | refine Ev.skip ?_ | refine Ev.exit ?_ | refine Ev.ret ?_ | refine Ev.runNil ?_ | refine Ev.stepsNil ?_ | refine Seq.go ?_ | refine Seq.off ?_ | refine Blk.here ?_ | refine Blk.go ?_ | refine Blk.off rfl ?_ | refine Blk.ret ?_ | refine Ev.label ?_ | refine Ev.scope ?_ | ((first | apply Ev.kcall rfl | apply Ev.kcallN | apply Ev.kgocall rfl rfl | apply Ev.kT rfl | apply Ev.kN | apply Ev.kgo rfl rfl rfl | apply Ev.kgoN rfl rfl); (· (intros; simp (disch := first | omega | assumption) only [go_sem, g2, g3, g5, hv2, hu2, hw, hw', hc4, hc4', hne]; exact rfl))) | (apply Ev.kag rfl; (· (intros; simp (disch := first | omega | assumption) only [go_sem, g2, g3, g5, hv2, hu2, hw, hw', hc4, hc4', hne]; exact rfl)); (· (intros; simp (disch := first | omega | assumption) only [go_sem, g2, g3, g5, hv2, hu2, hw, hw', hc4, hc4', hne]; exact rfl)); (· simp only [go_sem])) | ((first | apply Ev.kG (hj := rfl) (hd := rfl) | apply Ev.kcond); (· (intros; simp (disch := first | omega | assumption) only [go_sem, g2, g3, g5, hv2, hu2, hw, hw', hc4, hc4', hne]; exact rfl)); all_goals ((try simp only [upd_some, upd_none]); (intro hb; (try simp only [decide_eq_true_eq, decide_eq_false_iff_not, Bool.true_eq_false, Bool.false_eq_true, Bool.not_true, Bool.not_false, eq_self] at hb); (try (exfalso; omega))))) | (apply Ev.kG0 (hj := rfl) (hd := rfl); (· (first | (intros; simp (disch := first | omega | assumption) only [go_sem, g2, g3, g5, hv2, hu2, hw, hw', hc4, hc4', hne]; exact rfl) | simp (disch := first | omega | assumption) only [go_sem, g2, g3, g5, hv2, hu2, hw, hw', hc4, hc4', hne])); (try simp only [upd_some, upd_none])) | ((first | apply Body.kret rfl | apply Body.kend rfl); (· (intros; simp (disch := first | omega | assumption) only [go_sem, g2, g3, g5, hv2, hu2, hw, hw', hc4, hc4', hne]; exact rfl)); (· exact rfl)) | refine Ev.step' rfl rfl rfl ?_ | refine Ev.goS' rfl rfl rfl rfl ?_ | refine Ev.goG' rfl rfl rfl rfl rfl ?_ | refine Ev.againS' rfl rfl rfl ?_ | refine Ev.newS' rfl rfl rfl ?_ | refine Body.retE rfl ?_ | refine Body.endE rfl ?_ | (refine Nx.go ?_; (first | simp (disch := first | omega | assumption) only [go_sem, g2, g3, g5, hv2, hu2, hw, hw', hc4, hc4', hne] | skip)) | (refine ⟨fun hb => ?_, fun hb => ?_⟩ <;> first | (exfalso; omega) | skip) | fail)
      refine hF (fun e => hfg (hG ?_)) _ hk2
      injection e
  · (try (first | refine EvO.nx ?_ | refine EvA.nx ?_)); repeat' (first | refine Ev.seq ?_ | refine Ev.region ?_ | refine Ev.block ?_ | refine Ev.skip ?_ | refine Ev.exit ?_ | refine Ev.ret ?_ | refine Ev.runNil ?_ | refine Ev.stepsNil ?_ | refine Seq.go ?_ | refine Seq.off ?_ | refine Blk.here ?_ | refine Blk.go ?_ | refine Blk.off rfl ?_ | refine Blk.ret ?_ | refine Ev.label ?_ | refine Ev.scope ?_ | ((first | apply Ev.kcall rfl | apply Ev.kcallN | apply Ev.kgocall rfl rfl | apply Ev.kT rfl | apply Ev.kN | apply Ev.kgo rfl rfl rfl | apply Ev.kgoN rfl rfl); (· (intros; simp (disch := first | omega | assumption) only [go_sem, g2, g3, g5, hv2, hu2]; exact rfl))) | (apply Ev.kag rfl; (· (intros; simp (disch := first | omega | assumption) only [go_sem, g2, g3, g5, hv2, hu2]; exact rfl)); (· (intros; simp (disch := first | omega | assumption) only [go_sem, g2, g3, g5, hv2, hu2]; exact rfl)); (· simp only [go_sem])) | ((first | apply Ev.kG (hj := rfl) (hd := rfl) | apply Ev.kcond); (· (intros; simp (disch := first | omega | assumption) only [go_sem, g2, g3, g5, hv2, hu2]; exact rfl)); all_goals ((try simp only [upd_some, upd_none]); (intro hb; (try simp only [decide_eq_true_eq, decide_eq_false_iff_not, Bool.true_eq_false, Bool.false_eq_true, Bool.not_true, Bool.not_false, eq_self] at hb); (try (exfalso; omega))))) | (apply Ev.kG0 (hj := rfl) (hd := rfl); (· (first | (intros; simp (disch := first | omega | assumption) only [go_sem, g2, g3, g5, hv2, hu2]; exact rfl) | simp (disch := first | omega | assumption) only [go_sem, g2, g3, g5, hv2, hu2])); (try simp only [upd_some, upd_none])) | ((first | apply Body.kret rfl | apply Body.kend rfl); (· (intros; simp (disch := first | omega | assumption) only [go_sem, g2, g3, g5, hv2, hu2]; exact rfl)); (· exact rfl)) | refine Ev.step' rfl rfl rfl ?_ | refine Ev.goS' rfl rfl rfl rfl ?_ | refine Ev.goG' rfl rfl rfl rfl rfl ?_ | refine Ev.againS' rfl rfl rfl ?_ | refine Ev.newS' rfl rfl rfl ?_ | refine Body.retE rfl ?_ | refine Body.endE rfl ?_ | (refine Nx.go ?_; (first | simp (disch := first | omega | assumption) only [go_sem, g2, g3, g5, hv2, hu2] | skip)) | (refine ⟨fun hb => ?_, fun hb => ?_⟩ <;> first | (exfalso; omega) | skip) | fail)
    obtain rfl : i = fs.length := by omega
    rw [List.take_length, hlen, List.take_length] at heq
    subst heq
    refine hT ?_ _ hk2
    rw [show nx = nx' by omega, show sq = sq' by omega, show lg = lg' by omega]
end
end Go.Proofs.YtbakhdgiimjnkaaGreatDoor
