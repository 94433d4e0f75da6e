/-
  sha's rounds at the evaluator: what they answer.
-/
import Derived.Test.YthidnkhhndbidaaGreatDoorEvA
import Derived.Test.YthidnkhhndbidaaGreatDoorShaDef
import Derived.Test.YthidnkhhndbidaaGreatDoorTy
namespace Go.Proofs.YthidnkhhndbidaaGreatDoor
open Abs
set_option maxHeartbeats 16000000
set_option maxRecDepth 20000
set_option linter.unusedSimpArgs false
attribute [local irreducible] Abs.Ev Abs.EvF Abs.EvO Abs.EvA Abs.Seq Abs.Blk Abs.Body Abs.Scp Abs.EvG Abs.EvAg Abs.Nx
attribute [local go_sem] Abs.EvO_k Abs.bind_ok Abs.of_some Abs.ifb_true Abs.ifb_false Abs.ifb_blt Abs.ifb_ble Abs.ifb_beq Abs.ifb_and Abs.ifb_or Abs.ifb_not Abs.ifb_decide Abs.sayV_ok Abs.get_same Abs.get_other Abs.ofList_nil Abs.ofList_cons Abs.upd_none Abs.upd_some Abs.ev_tmp Abs.ev_int Abs.ev_bool Abs.ev_str Abs.ev_nilp Abs.ev_nils Abs.ev_nilm Abs.ev_nilf Abs.ev_nili Abs.ev_global Abs.ev_func Abs.mapR_nil Abs.mapR_cons Abs.do_move Abs.do_assign Abs.do_pick Abs.do_binOp Abs.do_unOp Abs.do_makeIface Abs.do_makeFunc Abs.do_fieldAddr Abs.do_field Abs.do_indexAddr Abs.do_index Abs.do_extract Abs.do_nilCheck Abs.do_build Abs.do_typeAssert Abs.do_load Abs.do_slice Abs.do_lookup Abs.do_builtin Abs.do_alloc Abs.do_box Abs.do_store Abs.do_convert Abs.do_makeMap Abs.do_mapUpdate Abs.do_range Abs.do_next Abs.do_entry Abs.bin_add Abs.bin_sub Abs.bin_mul Abs.bin_rem Abs.bin_quo Abs.bin_eql Abs.bin_neq Abs.bin_lss Abs.bin_leq Abs.bin_gtr Abs.bin_geq Abs.un_not Abs.un_xor_u32 Abs.wrap_i64 Abs.wrap_u64 Abs.wrap_u32 Abs.wrap_u8 Abs.idx_int Abs.bnd_int Abs.addA_eq Abs.pIndexAddr2 Abs.ptrR_ok if_pos if_neg List.toList_toArray Abs.undT_eq Nat.mul_one Nat.zero_add Abs.pIndexAddr Abs.pLoad Abs.pLoad2 Abs.turn Abs.eStore Abs.cvOf Abs.pConv Abs.pConvI Abs.pConvS Abs.pField Abs.pFieldAddr Abs.pFieldAddr2 Abs.pIndex Abs.indexStr_int Abs.pSlice Abs.pSlice1 Abs.pSlice2 Abs.pSliceStr Abs.pSliceKnown Abs.pSliceOpen Abs.openCap Abs.cutIx Abs.optN Abs.sliceV Abs.pBuiltin Abs.pBuiltin1 Abs.pLen2 Abs.pCap2 Abs.pFold Abs.pMin Abs.pMax Abs.eBuiltin Abs.eCopy Abs.eDelete Abs.pick_bool Abs.pNilCheck Abs.pExtract Abs.pIface Abs.part Abs.bin_str Abs.aBinStr Abs.aBinEq Abs.pLookup Abs.mapOf Abs.cellsOf Abs.ptrTo Abs.St.put_eq Abs.St.new_eq Abs.nth_eq Abs.lenN_eq Abs.over_eq List.length_cons List.length_nil List.all_cons List.all_nil Bool.and_true Abs.oneB Nat.add_zero Array.toList_empty List.append_nil Int.ofNat_eq_natCast List.getElem?_toArray List.getElem?_cons_zero List.getElem?_cons_succ Abs.objCells_cells Abs.objCells_const Abs.bin_and_u8 Abs.bin_or_u8 Abs.bin_xor_u8 Abs.bin_shr_u8 Abs.bin_and_u16 Abs.bin_or_u16 Abs.bin_xor_u16 Abs.bin_shr_u16 Abs.bin_and_u32 Abs.bin_or_u32 Abs.bin_xor_u32 Abs.bin_shr_u32 Abs.bin_and_u64 Abs.bin_or_u64 Abs.bin_xor_u64 Abs.bin_shr_u64 Abs.bin_and_i64 Abs.bin_or_i64 Abs.bin_xor_i64 Abs.bin_shr_i64 Abs.bin_and_i32 Abs.bin_or_i32 Abs.bin_xor_i32 Abs.bin_shr_i32 Int.toNat_natCast Int.reduceToNat Abs.str_eql Abs.str_neq Abs.EvA_ok ite_true ite_false Abs.over_set List.take_zero List.nil_append List.drop_of_length_le Option.toList_some Option.toList_none List.take_length List.drop_succ_cons List.drop_zero Abs.mkStr Abs.str_lss Abs.str_gtr beq_self_eq_true Bool.not_true Bool.not_false Int.reduceAdd Int.reduceSub Abs.EvG_some Abs.true_imp Abs.false_imp Abs.true_no Abs.false_no Abs.ev_is Abs.vEq2_int Abs.vEq2_bool Abs.vEq2_str Abs.vEq2_ptr Abs.vEq2_slice Abs.vEq2_nils Abs.vEq2_map Abs.a_alloc Abs.a_box Abs.a_lit Abs.a_map Abs.a_conv Abs.do_lit Abs.do_mkslice Abs.mk_map Abs.litT_ok Abs.lit0 Abs.slT_ok Abs.ptT_ok Abs.mpT_ok Abs.eql_snil Abs.eql_ssome Abs.neq_snil Abs.neq_ssome Abs.eql_pnil Abs.eql_psome Abs.neq_pnil Abs.neq_psome decide_eq_true_eq decide_eq_false_iff_not true_and and_true eq_self Bool.false_eq_true Bool.true_eq_false true_implies false_implies Abs.tup_one Abs.tup_two Abs.tup_three Abs.tup_none Abs.res_tmp Abs.res_cell Abs.p_move Abs.p_assign Abs.p_pick Abs.p_binOp Abs.p_unOp Abs.p_convert Abs.p_iface Abs.p_fieldAddr Abs.p_field Abs.p_indexAddr Abs.p_index Abs.p_extract Abs.p_nilCheck Abs.p_build Abs.p_load Abs.p_slice Abs.p_lookup Abs.p_builtin Abs.EvAg_some Abs.un_neg Abs.shl_u32 Abs.shl_u64
section
/-! ### plain -/
theorem rr_lt {x n m : Nat} (hx : x < 4294967296) : rr x n m < 4294967296 := by
  unfold rr
  refine Nat.or_lt_two_pow (n := 32) (Nat.mod_lt _ (by decide)) ?_
  show x >>> n < 2 ^ 32
  rw [Nat.shiftRight_eq_div_pow]
  exact Nat.lt_of_le_of_lt (Nat.div_le_self _ _) hx
theorem shr_lt {x : Nat} (n : Nat) (hx : x < 4294967296) : x >>> n < 4294967296 := by
  rw [Nat.shiftRight_eq_div_pow]
  exact Nat.lt_of_le_of_lt (Nat.div_le_self _ _) hx
theorem xor32_lt {x y : Nat} (hx : x < 4294967296) (hy : y < 4294967296) : x ^^^ y < 4294967296 := Nat.xor_lt_two_pow (n := 32) hx hy
theorem and32_lt {x y : Nat} (hx : x < 4294967296) : x &&& y < 4294967296 := Nat.lt_of_le_of_lt Nat.and_le_left hx
theorem or32_lt {x y : Nat} (hx : x < 4294967296) (hy : y < 4294967296) : x ||| y < 4294967296 := Nat.or_lt_two_pow (n := 32) hx hy
theorem add32_lt (a b : Nat) : add32 a b < 4294967296 := Nat.mod_lt _ (by decide)
theorem add32_eq (a b : Nat) : IntKind.u32.wrap ((a : Int) + (b : Int)) = ((add32 a b : Nat) : Int) := by
  unfold add32
  simp only [IntKind.wrap, IntKind.bits, IntKind.signed, Bool.false_and]
  simp
  rfl
structure V8 where
  a : Nat
  b : Nat
  c : Nat
  d : Nat
  e : Nat
  f : Nat
  g : Nat
  h : Nat
def V8.list (v : V8) : List Nat := [v.a, v.b, v.c, v.d, v.e, v.f, v.g, v.h]
structure V8.ok (v : V8) : Prop where
  a : v.a < 4294967296
  b : v.b < 4294967296
  c : v.c < 4294967296
  d : v.d < 4294967296
  e : v.e < 4294967296
  f : v.f < 4294967296
  g : v.g < 4294967296
  h : v.h < 4294967296
noncomputable def shStep (k w : Nat) (v : V8) : V8 :=
  ⟨add32 (shT k w v.e v.f v.g v.h) (shU v.a v.b v.c), v.a, v.b, v.c, add32 v.d (shT k w v.e v.f v.g v.h), v.e, v.f, v.g⟩
theorem shStep_ok {k w : Nat} {v : V8} (h : v.ok) : (shStep k w v).ok := ⟨add32_lt _ _, h.a, h.b, h.c, add32_lt _ _, h.e, h.f, h.g⟩
noncomputable def shW (m : Nat → Nat) (i : Nat) : Nat := if i < 16 then m i else shN (shW m (i - 16)) (shW m (i - 15)) (shW m (i - 7)) (shW m (i - 2))
termination_by i
decreasing_by all_goals omega
theorem shW_lt {m : Nat → Nat} (hm : ∀ i, i < 16 → m i < 4294967296) (i : Nat) : shW m i < 4294967296 := by
  rw [shW]
  split
  · exact hm i ‹_›
  · exact add32_lt _ _
theorem shW_next (m : Nat → Nat) (i : Nat) : shN (shW m i) (shW m (i + 1)) (shW m (i + 9)) (shW m (i + 14)) = shW m (i + 16) := by
  rw [shW.eq_1 m (i + 16), if_neg (by omega)]
  rfl
noncomputable def shV (m : Nat → Nat) : List Nat → Nat → V8 → V8
  | [], _, v => v
  | k :: ks, i, v => shV m ks (i + 1) (shStep k (shW m i) v)
theorem shaR_cons (k : Nat) (ks : List Nat) (w0 w1 w2 w3 w4 w5 w6 w7 w8 w9 w10 w11 w12 w13 w14 w15 a b c d e f g h : Nat) : shaR (k :: ks) w0 w1 w2 w3 w4 w5 w6 w7 w8 w9 w10 w11 w12 w13 w14 w15 a b c d e f g h = natK (shN w0 w1 w9 w14) fun w16 => natK (shT k w0 e f g h) fun t => natK (add32 t (shU a b c)) fun x => natK (add32 d t) fun y => shaR ks w1 w2 w3 w4 w5 w6 w7 w8 w9 w10 w11 w12 w13 w14 w15 w16 x a b c y e f g := rfl
theorem shaR_eq (m : Nat → Nat) (ks : List Nat) : ∀ (i : Nat) (v : V8), shaR ks (shW m i) (shW m (i + 1)) (shW m (i + 2)) (shW m (i + 3)) (shW m (i + 4)) (shW m (i + 5)) (shW m (i + 6)) (shW m (i + 7)) (shW m (i + 8)) (shW m (i + 9)) (shW m (i + 10)) (shW m (i + 11)) (shW m (i + 12)) (shW m (i + 13)) (shW m (i + 14)) (shW m (i + 15)) v.a v.b v.c v.d v.e v.f v.g v.h = (shV m ks i v).list := by
  induction ks with
  | nil => intro i v; rfl
  | cons k ks ih =>
    intro i v
    have h := ih (i + 1) (shStep k (shW m i) v)
    rw [Nat.add_assoc i 1 1, Nat.add_assoc i 1 2, Nat.add_assoc i 1 3, Nat.add_assoc i 1 4, Nat.add_assoc i 1 5, Nat.add_assoc i 1 6, Nat.add_assoc i 1 7, Nat.add_assoc i 1 8, Nat.add_assoc i 1 9, Nat.add_assoc i 1 10, Nat.add_assoc i 1 11, Nat.add_assoc i 1 12, Nat.add_assoc i 1 13, Nat.add_assoc i 1 14, Nat.add_assoc i 1 15, ← shW_next] at h
    rw [shaR_cons, natK_eq, natK_eq, natK_eq, natK_eq]
    exact h
theorem onU8_some {α : Type} {v : Value} {k : Nat → Option α} {r : α} (h : onU8 v k = some r) : ∃ b : Nat, b < 256 ∧ v = .int .u8 (b : Int) ∧ k b = some r := by
  unfold onU8 at h
  split at h
  · rename_i b
    rw [ifb_blt, natK_eq] at h
    split at h
    · exact ⟨b, ‹_›, rfl, h⟩
    · cases h
  · cases h
theorem onU32_some {α : Type} {v : Value} {k : Nat → Option α} {r : α} (h : onU32 v k = some r) : ∃ b : Nat, b < 4294967296 ∧ v = .int .u32 (b : Int) ∧ k b = some r := by
  unfold onU32 at h
  split at h
  · rename_i b
    rw [ifb_blt, natK_eq] at h
    split at h
    · exact ⟨b, ‹_›, rfl, h⟩
    · cases h
  · cases h
theorem tkU8_some {α : Type} {l : List Value} {k : Nat → List Value → Option α} {r : α} (h : tkU8 l k = some r) : ∃ b l', b < 256 ∧ l = .int .u8 ((b : Nat) : Int) :: l' ∧ k b l' = some r := by
  cases l with
  | nil => cases h
  | cons v l =>
    obtain ⟨b, h1, h2, h3⟩ := onU8_some h
    exact ⟨b, l, h1, by rw [h2], h3⟩
theorem words_some : ∀ {n : Nat} {l : List Value} {ws : List Nat}, words n l = some ws → ws.length = n ∧ ∀ i, i < n → ∃ a b c d, a < 256 ∧ b < 256 ∧ c < 256 ∧ d < 256 ∧ l[4 * i]? = some (.int .u8 ((a : Nat) : Int)) ∧ l[4 * i + 1]? = some (.int .u8 ((b : Nat) : Int)) ∧ l[4 * i + 2]? = some (.int .u8 ((c : Nat) : Int)) ∧ l[4 * i + 3]? = some (.int .u8 ((d : Nat) : Int)) ∧ ws[i]? = some (be32 a b c d) := by
  intro n
  induction n with
  | zero => intro l ws h; cases h; exact ⟨rfl, fun i hi => by omega⟩
  | succ n ih =>
    intro l ws h
    obtain ⟨a, l1, ha, rfl, k1⟩ := tkU8_some h
    obtain ⟨b, l2, hb, rfl, k2⟩ := tkU8_some k1
    obtain ⟨c, l3, hc, rfl, k3⟩ := tkU8_some k2
    obtain ⟨d, l4, hd, rfl, k4⟩ := tkU8_some k3
    rw [natK_eq] at k4
    have h' : (Option.rec none (fun ws => some (be32 a b c d :: ws)) (words n l4) : Option (List Nat)) = some ws := k4
    clear h k1 k2 k3 k4
    generalize hx : words n l4 = x at h'
    cases x with
    | none => cases h'
    | some us =>
      obtain ⟨h1, h2⟩ := ih hx
      cases h'
      refine ⟨by simp [h1], fun i hi => ?_⟩
      cases i with
      | zero => exact ⟨a, b, c, d, ha, hb, hc, hd, rfl, rfl, rfl, rfl, rfl⟩
      | succ i =>
        obtain ⟨a, b, c, d, q1, q2, q3, q4, q5, q6, q7, q8, q9⟩ := h2 i (by omega)
        exact ⟨a, b, c, d, q1, q2, q3, q4, q5, q6, q7, q8, q9⟩
theorem u32s_some : ∀ {l : List Value} {vs : List Nat}, u32s l = some vs → l = vs.map (fun x => .int .u32 ((x : Nat) : Int)) ∧ ∀ x ∈ vs, x < 4294967296 := by
  intro l
  induction l with
  | nil => intro vs h; cases h; exact ⟨rfl, fun x hx => by cases hx⟩
  | cons v l ih =>
    intro vs h
    obtain ⟨b, h1, rfl, k1⟩ := onU32_some h
    have h' : (Option.rec none (fun ws => some (b :: ws)) (u32s l) : Option (List Nat)) = some vs := k1
    clear h k1
    generalize hx : u32s l = x at h'
    cases x with
    | none => cases h'
    | some us =>
      cases h'
      obtain ⟨q1, q2⟩ := ih hx
      refine ⟨by rw [q1]; rfl, fun x hx => ?_⟩
      rcases List.mem_cons.1 hx with rfl | hx
      · exact h1
      · exact q2 x hx
theorem cut1_some {α : Type} {l : List Nat} {k : Nat → List Nat → Option α} {r : α} (h : cut1 l k = some r) : ∃ b l', l = b :: l' ∧ k b l' = some r := by
  cases l with
  | nil => cases h
  | cons b l => exact ⟨b, l, rfl, h⟩
theorem end0_some {α : Type} {l : List Nat} {x : Option α} {r : α} (h : end0 l x = some r) : l = [] ∧ x = some r := by
  cases l with
  | nil => exact ⟨rfl, h⟩
  | cons b l => cases h
theorem shaBlock_some {ks ws vs r : List Nat} (h : shaBlock ks ws vs = some r) : ∃ v : V8, vs = v.list ∧ r = (shV (fun i => ws.getD i 0) ks 0 v).list := by
  unfold shaBlock cut8 at h
  obtain ⟨w0, l0, rfl, k0⟩ := cut1_some h
  clear h
  obtain ⟨w1, l1, rfl, k1⟩ := cut1_some k0
  clear k0
  obtain ⟨w2, l2, rfl, k2⟩ := cut1_some k1
  clear k1
  obtain ⟨w3, l3, rfl, k3⟩ := cut1_some k2
  clear k2
  obtain ⟨w4, l4, rfl, k4⟩ := cut1_some k3
  clear k3
  obtain ⟨w5, l5, rfl, k5⟩ := cut1_some k4
  clear k4
  obtain ⟨w6, l6, rfl, k6⟩ := cut1_some k5
  clear k5
  obtain ⟨w7, l7, rfl, k7⟩ := cut1_some k6
  clear k6
  obtain ⟨w8, l8, rfl, k8⟩ := cut1_some k7
  clear k7
  obtain ⟨w9, l9, rfl, k9⟩ := cut1_some k8
  clear k8
  obtain ⟨w10, l10, rfl, k10⟩ := cut1_some k9
  clear k9
  obtain ⟨w11, l11, rfl, k11⟩ := cut1_some k10
  clear k10
  obtain ⟨w12, l12, rfl, k12⟩ := cut1_some k11
  clear k11
  obtain ⟨w13, l13, rfl, k13⟩ := cut1_some k12
  clear k12
  obtain ⟨w14, l14, rfl, k14⟩ := cut1_some k13
  clear k13
  obtain ⟨w15, l15, rfl, k15⟩ := cut1_some k14
  clear k14
  obtain ⟨rfl, k16⟩ := end0_some k15
  clear k15
  obtain ⟨a, m0, rfl, k17⟩ := cut1_some k16
  clear k16
  obtain ⟨b, m1, rfl, k18⟩ := cut1_some k17
  clear k17
  obtain ⟨c, m2, rfl, k19⟩ := cut1_some k18
  clear k18
  obtain ⟨d, m3, rfl, k20⟩ := cut1_some k19
  clear k19
  obtain ⟨e, m4, rfl, k21⟩ := cut1_some k20
  clear k20
  obtain ⟨f, m5, rfl, k22⟩ := cut1_some k21
  clear k21
  obtain ⟨g, m6, rfl, k23⟩ := cut1_some k22
  clear k22
  obtain ⟨h, m7, rfl, k24⟩ := cut1_some k23
  clear k23
  obtain ⟨rfl, k25⟩ := end0_some k24
  cases k25
  refine ⟨⟨a, b, c, d, e, f, g, h⟩, rfl, ?_⟩
  have q := shaR_eq (fun i => [w0, w1, w2, w3, w4, w5, w6, w7, w8, w9, w10, w11, w12, w13, w14, w15].getD i 0) ks 0 ⟨a, b, c, d, e, f, g, h⟩
  iterate 16 (rw [shW, if_pos (by omega)] at q)
  exact q
theorem addAll_eq (l : List Nat) : ∀ m : List Nat, addAll l m = (List.zipWith add32 l m).map fun x => .int .u32 ((x : Nat) : Int) := by
  induction l with
  | nil => intro m; rfl
  | cons x l ih =>
    intro m
    cases m with
    | nil => rfl
    | cons y m =>
      have h : addAll (x :: l) (y :: m) = natK (add32 x y) fun z => .int .u32 (Int.ofNat z) :: addAll l m := rfl
      rw [h, natK_eq, ih]
      rfl
def tab (n : Nat) (f : Nat → Value) : List Value := (List.range n).map f
theorem tab_len (n : Nat) (f : Nat → Value) : (tab n f).length = n := by simp [tab]
theorem tab_get {n : Nat} {f : Nat → Value} {i : Nat} (h : i < n) : (tab n f)[i]? = some (f i) := by simp [tab, h]
theorem tab_set (n : Nat) (f : Nat → Value) (i : Nat) (v : Value) : (tab n f).set i v = tab n fun j => if j = i then v else f j := by
  refine List.ext_getElem (by simp [tab]) fun j h1 h2 => ?_
  simp only [List.getElem_set, tab, List.getElem_map, List.getElem_range]
  by_cases h : i = j
  · subst h; simp
  · rw [if_neg h, if_neg (Ne.symm h)]
variable {Sm : Summ} {Q : Ans → Prop}
/-! ### the walk -/
theorem turn_ev (hs : Sm 276 = none) (hr : Sm 357 = none) {s : St} {x n : Nat} (hx : x < 4294967296) (h0 : 0 < n) (h1 : n < 32) (h : Q (.val (.int .u32 ((rr x n (32 - n) : Nat) : Int)) s)) :
    Ev Tryz.prog Sm (.inv (.fn (.func 276) #[]) [.int .u32 (x : Int), .int .i64 (n : Int)] s) Q := by
  refine Ev.func hs Tryz.func276 rfl (m := 9) rfl ?_
  simp only [Array.toList_empty, List.append_nil, ofList_cons, ofList_nil]
  have e0 : IntKind.i64.wrap (0 - (n : Int)) = 0 - (n : Int) := wrap_i64 _ (by omega) (by omega)
  (try (first | refine Abs.EvO.nx ?_ | refine Abs.EvA.nx ?_)); repeat' (first | refine Abs.Ev.seq ?_ | refine Abs.Ev.region ?_ | refine Abs.Ev.block ?_ | refine Abs.Ev.skip ?_ | refine Abs.Ev.exit ?_ | refine Abs.Ev.ret ?_ | refine Abs.Ev.runNil ?_ | refine Abs.Ev.stepsNil ?_ | refine Abs.Seq.go ?_ | refine Abs.Seq.off ?_ | refine Abs.Blk.here ?_ | refine Abs.Blk.go ?_ | refine Abs.Blk.off rfl ?_ | refine Abs.Blk.ret ?_ | refine Abs.Ev.label ?_ | refine Abs.Ev.scope ?_ | refine Abs.Ev.step' rfl rfl rfl ?_ | refine Abs.Ev.stepG' rfl rfl rfl rfl ?_ | refine Abs.Ev.condG' ?_ | refine Abs.Ev.goS' rfl rfl rfl rfl ?_ | refine Abs.Ev.goG' rfl rfl rfl rfl rfl ?_ | refine Abs.Ev.againS' rfl rfl rfl ?_ | refine Abs.Ev.newS' rfl rfl rfl ?_ | refine Abs.Ev.callF' rfl ?_ | refine Abs.Ev.callG' rfl rfl ?_ | refine Abs.Ev.goCall' rfl rfl ?_ | refine Abs.Body.retE rfl ?_ | refine Abs.Body.endE rfl ?_ | (refine Abs.Nx.go ?_; (first | simp (disch := first | omega | assumption) only [go_sem, e0, Tryz.underlying3, Ty.sz3, Ty.by3, Ty.ag3, Ty.ze3, Tryz.underlying5, Ty.sz5, Ty.by5, Ty.ag5, Ty.ze5, Tryz.underlying43, Ty.sz43, Ty.by43, Ty.ag43, Ty.ze43, Tryz.underlying97, Ty.sz97, Ty.by97, Ty.ag97, Ty.ze97, Tryz.underlying302, Ty.sz302, Ty.by302, Ty.ag302, Ty.ze302, Tryz.underlying303, Ty.sz303, Ty.by303, Ty.ag303, Ty.ze303, Tryz.underlying306, Ty.sz306, Ty.by306, Ty.ag306, Ty.ze306] | skip)) | (refine ⟨fun hb => ?_, fun hb => ?_⟩ <;> first | (exfalso; omega) | skip) | fail)
  refine Ev.func hr Tryz.func357 rfl (m := 17) rfl ?_
  simp only [Array.toList_empty, List.append_nil, ofList_cons, ofList_nil]
  have e1 : IntKind.u64.wrap (0 - (n : Int)) = ((18446744073709551616 - n : Nat) : Int) := by
    simp only [IntKind.wrap, IntKind.bits, IntKind.signed, Bool.false_and]
    simp
    omega
  have e2 : (18446744073709551616 - n) &&& 31 = 32 - n := by
    rw [show 31 = 2 ^ 5 - 1 by rfl, Nat.and_two_pow_sub_one_eq_mod]
    omega
  have e3 : (32 - ((32 - n : Nat) : Int)).toNat = n := by omega
  have e4 := shr_lt n hx
  (try (first | refine Abs.EvO.nx ?_ | refine Abs.EvA.nx ?_)); repeat' (first | refine Abs.Ev.seq ?_ | refine Abs.Ev.region ?_ | refine Abs.Ev.block ?_ | refine Abs.Ev.skip ?_ | refine Abs.Ev.exit ?_ | refine Abs.Ev.ret ?_ | refine Abs.Ev.runNil ?_ | refine Abs.Ev.stepsNil ?_ | refine Abs.Seq.go ?_ | refine Abs.Seq.off ?_ | refine Abs.Blk.here ?_ | refine Abs.Blk.go ?_ | refine Abs.Blk.off rfl ?_ | refine Abs.Blk.ret ?_ | refine Abs.Ev.label ?_ | refine Abs.Ev.scope ?_ | refine Abs.Ev.step' rfl rfl rfl ?_ | refine Abs.Ev.stepG' rfl rfl rfl rfl ?_ | refine Abs.Ev.condG' ?_ | refine Abs.Ev.goS' rfl rfl rfl rfl ?_ | refine Abs.Ev.goG' rfl rfl rfl rfl rfl ?_ | refine Abs.Ev.againS' rfl rfl rfl ?_ | refine Abs.Ev.newS' rfl rfl rfl ?_ | refine Abs.Ev.callF' rfl ?_ | refine Abs.Ev.callG' rfl rfl ?_ | refine Abs.Ev.goCall' rfl rfl ?_ | refine Abs.Body.retE rfl ?_ | refine Abs.Body.endE rfl ?_ | (refine Abs.Nx.go ?_; (first | simp (disch := first | omega | assumption) only [go_sem, e1, e2, e3, Tryz.underlying3, Ty.sz3, Ty.by3, Ty.ag3, Ty.ze3, Tryz.underlying5, Ty.sz5, Ty.by5, Ty.ag5, Ty.ze5, Tryz.underlying43, Ty.sz43, Ty.by43, Ty.ag43, Ty.ze43, Tryz.underlying97, Ty.sz97, Ty.by97, Ty.ag97, Ty.ze97, Tryz.underlying302, Ty.sz302, Ty.by302, Ty.ag302, Ty.ze302, Tryz.underlying303, Ty.sz303, Ty.by303, Ty.ag303, Ty.ze303, Tryz.underlying306, Ty.sz306, Ty.by306, Ty.ag306, Ty.ze306] | skip)) | (refine ⟨fun hb => ?_, fun hb => ?_⟩ <;> first | (exfalso; omega) | skip) | fail)
  have e5 : x <<< (32 - n) % 4294967296 < 4294967296 := Nat.mod_lt _ (by decide)
  have e6 : rr x n (32 - n) = x <<< (32 - n) % 4294967296 ||| x >>> n := rfl
  rw [e6] at h
  generalize x <<< (32 - n) % 4294967296 = y1 at *
  generalize x >>> n = y2 at *
  (try (first | refine Abs.EvO.nx ?_ | refine Abs.EvA.nx ?_)); repeat' (first | refine Abs.Ev.seq ?_ | refine Abs.Ev.region ?_ | refine Abs.Ev.block ?_ | refine Abs.Ev.skip ?_ | refine Abs.Ev.exit ?_ | refine Abs.Ev.ret ?_ | refine Abs.Ev.runNil ?_ | refine Abs.Ev.stepsNil ?_ | refine Abs.Seq.go ?_ | refine Abs.Seq.off ?_ | refine Abs.Blk.here ?_ | refine Abs.Blk.go ?_ | refine Abs.Blk.off rfl ?_ | refine Abs.Blk.ret ?_ | refine Abs.Ev.label ?_ | refine Abs.Ev.scope ?_ | refine Abs.Ev.step' rfl rfl rfl ?_ | refine Abs.Ev.stepG' rfl rfl rfl rfl ?_ | refine Abs.Ev.condG' ?_ | refine Abs.Ev.goS' rfl rfl rfl rfl ?_ | refine Abs.Ev.goG' rfl rfl rfl rfl rfl ?_ | refine Abs.Ev.againS' rfl rfl rfl ?_ | refine Abs.Ev.newS' rfl rfl rfl ?_ | refine Abs.Ev.callF' rfl ?_ | refine Abs.Ev.callG' rfl rfl ?_ | refine Abs.Ev.goCall' rfl rfl ?_ | refine Abs.Body.retE rfl ?_ | refine Abs.Body.endE rfl ?_ | (refine Abs.Nx.go ?_; (first | simp (disch := first | omega | assumption) only [go_sem, ] | skip)) | (refine ⟨fun hb => ?_, fun hb => ?_⟩ <;> first | (exfalso; omega) | skip) | fail)
  refine ⟨_, _, rfl, ?_⟩
  (try (first | refine Abs.EvO.nx ?_ | refine Abs.EvA.nx ?_)); repeat' (first | refine Abs.Ev.seq ?_ | refine Abs.Ev.region ?_ | refine Abs.Ev.block ?_ | refine Abs.Ev.skip ?_ | refine Abs.Ev.exit ?_ | refine Abs.Ev.ret ?_ | refine Abs.Ev.runNil ?_ | refine Abs.Ev.stepsNil ?_ | refine Abs.Seq.go ?_ | refine Abs.Seq.off ?_ | refine Abs.Blk.here ?_ | refine Abs.Blk.go ?_ | refine Abs.Blk.off rfl ?_ | refine Abs.Blk.ret ?_ | refine Abs.Ev.label ?_ | refine Abs.Ev.scope ?_ | refine Abs.Ev.step' rfl rfl rfl ?_ | refine Abs.Ev.stepG' rfl rfl rfl rfl ?_ | refine Abs.Ev.condG' ?_ | refine Abs.Ev.goS' rfl rfl rfl rfl ?_ | refine Abs.Ev.goG' rfl rfl rfl rfl rfl ?_ | refine Abs.Ev.againS' rfl rfl rfl ?_ | refine Abs.Ev.newS' rfl rfl rfl ?_ | refine Abs.Ev.callF' rfl ?_ | refine Abs.Ev.callG' rfl rfl ?_ | refine Abs.Ev.goCall' rfl rfl ?_ | refine Abs.Body.retE rfl ?_ | refine Abs.Body.endE rfl ?_ | (refine Abs.Nx.go ?_; (first | simp (disch := first | omega | assumption) only [go_sem, ] | skip)) | (refine ⟨fun hb => ?_, fun hb => ?_⟩ <;> first | (exfalso; omega) | skip) | fail)
  exact h
theorem z64 : zeroT Tryz.prog 303 = .ok (.agg ⟨tab 64 fun _ => .int .u32 0⟩) := Ty.ze303
theorem turn_evN (hs : Sm 276 = none) (hr : Sm 357 = none) {s : St} {x : Nat} {ni : Int} (n m : Nat) (hx : x < 4294967296) (h0 : 0 < n) (h1 : n < 32) (hm : m = 32 - n) (hn : ni = (n : Int)) {Q : Value → St → Prop} (h : Q (.int .u32 ((rr x n m : Nat) : Int)) s) :
    Ev Tryz.prog Sm (.inv (.fn (.func 276) #[]) [.int .u32 (x : Int), .int .i64 ni] s) fun r => ∃ v s', r = .val v s' ∧ Q v s' := by
  subst hm hn
  exact turn_ev hs hr hx h0 h1 ⟨_, _, rfl, h⟩
set_option maxRecDepth 20000 in
theorem cut_head (l : List Value) (i : Nat) : (cutN l i 1).bind (fun x => x.head?) = l[i]? := by
  rw [cutN_eq]
  split
  · rename_i h
    show ((l.drop i).take 1).head? = _
    rw [List.drop_eq_getElem_cons (by omega), List.getElem?_eq_getElem (by omega)]
    rfl
  · rename_i h
    rw [List.getElem?_eq_none (by omega)]
    rfl
theorem cut_eight (a b c d e f g h : Value) : cutN [a, b, c, d, e, f, g, h] 0 8 = some [a, b, c, d, e, f, g, h] := cut_all rfl
theorem build8 (a b c d e f g h : Int) : aBuild Tryz.prog 306 [(0, .int .u32 a), (1, .int .u32 b), (2, .int .u32 c), (3, .int .u32 d), (4, .int .u32 e), (5, .int .u32 f), (6, .int .u32 g), (7, .int .u32 h)] = .ok (.agg ⟨[.int .u32 a, .int .u32 b, .int .u32 c, .int .u32 d, .int .u32 e, .int .u32 f, .int .u32 g, .int .u32 h]⟩) := by kernel_rfl
theorem take_says (hs : Sm 199 = none) (ht : Sm 276 = none) (hr : Sm 357 = none) : EvSays Tryz.prog Sm 199 sumTake := by
  intro args s v s1 hwf h
  unfold sumTake at h
  split at h <;> first | (cases h; done) | skip
  rename_i sb b o c0 kb
  unfold sumTake2 at h
  split at h <;> first | (cases h; done) | skip
  rename_i vs e z hsb
  obtain ⟨kc, hkc, k1⟩ := Rs.bind_ok h
  obtain ⟨q, hq, k2⟩ := Rs.bind_ok k1
  unfold sumTake3 at k2
  obtain ⟨ws, hws, k3⟩ := Rs.bind_ok k2
  obtain ⟨ks, hks, k4⟩ := Rs.bind_ok k3
  obtain ⟨ns, hns, k5⟩ := Rs.bind_ok k4
  rw [ifb_beq, lenN_eq] at k5
  split at k5 <;> first | (cases k5; done) | skip
  rename_i hk64
  obtain ⟨r, hbl, k6⟩ := Rs.bind_ok k5
  rw [St.put_eq] at k6
  have k6 : Rs.ok (undefV, (⟨s.heap.set sb (.cells (addAll ns r) e z false (0, 0)), s.next + 2⟩ : St)) = .ok (v, s1) := by
    rw [← k6]
    exact (natK_eq (s.next + 2) fun n => Rs.ok (undefV, (⟨s.heap.set sb (.cells (addAll ns r) e z false (0, 0)), n⟩ : St))).symm
  clear h k1 k2 k3 k4 k5
  have hws := Rs.of_ok hws
  obtain ⟨hksl, hklt⟩ := u32s_some (Rs.of_ok hks)
  obtain ⟨hnsl, hnlt⟩ := u32s_some (Rs.of_ok hns)
  obtain ⟨hwl, hw⟩ := words_some hws
  obtain ⟨v8, rfl, rfl⟩ := shaBlock_some (Rs.of_ok hbl)
  have hcell : ∃ l, objCells (s.heap.get b) = .ok l ∧ cutN l o 64 = some q.2 := by
    simp only [srcCells, Nat.mul_one] at hq
    split at hq <;> first | (cases hq; done) | skip
    · obtain ⟨cs, h1, h2⟩ := Rs.bind_ok hq
      rename_i l _ _ _ _ hb
      cases h2
      exact ⟨l, by rw [hb]; rfl, Rs.of_ok h1⟩
    · obtain ⟨cs, h1, h2⟩ := Rs.bind_ok hq
      rename_i l _ hb
      cases h2
      exact ⟨l, by rw [hb]; rfl, Rs.of_ok h1⟩
  obtain ⟨l, hl, hcut⟩ := hcell
  obtain ⟨hn, hql⟩ := cutN_some hcut
  have hget : ∀ i, i < 64 → l[o + i]? = q.2[i]? := by
    intro i hi
    rw [hql, List.getElem?_take_of_lt hi, List.getElem?_drop]
  have hbb : b < s.next := by
    cases hb : s.heap.get b with
    | none => rw [hb] at hl; cases hl
    | some x => exact hwf _ _ hb
  have hkb : kb < s.next := by
    cases hb : s.heap.get kb with
    | none => rw [hb] at hkc; cases hkc
    | some x => exact hwf _ _ hb
  have hsbl := hwf _ _ hsb
  have hk : ∀ i (hi : i < 64), kc[i]? = some (.int .u32 ((ks[i]'(by omega) : Nat) : Int)) := by
    intro i hi
    rw [hksl, List.getElem?_map, List.getElem?_eq_getElem (by omega)]
    rfl
  generalize hm : (fun i => ws.getD i 0) = m at *
  have hm16 : ∀ i, i < 16 → m i < 4294967296 ∧ ∃ a b c d, a < 256 ∧ b < 256 ∧ c < 256 ∧ d < 256 ∧ l[o + 4 * i]? = some (.int .u8 ((a : Nat) : Int)) ∧ l[o + (4 * i + 1)]? = some (.int .u8 ((b : Nat) : Int)) ∧ l[o + (4 * i + 2)]? = some (.int .u8 ((c : Nat) : Int)) ∧ l[o + (4 * i + 3)]? = some (.int .u8 ((d : Nat) : Int)) ∧ m i = be32 a b c d := by
    intro i hi
    obtain ⟨a, b, c, d, q1, q2, q3, q4, q5, q6, q7, q8, q9⟩ := hw i hi
    rw [← hget _ (by omega)] at q5 q6 q7 q8
    have q0 : m i = be32 a b c d := by
      rw [← hm]
      show ws.getD i 0 = _
      rw [List.getD_eq_getElem?_getD, q9]
      rfl
    refine ⟨?_, a, b, c, d, q1, q2, q3, q4, q5, q6, q7, q8, q0⟩
    rw [q0]
    exact or32_lt (or32_lt (or32_lt (Nat.mod_lt _ (by decide)) (Nat.mod_lt _ (by decide))) (Nat.mod_lt _ (by decide))) (by omega)
  have hmlt0 : ∀ i, i < 16 → m i < 4294967296 := fun i hi => (hm16 i hi).1
  clear hcut hql hget hw hws hks hns hbl hq hwl
  refine Ev.func hs Tryz.func199 rfl (m := 199) rfl ?_
  simp only [Array.toList_empty, List.append_nil, ofList_cons, ofList_nil]
  (try (first | refine Abs.EvO.nx ?_ | refine Abs.EvA.nx ?_)); repeat' (first | refine Abs.Ev.seq ?_ | refine Abs.Ev.region ?_ | refine Abs.Ev.block ?_ | refine Abs.Ev.skip ?_ | refine Abs.Ev.exit ?_ | refine Abs.Ev.ret ?_ | refine Abs.Ev.runNil ?_ | refine Abs.Ev.stepsNil ?_ | refine Abs.Seq.go ?_ | refine Abs.Seq.off ?_ | refine Abs.Blk.here ?_ | refine Abs.Blk.go ?_ | refine Abs.Blk.off rfl ?_ | refine Abs.Blk.ret ?_ | refine Abs.Ev.label ?_ | refine Abs.Ev.scope ?_ | refine Abs.Ev.step' rfl rfl rfl ?_ | refine Abs.Ev.stepG' rfl rfl rfl rfl ?_ | refine Abs.Ev.condG' ?_ | refine Abs.Ev.goS' rfl rfl rfl rfl ?_ | refine Abs.Ev.goG' rfl rfl rfl rfl rfl ?_ | refine Abs.Ev.againS' rfl rfl rfl ?_ | refine Abs.Ev.newS' rfl rfl rfl ?_ | refine Abs.Ev.callF' rfl ?_ | refine Abs.Ev.callG' rfl rfl ?_ | refine Abs.Ev.goCall' rfl rfl ?_ | refine Abs.Body.retE rfl ?_ | refine Abs.Body.endE rfl ?_ | (refine Abs.Nx.go ?_; (first | simp (disch := first | omega | assumption) only [go_sem, z64] | skip)) | (refine ⟨fun hb => ?_, fun hb => ?_⟩ <;> first | (exfalso; omega) | skip) | fail)
  have hk0 := (Keep.refl hwf).new (.cells (tab 64 fun _ => .int .u32 0) 303 0 false (0, 0))
  -- the first sixteen words
  refine Ev.loop (fun k a s' => Keep s s' ∧ s'.next = s.next + 1 ∧ ∃ T i f, a = ⟨T, 199, []⟩ ∧ T.get 0 = some (.pointer (some ⟨sb, 0, none⟩)) ∧ T.get 1 = some (.slice (some ⟨b, o, none⟩) 64 c0) ∧ T.get 2 = some (.pointer (some ⟨kb, 0, none⟩)) ∧ T.get 6 = some (.pointer (some ⟨s.next, 0, none⟩)) ∧ T.get 19 = some (.int .i64 ((i : Nat) : Int)) ∧ i ≤ 16 ∧ s'.heap.get s.next = some (.cells (tab 64 f) 303 0 false (0, 0)) ∧ (∀ j, j < i → f j = .int .u32 ((m j : Nat) : Int)) ∧ k = 16 - i) (k := 16)
    ⟨hk0, rfl, _, 0, _, rfl, ?g0, ?g1, ?g2, ?g6, ?g19, by omega, get_same _ _ _, fun j hj => by omega, rfl⟩ ?_
  case g0 => simp (disch := first | omega | assumption) only [go_sem, ]
  case g1 => simp (disch := first | omega | assumption) only [go_sem, ]
  case g2 => simp (disch := first | omega | assumption) only [go_sem, ]
  case g6 => simp (disch := first | omega | assumption) only [go_sem, ]
  case g19 => simp (disch := first | omega | assumption) only [go_sem, ]; rfl
  rintro n1 a s' ⟨hK, hnx, T, i, f, rfl, g0, g1, g2, g6, g19, hi, hwc, hf, rfl⟩
  (try (first | refine Abs.EvO.nx ?_ | refine Abs.EvA.nx ?_)); repeat' (first | refine Abs.Ev.seq ?_ | refine Abs.Ev.region ?_ | refine Abs.Ev.block ?_ | refine Abs.Ev.skip ?_ | refine Abs.Ev.exit ?_ | refine Abs.Ev.ret ?_ | refine Abs.Ev.runNil ?_ | refine Abs.Ev.stepsNil ?_ | refine Abs.Seq.go ?_ | refine Abs.Seq.off ?_ | refine Abs.Blk.here ?_ | refine Abs.Blk.go ?_ | refine Abs.Blk.off rfl ?_ | refine Abs.Blk.ret ?_ | refine Abs.Ev.label ?_ | refine Abs.Ev.scope ?_ | refine Abs.Ev.step' rfl rfl rfl ?_ | refine Abs.Ev.stepG' rfl rfl rfl rfl ?_ | refine Abs.Ev.condG' ?_ | refine Abs.Ev.goS' rfl rfl rfl rfl ?_ | refine Abs.Ev.goG' rfl rfl rfl rfl rfl ?_ | refine Abs.Ev.againS' rfl rfl rfl ?_ | refine Abs.Ev.newS' rfl rfl rfl ?_ | refine Abs.Ev.callF' rfl ?_ | refine Abs.Ev.callG' rfl rfl ?_ | refine Abs.Ev.goCall' rfl rfl ?_ | refine Abs.Body.retE rfl ?_ | refine Abs.Body.endE rfl ?_ | (refine Abs.Nx.go ?_; (first | simp (disch := first | omega | assumption) only [go_sem, g0, g1, g2, g6, g19] | skip)) | (refine ⟨fun hb => ?_, fun hb => ?_⟩ <;> first | (exfalso; omega) | skip) | fail)
  · have hi16 : i < 16 := by omega
    --<
    obtain ⟨hmi, a0, a1, a2, a3, b0, b1, b2, b3, c1, c2, c3, c4, hbe⟩ := hm16 i hi16
    have hl' : objCells (s'.heap.get b) = .ok l := by
      cases hb : s.heap.get b with
      | none => rw [hb] at hl; cases hl
      | some x => rw [hK.old _ _ hb, ← hb]; exact hl
    have t0 : (4 * (i : Int)).toNat = 4 * i := by omega
    have t1 : (4 * (i : Int) + 1).toNat = 4 * i + 1 := by omega
    have t2 : (4 * (i : Int) + 2).toNat = 4 * i + 2 := by omega
    have t3 : (4 * (i : Int) + 3).toNat = 4 * i + 3 := by omega
    have d1 : a0 <<< 24 % 4294967296 ||| a1 <<< 16 % 4294967296 < 4294967296 := or32_lt (Nat.mod_lt _ (by decide)) (Nat.mod_lt _ (by decide))
    have d2 : a0 <<< 24 % 4294967296 ||| a1 <<< 16 % 4294967296 ||| a2 <<< 8 % 4294967296 < 4294967296 := or32_lt d1 (Nat.mod_lt _ (by decide))
    have d0 : a0 <<< 24 % 4294967296 ||| a1 <<< 16 % 4294967296 ||| a2 <<< 8 % 4294967296 ||| a3 = m i := hbe.symm
    refine Abs.Ev.regionD (n := 0) (l := [.go 0, .go 1, .go 2, .go 3, .go 4, .go 5, .go 6, .go 7, .go 8, .go 9, .go 10, .go 11, .go 12, .go 13, .go 14, .go 15, .go 16, .go 17, .go 18, .go 19, .go 20, .go 21, .go 22, .go 23, .go 24, .go 25, .go 26, .go 27, .go 28, .go 29, .go 30, .go 31, .go 32, .go 33, .go 34, .go 35]) (by kernel_rfl) ?_
    (try (first | refine Abs.EvO.nx ?_ | refine Abs.EvA.nx ?_)); repeat' (first | refine Abs.Ev.seq ?_ | refine Abs.Ev.region ?_ | refine Abs.Ev.block ?_ | refine Abs.Ev.skip ?_ | refine Abs.Ev.exit ?_ | refine Abs.Ev.ret ?_ | refine Abs.Ev.runNil ?_ | refine Abs.Ev.stepsNil ?_ | refine Abs.Seq.go ?_ | refine Abs.Seq.off ?_ | refine Abs.Blk.here ?_ | refine Abs.Blk.go ?_ | refine Abs.Blk.off rfl ?_ | refine Abs.Blk.ret ?_ | refine Abs.Ev.label ?_ | refine Abs.Ev.scope ?_ | refine Abs.Ev.step' rfl rfl rfl ?_ | refine Abs.Ev.stepG' rfl rfl rfl rfl ?_ | refine Abs.Ev.condG' ?_ | refine Abs.Ev.goS' rfl rfl rfl rfl ?_ | refine Abs.Ev.goG' rfl rfl rfl rfl rfl ?_ | refine Abs.Ev.againS' rfl rfl rfl ?_ | refine Abs.Ev.newS' rfl rfl rfl ?_ | refine Abs.Ev.callF' rfl ?_ | refine Abs.Ev.callG' rfl rfl ?_ | refine Abs.Ev.goCall' rfl rfl ?_ | refine Abs.Body.retE rfl ?_ | refine Abs.Body.endE rfl ?_ | (refine Abs.Nx.go ?_; (first | simp (disch := first | omega | assumption) only [go_sem, g0, g1, g2, g6, g19, t0, t1, t2, t3, hl', c1, c2, c3, c4, hwc, tab_len, d0, Tryz.underlying3, Ty.sz3, Ty.by3, Ty.ag3, Ty.ze3, Tryz.underlying5, Ty.sz5, Ty.by5, Ty.ag5, Ty.ze5, Tryz.underlying43, Ty.sz43, Ty.by43, Ty.ag43, Ty.ze43, Tryz.underlying97, Ty.sz97, Ty.by97, Ty.ag97, Ty.ze97, Tryz.underlying302, Ty.sz302, Ty.by302, Ty.ag302, Ty.ze302, Tryz.underlying303, Ty.sz303, Ty.by303, Ty.ag303, Ty.ze303, Tryz.underlying306, Ty.sz306, Ty.by306, Ty.ag306, Ty.ze306] | skip)) | (refine ⟨fun hb => ?_, fun hb => ?_⟩ <;> first | (exfalso; omega) | skip) | fail)
    refine ⟨16 - (i + 1), by omega, hK.set (by omega) (by omega) hwf _, hnx, _, i + 1, fun j => if j = i then .int .u32 ((m i : Nat) : Int) else f j, rfl, ?_, ?_, ?_, ?_, ?_, by omega, ?_, fun j hj => ?_, rfl⟩
    · simp (disch := first | omega | assumption) only [go_sem, g0]
    · simp (disch := first | omega | assumption) only [go_sem, g1]
    · simp (disch := first | omega | assumption) only [go_sem, g2]
    · simp (disch := first | omega | assumption) only [go_sem, g6]
    · simp (disch := first | omega | assumption) only [go_sem, Int.natCast_add, Int.natCast_one]
    · show (s'.heap.set s.next _).get s.next = _
      rw [get_same, tab_set]
    · by_cases hji : j = i
      · subst hji; exact if_pos rfl
      · exact (if_neg hji).trans (hf j (by omega))
    -->
  · obtain rfl : i = 16 := by omega
    have hf2 : ∀ j, j < 16 → f j = .int .u32 ((shW m j : Nat) : Int) := fun j hj => by rw [hf j hj, shW, if_pos hj]
    (try (first | refine Abs.EvO.nx ?_ | refine Abs.EvA.nx ?_)); repeat' (first | refine Abs.Ev.seq ?_ | refine Abs.Ev.region ?_ | refine Abs.Ev.block ?_ | refine Abs.Ev.skip ?_ | refine Abs.Ev.exit ?_ | refine Abs.Ev.ret ?_ | refine Abs.Ev.runNil ?_ | refine Abs.Ev.stepsNil ?_ | refine Abs.Seq.go ?_ | refine Abs.Seq.off ?_ | refine Abs.Blk.here ?_ | refine Abs.Blk.go ?_ | refine Abs.Blk.off rfl ?_ | refine Abs.Blk.ret ?_ | refine Abs.Ev.label ?_ | refine Abs.Ev.scope ?_ | refine Abs.Ev.step' rfl rfl rfl ?_ | refine Abs.Ev.stepG' rfl rfl rfl rfl ?_ | refine Abs.Ev.condG' ?_ | refine Abs.Ev.goS' rfl rfl rfl rfl ?_ | refine Abs.Ev.goG' rfl rfl rfl rfl rfl ?_ | refine Abs.Ev.againS' rfl rfl rfl ?_ | refine Abs.Ev.newS' rfl rfl rfl ?_ | refine Abs.Ev.callF' rfl ?_ | refine Abs.Ev.callG' rfl rfl ?_ | refine Abs.Ev.goCall' rfl rfl ?_ | refine Abs.Body.retE rfl ?_ | refine Abs.Body.endE rfl ?_ | (refine Abs.Nx.go ?_; (first | simp (disch := first | omega | assumption) only [go_sem, ] | skip)) | (refine ⟨fun hb => ?_, fun hb => ?_⟩ <;> first | (exfalso; omega) | skip) | fail)
    -- the other words
    refine Ev.loop (fun k a s' => Keep s s' ∧ s'.next = s.next + 1 ∧ ∃ T i f, a = ⟨T, 199, []⟩ ∧ T.get 0 = some (.pointer (some ⟨sb, 0, none⟩)) ∧ T.get 2 = some (.pointer (some ⟨kb, 0, none⟩)) ∧ T.get 6 = some (.pointer (some ⟨s.next, 0, none⟩)) ∧ T.get 8 = some (.int .i64 ((i : Nat) : Int)) ∧ 16 ≤ i ∧ i ≤ 64 ∧ s'.heap.get s.next = some (.cells (tab 64 f) 303 0 false (0, 0)) ∧ (∀ j, j < i → f j = .int .u32 ((shW m j : Nat) : Int)) ∧ k = 64 - i) (k := 48)
      ⟨hK, hnx, _, 16, f, rfl, ?g0, ?g2, ?g6, ?g8, by omega, by omega, hwc, hf2, rfl⟩ ?_
    case g0 => simp (disch := first | omega | assumption) only [go_sem, g0]
    case g2 => simp (disch := first | omega | assumption) only [go_sem, g2]
    case g6 => simp (disch := first | omega | assumption) only [go_sem, g6]
    case g8 => simp (disch := first | omega | assumption) only [go_sem, ]; rfl
    clear g0 g1 g2 g6 g19 hwc hf2 hf hnx hK hi hm16 hm hl hn hbb f
    rintro n1 a s2 ⟨hK, hnx, T, i, f, rfl, g0, g2, g6, g8, hi0, hi, hwc, hf, rfl⟩
    have hmlt : ∀ j, shW m j < 4294967296 := shW_lt hmlt0
    (try (first | refine Abs.EvO.nx ?_ | refine Abs.EvA.nx ?_)); repeat' (first | refine Abs.Ev.seq ?_ | refine Abs.Ev.region ?_ | refine Abs.Ev.block ?_ | refine Abs.Ev.skip ?_ | refine Abs.Ev.exit ?_ | refine Abs.Ev.ret ?_ | refine Abs.Ev.runNil ?_ | refine Abs.Ev.stepsNil ?_ | refine Abs.Seq.go ?_ | refine Abs.Seq.off ?_ | refine Abs.Blk.here ?_ | refine Abs.Blk.go ?_ | refine Abs.Blk.off rfl ?_ | refine Abs.Blk.ret ?_ | refine Abs.Ev.label ?_ | refine Abs.Ev.scope ?_ | refine Abs.Ev.step' rfl rfl rfl ?_ | refine Abs.Ev.stepG' rfl rfl rfl rfl ?_ | refine Abs.Ev.condG' ?_ | refine Abs.Ev.goS' rfl rfl rfl rfl ?_ | refine Abs.Ev.goG' rfl rfl rfl rfl rfl ?_ | refine Abs.Ev.againS' rfl rfl rfl ?_ | refine Abs.Ev.newS' rfl rfl rfl ?_ | refine Abs.Ev.callF' rfl ?_ | refine Abs.Ev.callG' rfl rfl ?_ | refine Abs.Ev.goCall' rfl rfl ?_ | refine Abs.Body.retE rfl ?_ | refine Abs.Body.endE rfl ?_ | (refine Abs.Nx.go ?_; (first | simp (disch := first | omega | assumption) only [go_sem, g0, g2, g6, g8] | skip)) | (refine ⟨fun hb => ?_, fun hb => ?_⟩ <;> first | (exfalso; omega) | skip) | fail)
    · have hi64 : i < 64 := by omega
      --<
      have v2 : (tab 64 f)[i - 2]? = some (.int .u32 ((shW m (i - 2) : Nat) : Int)) := by rw [tab_get (by omega), hf _ (by omega)]
      have v7 : (tab 64 f)[i - 7]? = some (.int .u32 ((shW m (i - 7) : Nat) : Int)) := by rw [tab_get (by omega), hf _ (by omega)]
      have v15 : (tab 64 f)[i - 15]? = some (.int .u32 ((shW m (i - 15) : Nat) : Int)) := by rw [tab_get (by omega), hf _ (by omega)]
      have v16 : (tab 64 f)[i - 16]? = some (.int .u32 ((shW m (i - 16) : Nat) : Int)) := by rw [tab_get (by omega), hf _ (by omega)]
      have hx := shW_next m (i - 16)
      rw [show i - 16 + 1 = i - 15 by omega, show i - 16 + 9 = i - 7 by omega, show i - 16 + 14 = i - 2 by omega, show i - 16 + 16 = i by omega] at hx
      have l2 := hmlt (i - 2)
      have l7 := hmlt (i - 7)
      have l15 := hmlt (i - 15)
      have l16 := hmlt (i - 16)
      have hxl := hmlt i
      generalize shW m (i - 2) = x2 at *
      generalize shW m (i - 7) = x7 at *
      generalize shW m (i - 15) = x15 at *
      generalize shW m (i - 16) = x16 at *
      have t2 : ((i : Int) - 2).toNat = i - 2 := by omega
      have t7 : ((i : Int) - 7).toNat = i - 7 := by omega
      have t15 : ((i : Int) - 15).toNat = i - 15 := by omega
      have t16 : ((i : Int) - 16).toNat = i - 16 := by omega
      refine Abs.Ev.regionD (n := 0) (l := [.go 0, .go 1, .go 2, .go 3, .go 4, .go 5, .go 6, .go 7, .go 8, .go 9]) (by kernel_rfl) ?_
      (try (first | refine Abs.EvO.nx ?_ | refine Abs.EvA.nx ?_)); repeat' (first | refine Abs.Ev.seq ?_ | refine Abs.Ev.region ?_ | refine Abs.Ev.block ?_ | refine Abs.Ev.skip ?_ | refine Abs.Ev.exit ?_ | refine Abs.Ev.ret ?_ | refine Abs.Ev.runNil ?_ | refine Abs.Ev.stepsNil ?_ | refine Abs.Seq.go ?_ | refine Abs.Seq.off ?_ | refine Abs.Blk.here ?_ | refine Abs.Blk.go ?_ | refine Abs.Blk.off rfl ?_ | refine Abs.Blk.ret ?_ | refine Abs.Ev.label ?_ | refine Abs.Ev.scope ?_ | refine Abs.Ev.step' rfl rfl rfl ?_ | refine Abs.Ev.stepG' rfl rfl rfl rfl ?_ | refine Abs.Ev.condG' ?_ | refine Abs.Ev.goS' rfl rfl rfl rfl ?_ | refine Abs.Ev.goG' rfl rfl rfl rfl rfl ?_ | refine Abs.Ev.againS' rfl rfl rfl ?_ | refine Abs.Ev.newS' rfl rfl rfl ?_ | refine Abs.Ev.callF' rfl ?_ | refine Abs.Ev.callG' rfl rfl ?_ | refine Abs.Ev.goCall' rfl rfl ?_ | refine Abs.Body.retE rfl ?_ | refine Abs.Body.endE rfl ?_ | (refine Abs.Nx.go ?_; (first | simp (disch := first | omega | assumption) only [go_sem, g0, g2, g6, g8, t2, t7, t15, t16, hwc, v2, v7, v15, v16, tab_len, Tryz.underlying3, Ty.sz3, Ty.by3, Ty.ag3, Ty.ze3, Tryz.underlying5, Ty.sz5, Ty.by5, Ty.ag5, Ty.ze5, Tryz.underlying43, Ty.sz43, Ty.by43, Ty.ag43, Ty.ze43, Tryz.underlying97, Ty.sz97, Ty.by97, Ty.ag97, Ty.ze97, Tryz.underlying302, Ty.sz302, Ty.by302, Ty.ag302, Ty.ze302, Tryz.underlying303, Ty.sz303, Ty.by303, Ty.ag303, Ty.ze303, Tryz.underlying306, Ty.sz306, Ty.by306, Ty.ag306, Ty.ze306] | skip)) | (refine ⟨fun hb => ?_, fun hb => ?_⟩ <;> first | (exfalso; omega) | skip) | fail)
      have r1 := rr_lt (n := 7) (m := 25) l15
      have r2 := rr_lt (n := 18) (m := 14) l15
      have r3 := shr_lt 3 l15
      have r4 := xor32_lt r1 r2
      have r5 := xor32_lt r4 r3
      have q1 := rr_lt (n := 17) (m := 15) l2
      have q2 := rr_lt (n := 19) (m := 13) l2
      have q3 := shr_lt 10 l2
      have q4 := xor32_lt q1 q2
      have q5 := xor32_lt q4 q3
      have hx : add32 (add32 (add32 x16 (rr x15 7 25 ^^^ rr x15 18 14 ^^^ x15 >>> 3)) x7) (rr x2 17 15 ^^^ rr x2 19 13 ^^^ x2 >>> 10) = shW m i := hx
      refine Abs.Ev.regionD (n := 0) (l := [.go 0, .go 1, .go 2, .go 3, .go 4, .go 5, .go 7, .go 10, .go 11, .go 14, .go 15, .go 16, .go 17, .go 19, .go 21, .go 24, .go 25, .go 6, .again 4, .again 17, .go 8, .again 4, .go 9, .go 12, .go 13, .again 17, .go 18, .go 20, .again 4, .again 17, .go 22, .again 4, .again 17, .go 23, .go 26, .go 27, .go 28, .go 29]) (by kernel_rfl) ?_
      (try (first | refine Abs.EvO.nx ?_ | refine Abs.EvA.nx ?_)); repeat' (first | refine Abs.Ev.seq ?_ | refine Abs.Ev.region ?_ | refine Abs.Ev.block ?_ | refine Abs.Ev.skip ?_ | refine Abs.Ev.exit ?_ | refine Abs.Ev.ret ?_ | refine Abs.Ev.runNil ?_ | refine Abs.Ev.stepsNil ?_ | refine Abs.Seq.go ?_ | refine Abs.Seq.off ?_ | refine Abs.Blk.here ?_ | refine Abs.Blk.go ?_ | refine Abs.Blk.off rfl ?_ | refine Abs.Blk.ret ?_ | refine Abs.Ev.label ?_ | refine Abs.Ev.scope ?_ | refine Abs.Ev.step' rfl rfl rfl ?_ | refine Abs.Ev.stepG' rfl rfl rfl rfl ?_ | refine Abs.Ev.condG' ?_ | refine Abs.Ev.goS' rfl rfl rfl rfl ?_ | refine Abs.Ev.goG' rfl rfl rfl rfl rfl ?_ | refine Abs.Ev.againS' rfl rfl rfl ?_ | refine Abs.Ev.newS' rfl rfl rfl ?_ | refine Abs.Ev.callF' rfl ?_ | refine Abs.Ev.callG' rfl rfl ?_ | refine Abs.Ev.goCall' rfl rfl ?_ | refine Abs.Body.retE rfl ?_ | refine Abs.Body.endE rfl ?_ | (refine Abs.Nx.go ?_; (first | simp (disch := first | omega | assumption) only [go_sem, g0, g2, g6, g8, t2, t7, t15, t16, hwc, v2, v7, v15, v16, tab_len, Tryz.underlying3, Ty.sz3, Ty.by3, Ty.ag3, Ty.ze3, Tryz.underlying5, Ty.sz5, Ty.by5, Ty.ag5, Ty.ze5, Tryz.underlying43, Ty.sz43, Ty.by43, Ty.ag43, Ty.ze43, Tryz.underlying97, Ty.sz97, Ty.by97, Ty.ag97, Ty.ze97, Tryz.underlying302, Ty.sz302, Ty.by302, Ty.ag302, Ty.ze302, Tryz.underlying303, Ty.sz303, Ty.by303, Ty.ag303, Ty.ze303, Tryz.underlying306, Ty.sz306, Ty.by306, Ty.ag306, Ty.ze306] | skip)) | (refine ⟨fun hb => ?_, fun hb => ?_⟩ <;> first | (exfalso; omega) | skip) | fail)
      refine turn_evN ht hr 7 25 l15 (by decide) (by decide) rfl rfl ?_
      (try (first | refine Abs.EvO.nx ?_ | refine Abs.EvA.nx ?_)); repeat' (first | refine Abs.Ev.seq ?_ | refine Abs.Ev.region ?_ | refine Abs.Ev.block ?_ | refine Abs.Ev.skip ?_ | refine Abs.Ev.exit ?_ | refine Abs.Ev.ret ?_ | refine Abs.Ev.runNil ?_ | refine Abs.Ev.stepsNil ?_ | refine Abs.Seq.go ?_ | refine Abs.Seq.off ?_ | refine Abs.Blk.here ?_ | refine Abs.Blk.go ?_ | refine Abs.Blk.off rfl ?_ | refine Abs.Blk.ret ?_ | refine Abs.Ev.label ?_ | refine Abs.Ev.scope ?_ | refine Abs.Ev.step' rfl rfl rfl ?_ | refine Abs.Ev.stepG' rfl rfl rfl rfl ?_ | refine Abs.Ev.condG' ?_ | refine Abs.Ev.goS' rfl rfl rfl rfl ?_ | refine Abs.Ev.goG' rfl rfl rfl rfl rfl ?_ | refine Abs.Ev.againS' rfl rfl rfl ?_ | refine Abs.Ev.newS' rfl rfl rfl ?_ | refine Abs.Ev.callF' rfl ?_ | refine Abs.Ev.callG' rfl rfl ?_ | refine Abs.Ev.goCall' rfl rfl ?_ | refine Abs.Body.retE rfl ?_ | refine Abs.Body.endE rfl ?_ | (refine Abs.Nx.go ?_; (first | simp (disch := first | omega | assumption) only [go_sem, g0, g2, g6, g8, t2, t7, t15, t16, hwc, v2, v7, v15, v16, tab_len, Tryz.underlying3, Ty.sz3, Ty.by3, Ty.ag3, Ty.ze3, Tryz.underlying5, Ty.sz5, Ty.by5, Ty.ag5, Ty.ze5, Tryz.underlying43, Ty.sz43, Ty.by43, Ty.ag43, Ty.ze43, Tryz.underlying97, Ty.sz97, Ty.by97, Ty.ag97, Ty.ze97, Tryz.underlying302, Ty.sz302, Ty.by302, Ty.ag302, Ty.ze302, Tryz.underlying303, Ty.sz303, Ty.by303, Ty.ag303, Ty.ze303, Tryz.underlying306, Ty.sz306, Ty.by306, Ty.ag306, Ty.ze306] | skip)) | (refine ⟨fun hb => ?_, fun hb => ?_⟩ <;> first | (exfalso; omega) | skip) | fail)
      refine turn_evN ht hr 18 14 l15 (by decide) (by decide) rfl rfl ?_
      (try (first | refine Abs.EvO.nx ?_ | refine Abs.EvA.nx ?_)); repeat' (first | refine Abs.Ev.seq ?_ | refine Abs.Ev.region ?_ | refine Abs.Ev.block ?_ | refine Abs.Ev.skip ?_ | refine Abs.Ev.exit ?_ | refine Abs.Ev.ret ?_ | refine Abs.Ev.runNil ?_ | refine Abs.Ev.stepsNil ?_ | refine Abs.Seq.go ?_ | refine Abs.Seq.off ?_ | refine Abs.Blk.here ?_ | refine Abs.Blk.go ?_ | refine Abs.Blk.off rfl ?_ | refine Abs.Blk.ret ?_ | refine Abs.Ev.label ?_ | refine Abs.Ev.scope ?_ | refine Abs.Ev.step' rfl rfl rfl ?_ | refine Abs.Ev.stepG' rfl rfl rfl rfl ?_ | refine Abs.Ev.condG' ?_ | refine Abs.Ev.goS' rfl rfl rfl rfl ?_ | refine Abs.Ev.goG' rfl rfl rfl rfl rfl ?_ | refine Abs.Ev.againS' rfl rfl rfl ?_ | refine Abs.Ev.newS' rfl rfl rfl ?_ | refine Abs.Ev.callF' rfl ?_ | refine Abs.Ev.callG' rfl rfl ?_ | refine Abs.Ev.goCall' rfl rfl ?_ | refine Abs.Body.retE rfl ?_ | refine Abs.Body.endE rfl ?_ | (refine Abs.Nx.go ?_; (first | simp (disch := first | omega | assumption) only [go_sem, g0, g2, g6, g8, t2, t7, t15, t16, hwc, v2, v7, v15, v16, tab_len, add32_eq, Tryz.underlying3, Ty.sz3, Ty.by3, Ty.ag3, Ty.ze3, Tryz.underlying5, Ty.sz5, Ty.by5, Ty.ag5, Ty.ze5, Tryz.underlying43, Ty.sz43, Ty.by43, Ty.ag43, Ty.ze43, Tryz.underlying97, Ty.sz97, Ty.by97, Ty.ag97, Ty.ze97, Tryz.underlying302, Ty.sz302, Ty.by302, Ty.ag302, Ty.ze302, Tryz.underlying303, Ty.sz303, Ty.by303, Ty.ag303, Ty.ze303, Tryz.underlying306, Ty.sz306, Ty.by306, Ty.ag306, Ty.ze306] | skip)) | (refine ⟨fun hb => ?_, fun hb => ?_⟩ <;> first | (exfalso; omega) | skip) | fail)
      refine turn_evN ht hr 17 15 l2 (by decide) (by decide) rfl rfl ?_
      (try (first | refine Abs.EvO.nx ?_ | refine Abs.EvA.nx ?_)); repeat' (first | refine Abs.Ev.seq ?_ | refine Abs.Ev.region ?_ | refine Abs.Ev.block ?_ | refine Abs.Ev.skip ?_ | refine Abs.Ev.exit ?_ | refine Abs.Ev.ret ?_ | refine Abs.Ev.runNil ?_ | refine Abs.Ev.stepsNil ?_ | refine Abs.Seq.go ?_ | refine Abs.Seq.off ?_ | refine Abs.Blk.here ?_ | refine Abs.Blk.go ?_ | refine Abs.Blk.off rfl ?_ | refine Abs.Blk.ret ?_ | refine Abs.Ev.label ?_ | refine Abs.Ev.scope ?_ | refine Abs.Ev.step' rfl rfl rfl ?_ | refine Abs.Ev.stepG' rfl rfl rfl rfl ?_ | refine Abs.Ev.condG' ?_ | refine Abs.Ev.goS' rfl rfl rfl rfl ?_ | refine Abs.Ev.goG' rfl rfl rfl rfl rfl ?_ | refine Abs.Ev.againS' rfl rfl rfl ?_ | refine Abs.Ev.newS' rfl rfl rfl ?_ | refine Abs.Ev.callF' rfl ?_ | refine Abs.Ev.callG' rfl rfl ?_ | refine Abs.Ev.goCall' rfl rfl ?_ | refine Abs.Body.retE rfl ?_ | refine Abs.Body.endE rfl ?_ | (refine Abs.Nx.go ?_; (first | simp (disch := first | omega | assumption) only [go_sem, g0, g2, g6, g8, t2, t7, t15, t16, hwc, v2, v7, v15, v16, tab_len, add32_eq, Tryz.underlying3, Ty.sz3, Ty.by3, Ty.ag3, Ty.ze3, Tryz.underlying5, Ty.sz5, Ty.by5, Ty.ag5, Ty.ze5, Tryz.underlying43, Ty.sz43, Ty.by43, Ty.ag43, Ty.ze43, Tryz.underlying97, Ty.sz97, Ty.by97, Ty.ag97, Ty.ze97, Tryz.underlying302, Ty.sz302, Ty.by302, Ty.ag302, Ty.ze302, Tryz.underlying303, Ty.sz303, Ty.by303, Ty.ag303, Ty.ze303, Tryz.underlying306, Ty.sz306, Ty.by306, Ty.ag306, Ty.ze306] | skip)) | (refine ⟨fun hb => ?_, fun hb => ?_⟩ <;> first | (exfalso; omega) | skip) | fail)
      refine turn_evN ht hr 19 13 l2 (by decide) (by decide) rfl rfl ?_
      (try (first | refine Abs.EvO.nx ?_ | refine Abs.EvA.nx ?_)); repeat' (first | refine Abs.Ev.seq ?_ | refine Abs.Ev.region ?_ | refine Abs.Ev.block ?_ | refine Abs.Ev.skip ?_ | refine Abs.Ev.exit ?_ | refine Abs.Ev.ret ?_ | refine Abs.Ev.runNil ?_ | refine Abs.Ev.stepsNil ?_ | refine Abs.Seq.go ?_ | refine Abs.Seq.off ?_ | refine Abs.Blk.here ?_ | refine Abs.Blk.go ?_ | refine Abs.Blk.off rfl ?_ | refine Abs.Blk.ret ?_ | refine Abs.Ev.label ?_ | refine Abs.Ev.scope ?_ | refine Abs.Ev.step' rfl rfl rfl ?_ | refine Abs.Ev.stepG' rfl rfl rfl rfl ?_ | refine Abs.Ev.condG' ?_ | refine Abs.Ev.goS' rfl rfl rfl rfl ?_ | refine Abs.Ev.goG' rfl rfl rfl rfl rfl ?_ | refine Abs.Ev.againS' rfl rfl rfl ?_ | refine Abs.Ev.newS' rfl rfl rfl ?_ | refine Abs.Ev.callF' rfl ?_ | refine Abs.Ev.callG' rfl rfl ?_ | refine Abs.Ev.goCall' rfl rfl ?_ | refine Abs.Body.retE rfl ?_ | refine Abs.Body.endE rfl ?_ | (refine Abs.Nx.go ?_; (first | simp (disch := first | omega | assumption) only [go_sem, g0, g2, g6, g8, t2, t7, t15, t16, hwc, v2, v7, v15, v16, tab_len, add32_eq, hx, Tryz.underlying3, Ty.sz3, Ty.by3, Ty.ag3, Ty.ze3, Tryz.underlying5, Ty.sz5, Ty.by5, Ty.ag5, Ty.ze5, Tryz.underlying43, Ty.sz43, Ty.by43, Ty.ag43, Ty.ze43, Tryz.underlying97, Ty.sz97, Ty.by97, Ty.ag97, Ty.ze97, Tryz.underlying302, Ty.sz302, Ty.by302, Ty.ag302, Ty.ze302, Tryz.underlying303, Ty.sz303, Ty.by303, Ty.ag303, Ty.ze303, Tryz.underlying306, Ty.sz306, Ty.by306, Ty.ag306, Ty.ze306] | skip)) | (refine ⟨fun hb => ?_, fun hb => ?_⟩ <;> first | (exfalso; omega) | skip) | fail)
      refine ⟨64 - (i + 1), by omega, hK.set (by omega) (by omega) hwf _, hnx, _, i + 1, fun j => if j = i then .int .u32 ((shW m i : Nat) : Int) else f j, rfl, ?_, ?_, ?_, ?_, by omega, by omega, ?_, fun j hj => ?_, rfl⟩
      · simp (disch := first | omega | assumption) only [go_sem, g0]
      · simp (disch := first | omega | assumption) only [go_sem, g2]
      · simp (disch := first | omega | assumption) only [go_sem, g6]
      · simp (disch := first | omega | assumption) only [go_sem, Int.natCast_add, Int.natCast_one]
      · show (s2.heap.set s.next _).get s.next = _
        rw [get_same, tab_set]
      · by_cases hji : j = i
        · subst hji; exact if_pos rfl
        · exact (if_neg hji).trans (hf j (by omega))
      -->
    · obtain rfl : i = 64 := by omega
      have hsb2 := hK.old _ _ hsb
      have hvl : vs.length = 8 := by rw [hnsl]; rfl
      have hc8 : cutN vs 0 8 = some vs := cut_all hvl
      have hva : vs.all oneB = true := by rw [hnsl]; rfl
      (try (first | refine Abs.EvO.nx ?_ | refine Abs.EvA.nx ?_)); repeat' (first | refine Abs.Ev.seq ?_ | refine Abs.Ev.region ?_ | refine Abs.Ev.block ?_ | refine Abs.Ev.skip ?_ | refine Abs.Ev.exit ?_ | refine Abs.Ev.ret ?_ | refine Abs.Ev.runNil ?_ | refine Abs.Ev.stepsNil ?_ | refine Abs.Seq.go ?_ | refine Abs.Seq.off ?_ | refine Abs.Blk.here ?_ | refine Abs.Blk.go ?_ | refine Abs.Blk.off rfl ?_ | refine Abs.Blk.ret ?_ | refine Abs.Ev.label ?_ | refine Abs.Ev.scope ?_ | refine Abs.Ev.step' rfl rfl rfl ?_ | refine Abs.Ev.stepG' rfl rfl rfl rfl ?_ | refine Abs.Ev.condG' ?_ | refine Abs.Ev.goS' rfl rfl rfl rfl ?_ | refine Abs.Ev.goG' rfl rfl rfl rfl rfl ?_ | refine Abs.Ev.againS' rfl rfl rfl ?_ | refine Abs.Ev.newS' rfl rfl rfl ?_ | refine Abs.Ev.callF' rfl ?_ | refine Abs.Ev.callG' rfl rfl ?_ | refine Abs.Ev.goCall' rfl rfl ?_ | refine Abs.Body.retE rfl ?_ | refine Abs.Body.endE rfl ?_ | (refine Abs.Nx.go ?_; (first | simp (disch := first | omega | assumption) only [go_sem, g0, g2, g6, g8, hsb2, hvl, hc8, hva, Tryz.underlying3, Ty.sz3, Ty.by3, Ty.ag3, Ty.ze3, Tryz.underlying5, Ty.sz5, Ty.by5, Ty.ag5, Ty.ze5, Tryz.underlying43, Ty.sz43, Ty.by43, Ty.ag43, Ty.ze43, Tryz.underlying97, Ty.sz97, Ty.by97, Ty.ag97, Ty.ze97, Tryz.underlying302, Ty.sz302, Ty.by302, Ty.ag302, Ty.ze302, Tryz.underlying303, Ty.sz303, Ty.by303, Ty.ag303, Ty.ze303, Tryz.underlying306, Ty.sz306, Ty.by306, Ty.ag306, Ty.ze306] | skip)) | (refine ⟨fun hb => ?_, fun hb => ?_⟩ <;> first | (exfalso; omega) | skip) | fail)
      have hK3 := (hK.new (.cells [.int .u32 0, .int .u32 0, .int .u32 0, .int .u32 0, .int .u32 0, .int .u32 0, .int .u32 0, .int .u32 0] 306 0 false (0, 0))).set (b := s2.next) (by omega) (Nat.lt_succ_self _) hwf (.cells vs 306 0 false (0, 0))
      have hokv : v8.ok := ⟨hnlt _ (by simp [V8.list]), hnlt _ (by simp [V8.list]), hnlt _ (by simp [V8.list]), hnlt _ (by simp [V8.list]), hnlt _ (by simp [V8.list]), hnlt _ (by simp [V8.list]), hnlt _ (by simp [V8.list]), hnlt _ (by simp [V8.list])⟩
      generalize hR : shV m ks 0 v8 = R at *
      -- the rounds
      refine Ev.loop (fun k a s' => Keep s s' ∧ s'.next = s.next + 2 ∧ ∃ T i v, a = ⟨T, 199, []⟩ ∧ T.get 0 = some (.pointer (some ⟨sb, 0, none⟩)) ∧ T.get 2 = some (.pointer (some ⟨kb, 0, none⟩)) ∧ T.get 6 = some (.pointer (some ⟨s.next, 0, none⟩)) ∧ T.get 11 = some (.pointer (some ⟨s.next + 1, 0, none⟩)) ∧ T.get 102 = some (.int .i64 ((i : Nat) : Int)) ∧ i ≤ 64 ∧ s'.heap.get s.next = some (.cells (tab 64 f) 303 0 false (0, 0)) ∧ s'.heap.get (s.next + 1) = some (.cells (v.list.map fun x => .int .u32 ((x : Nat) : Int)) 306 0 false (0, 0)) ∧ v.ok ∧ shV m (ks.drop i) i v = R ∧ k = 64 - i) (k := 64)
        ⟨hK3, by show s2.next + 1 = _; omega, _, 0, v8, rfl, ?g0, ?g2, ?g6, ?g11, ?g102, by omega, ?gw, ?gv, hokv, hR, rfl⟩ ?_
      case g0 => simp (disch := first | omega | assumption) only [go_sem, g0]
      case g2 => simp (disch := first | omega | assumption) only [go_sem, g2]
      case g6 => simp (disch := first | omega | assumption) only [go_sem, g6]
      case g11 => simp (disch := first | omega | assumption) only [go_sem, hnx]
      case g102 => simp (disch := first | omega | assumption) only [go_sem, ]; rfl
      case gw => rw [get_other _ _ _ _ (by omega), get_other _ _ _ _ (by omega)]; exact hwc
      case gv => rw [← hnsl, hnx]; exact get_same _ _ _
      clear hK3 g0 g2 g6 g8 hsb2 hc8 hva hwc hnx hK hi hi0 hR T s2
      rintro n1 a s3 ⟨hK, hnx, T, i, v0, rfl, g0, g2, g6, g11, g102, hi, hwc, hvc, hok, hgo, rfl⟩
      (try (first | refine Abs.EvO.nx ?_ | refine Abs.EvA.nx ?_)); repeat' (first | refine Abs.Ev.seq ?_ | refine Abs.Ev.region ?_ | refine Abs.Ev.block ?_ | refine Abs.Ev.skip ?_ | refine Abs.Ev.exit ?_ | refine Abs.Ev.ret ?_ | refine Abs.Ev.runNil ?_ | refine Abs.Ev.stepsNil ?_ | refine Abs.Seq.go ?_ | refine Abs.Seq.off ?_ | refine Abs.Blk.here ?_ | refine Abs.Blk.go ?_ | refine Abs.Blk.off rfl ?_ | refine Abs.Blk.ret ?_ | refine Abs.Ev.label ?_ | refine Abs.Ev.scope ?_ | refine Abs.Ev.step' rfl rfl rfl ?_ | refine Abs.Ev.stepG' rfl rfl rfl rfl ?_ | refine Abs.Ev.condG' ?_ | refine Abs.Ev.goS' rfl rfl rfl rfl ?_ | refine Abs.Ev.goG' rfl rfl rfl rfl rfl ?_ | refine Abs.Ev.againS' rfl rfl rfl ?_ | refine Abs.Ev.newS' rfl rfl rfl ?_ | refine Abs.Ev.callF' rfl ?_ | refine Abs.Ev.callG' rfl rfl ?_ | refine Abs.Ev.goCall' rfl rfl ?_ | refine Abs.Body.retE rfl ?_ | refine Abs.Body.endE rfl ?_ | (refine Abs.Nx.go ?_; (first | simp (disch := first | omega | assumption) only [go_sem, g0, g2, g6, g11, g102] | skip)) | (refine ⟨fun hb => ?_, fun hb => ?_⟩ <;> first | (exfalso; omega) | skip) | fail)
      · have hi64 : i < 64 := by omega
        --<
        have hd : ks.drop i = ks[i]'(by omega) :: ks.drop (i + 1) := List.drop_eq_getElem_cons (by omega)
        have hkc' : objCells (s3.heap.get kb) = .ok kc := by
          cases hb : s.heap.get kb with
          | none => rw [hb] at hkc; cases hkc
          | some x => rw [hK.old _ _ hb, ← hb]; exact hkc
        have hkv := hk i hi64
        have hkl := hklt _ (List.getElem_mem (show i < ks.length by omega))
        rw [hd] at hgo
        generalize ks[i]'(by omega) = kk at *
        have hwv : (tab 64 f)[i]? = some (.int .u32 ((shW m i : Nat) : Int)) := by rw [tab_get hi64, hf _ hi64]
        have hwl := hmlt i
        have hgo : shV m (ks.drop (i + 1)) (i + 1) (shStep kk (shW m i) v0) = R := hgo
        generalize shW m i = w at *
        obtain ⟨va, vb, vc, vd, ve, vf, vg, vh⟩ := v0
        obtain ⟨la, lb, lc, ld, le, lf, lg, lh⟩ := hok
        simp only [V8.list, List.map_cons, List.map_nil] at hvc la lb lc ld le lf lg lh
        have r1 := rr_lt (n := 6) (m := 26) le
        have r2 := rr_lt (n := 11) (m := 21) le
        have r3 := rr_lt (n := 25) (m := 7) le
        have r4 := xor32_lt r1 r2
        have r5 := xor32_lt r4 r3
        have u1 := and32_lt (y := vf) le
        have u2 := xor32_lt (x := 4294967295) (by decide) le
        have u3 := and32_lt (y := vg) u2
        have u4 := xor32_lt u1 u3
        refine Abs.Ev.regionD (n := 0) (l := [.go 0, .go 1, .go 2, .go 3, .go 4, .go 5]) (by kernel_rfl) ?_
        (try (first | refine Abs.EvO.nx ?_ | refine Abs.EvA.nx ?_)); repeat' (first | refine Abs.Ev.seq ?_ | refine Abs.Ev.region ?_ | refine Abs.Ev.block ?_ | refine Abs.Ev.skip ?_ | refine Abs.Ev.exit ?_ | refine Abs.Ev.ret ?_ | refine Abs.Ev.runNil ?_ | refine Abs.Ev.stepsNil ?_ | refine Abs.Seq.go ?_ | refine Abs.Seq.off ?_ | refine Abs.Blk.here ?_ | refine Abs.Blk.go ?_ | refine Abs.Blk.off rfl ?_ | refine Abs.Blk.ret ?_ | refine Abs.Ev.label ?_ | refine Abs.Ev.scope ?_ | refine Abs.Ev.step' rfl rfl rfl ?_ | refine Abs.Ev.stepG' rfl rfl rfl rfl ?_ | refine Abs.Ev.condG' ?_ | refine Abs.Ev.goS' rfl rfl rfl rfl ?_ | refine Abs.Ev.goG' rfl rfl rfl rfl rfl ?_ | refine Abs.Ev.againS' rfl rfl rfl ?_ | refine Abs.Ev.newS' rfl rfl rfl ?_ | refine Abs.Ev.callF' rfl ?_ | refine Abs.Ev.callG' rfl rfl ?_ | refine Abs.Ev.goCall' rfl rfl ?_ | refine Abs.Body.retE rfl ?_ | refine Abs.Body.endE rfl ?_ | (refine Abs.Nx.go ?_; (first | simp (disch := first | omega | assumption) only [go_sem, g0, g2, g6, g11, g102, hvc, Tryz.underlying3, Ty.sz3, Ty.by3, Ty.ag3, Ty.ze3, Tryz.underlying5, Ty.sz5, Ty.by5, Ty.ag5, Ty.ze5, Tryz.underlying43, Ty.sz43, Ty.by43, Ty.ag43, Ty.ze43, Tryz.underlying97, Ty.sz97, Ty.by97, Ty.ag97, Ty.ze97, Tryz.underlying302, Ty.sz302, Ty.by302, Ty.ag302, Ty.ze302, Tryz.underlying303, Ty.sz303, Ty.by303, Ty.ag303, Ty.ze303, Tryz.underlying306, Ty.sz306, Ty.by306, Ty.ag306, Ty.ze306] | skip)) | (refine ⟨fun hb => ?_, fun hb => ?_⟩ <;> first | (exfalso; omega) | skip) | fail)
        refine Abs.Ev.regionD (n := 0) (l := [.go 0, .go 1, .go 2, .go 4, .go 7, .go 11, .go 12, .go 13, .go 14, .go 15, .go 16, .go 17, .go 18, .go 19, .go 20, .go 22, .go 23, .go 24, .go 25, .go 26, .go 28, .go 29, .go 30, .go 3, .again 1, .again 13, .again 18, .again 26, .again 30, .go 5, .again 1, .go 6, .again 13, .again 18, .again 26, .again 30, .go 8, .again 1, .go 9, .go 10, .again 13, .again 18, .go 21, .again 26, .go 27, .again 30, .go 31, .go 32]) (by kernel_rfl) ?_
        (try (first | refine Abs.EvO.nx ?_ | refine Abs.EvA.nx ?_)); repeat' (first | refine Abs.Ev.seq ?_ | refine Abs.Ev.region ?_ | refine Abs.Ev.block ?_ | refine Abs.Ev.skip ?_ | refine Abs.Ev.exit ?_ | refine Abs.Ev.ret ?_ | refine Abs.Ev.runNil ?_ | refine Abs.Ev.stepsNil ?_ | refine Abs.Seq.go ?_ | refine Abs.Seq.off ?_ | refine Abs.Blk.here ?_ | refine Abs.Blk.go ?_ | refine Abs.Blk.off rfl ?_ | refine Abs.Blk.ret ?_ | refine Abs.Ev.label ?_ | refine Abs.Ev.scope ?_ | refine Abs.Ev.step' rfl rfl rfl ?_ | refine Abs.Ev.stepG' rfl rfl rfl rfl ?_ | refine Abs.Ev.condG' ?_ | refine Abs.Ev.goS' rfl rfl rfl rfl ?_ | refine Abs.Ev.goG' rfl rfl rfl rfl rfl ?_ | refine Abs.Ev.againS' rfl rfl rfl ?_ | refine Abs.Ev.newS' rfl rfl rfl ?_ | refine Abs.Ev.callF' rfl ?_ | refine Abs.Ev.callG' rfl rfl ?_ | refine Abs.Ev.goCall' rfl rfl ?_ | refine Abs.Body.retE rfl ?_ | refine Abs.Body.endE rfl ?_ | (refine Abs.Nx.go ?_; (first | simp (disch := first | omega | assumption) only [go_sem, g0, g2, g6, g11, g102, hvc, hwc, hkc', hkv, hwv, tab_len, add32_eq, Tryz.underlying3, Ty.sz3, Ty.by3, Ty.ag3, Ty.ze3, Tryz.underlying5, Ty.sz5, Ty.by5, Ty.ag5, Ty.ze5, Tryz.underlying43, Ty.sz43, Ty.by43, Ty.ag43, Ty.ze43, Tryz.underlying97, Ty.sz97, Ty.by97, Ty.ag97, Ty.ze97, Tryz.underlying302, Ty.sz302, Ty.by302, Ty.ag302, Ty.ze302, Tryz.underlying303, Ty.sz303, Ty.by303, Ty.ag303, Ty.ze303, Tryz.underlying306, Ty.sz306, Ty.by306, Ty.ag306, Ty.ze306] | skip)) | (refine ⟨fun hb => ?_, fun hb => ?_⟩ <;> first | (exfalso; omega) | skip) | fail)
        refine turn_evN ht hr 6 26 le (by decide) (by decide) rfl rfl ?_
        (try (first | refine Abs.EvO.nx ?_ | refine Abs.EvA.nx ?_)); repeat' (first | refine Abs.Ev.seq ?_ | refine Abs.Ev.region ?_ | refine Abs.Ev.block ?_ | refine Abs.Ev.skip ?_ | refine Abs.Ev.exit ?_ | refine Abs.Ev.ret ?_ | refine Abs.Ev.runNil ?_ | refine Abs.Ev.stepsNil ?_ | refine Abs.Seq.go ?_ | refine Abs.Seq.off ?_ | refine Abs.Blk.here ?_ | refine Abs.Blk.go ?_ | refine Abs.Blk.off rfl ?_ | refine Abs.Blk.ret ?_ | refine Abs.Ev.label ?_ | refine Abs.Ev.scope ?_ | refine Abs.Ev.step' rfl rfl rfl ?_ | refine Abs.Ev.stepG' rfl rfl rfl rfl ?_ | refine Abs.Ev.condG' ?_ | refine Abs.Ev.goS' rfl rfl rfl rfl ?_ | refine Abs.Ev.goG' rfl rfl rfl rfl rfl ?_ | refine Abs.Ev.againS' rfl rfl rfl ?_ | refine Abs.Ev.newS' rfl rfl rfl ?_ | refine Abs.Ev.callF' rfl ?_ | refine Abs.Ev.callG' rfl rfl ?_ | refine Abs.Ev.goCall' rfl rfl ?_ | refine Abs.Body.retE rfl ?_ | refine Abs.Body.endE rfl ?_ | (refine Abs.Nx.go ?_; (first | simp (disch := first | omega | assumption) only [go_sem, g0, g2, g6, g11, g102, hvc, hwc, hkc', hkv, hwv, tab_len, add32_eq, Tryz.underlying3, Ty.sz3, Ty.by3, Ty.ag3, Ty.ze3, Tryz.underlying5, Ty.sz5, Ty.by5, Ty.ag5, Ty.ze5, Tryz.underlying43, Ty.sz43, Ty.by43, Ty.ag43, Ty.ze43, Tryz.underlying97, Ty.sz97, Ty.by97, Ty.ag97, Ty.ze97, Tryz.underlying302, Ty.sz302, Ty.by302, Ty.ag302, Ty.ze302, Tryz.underlying303, Ty.sz303, Ty.by303, Ty.ag303, Ty.ze303, Tryz.underlying306, Ty.sz306, Ty.by306, Ty.ag306, Ty.ze306] | skip)) | (refine ⟨fun hb => ?_, fun hb => ?_⟩ <;> first | (exfalso; omega) | skip) | fail)
        refine turn_evN ht hr 11 21 le (by decide) (by decide) rfl rfl ?_
        (try (first | refine Abs.EvO.nx ?_ | refine Abs.EvA.nx ?_)); repeat' (first | refine Abs.Ev.seq ?_ | refine Abs.Ev.region ?_ | refine Abs.Ev.block ?_ | refine Abs.Ev.skip ?_ | refine Abs.Ev.exit ?_ | refine Abs.Ev.ret ?_ | refine Abs.Ev.runNil ?_ | refine Abs.Ev.stepsNil ?_ | refine Abs.Seq.go ?_ | refine Abs.Seq.off ?_ | refine Abs.Blk.here ?_ | refine Abs.Blk.go ?_ | refine Abs.Blk.off rfl ?_ | refine Abs.Blk.ret ?_ | refine Abs.Ev.label ?_ | refine Abs.Ev.scope ?_ | refine Abs.Ev.step' rfl rfl rfl ?_ | refine Abs.Ev.stepG' rfl rfl rfl rfl ?_ | refine Abs.Ev.condG' ?_ | refine Abs.Ev.goS' rfl rfl rfl rfl ?_ | refine Abs.Ev.goG' rfl rfl rfl rfl rfl ?_ | refine Abs.Ev.againS' rfl rfl rfl ?_ | refine Abs.Ev.newS' rfl rfl rfl ?_ | refine Abs.Ev.callF' rfl ?_ | refine Abs.Ev.callG' rfl rfl ?_ | refine Abs.Ev.goCall' rfl rfl ?_ | refine Abs.Body.retE rfl ?_ | refine Abs.Body.endE rfl ?_ | (refine Abs.Nx.go ?_; (first | simp (disch := first | omega | assumption) only [go_sem, g0, g2, g6, g11, g102, hvc, hwc, hkc', hkv, hwv, tab_len, add32_eq, Tryz.underlying3, Ty.sz3, Ty.by3, Ty.ag3, Ty.ze3, Tryz.underlying5, Ty.sz5, Ty.by5, Ty.ag5, Ty.ze5, Tryz.underlying43, Ty.sz43, Ty.by43, Ty.ag43, Ty.ze43, Tryz.underlying97, Ty.sz97, Ty.by97, Ty.ag97, Ty.ze97, Tryz.underlying302, Ty.sz302, Ty.by302, Ty.ag302, Ty.ze302, Tryz.underlying303, Ty.sz303, Ty.by303, Ty.ag303, Ty.ze303, Tryz.underlying306, Ty.sz306, Ty.by306, Ty.ag306, Ty.ze306] | skip)) | (refine ⟨fun hb => ?_, fun hb => ?_⟩ <;> first | (exfalso; omega) | skip) | fail)
        refine turn_evN ht hr 25 7 le (by decide) (by decide) rfl rfl ?_
        (try (first | refine Abs.EvO.nx ?_ | refine Abs.EvA.nx ?_)); repeat' (first | refine Abs.Ev.seq ?_ | refine Abs.Ev.region ?_ | refine Abs.Ev.block ?_ | refine Abs.Ev.skip ?_ | refine Abs.Ev.exit ?_ | refine Abs.Ev.ret ?_ | refine Abs.Ev.runNil ?_ | refine Abs.Ev.stepsNil ?_ | refine Abs.Seq.go ?_ | refine Abs.Seq.off ?_ | refine Abs.Blk.here ?_ | refine Abs.Blk.go ?_ | refine Abs.Blk.off rfl ?_ | refine Abs.Blk.ret ?_ | refine Abs.Ev.label ?_ | refine Abs.Ev.scope ?_ | refine Abs.Ev.step' rfl rfl rfl ?_ | refine Abs.Ev.stepG' rfl rfl rfl rfl ?_ | refine Abs.Ev.condG' ?_ | refine Abs.Ev.goS' rfl rfl rfl rfl ?_ | refine Abs.Ev.goG' rfl rfl rfl rfl rfl ?_ | refine Abs.Ev.againS' rfl rfl rfl ?_ | refine Abs.Ev.newS' rfl rfl rfl ?_ | refine Abs.Ev.callF' rfl ?_ | refine Abs.Ev.callG' rfl rfl ?_ | refine Abs.Ev.goCall' rfl rfl ?_ | refine Abs.Body.retE rfl ?_ | refine Abs.Body.endE rfl ?_ | (refine Abs.Nx.go ?_; (first | simp (disch := first | omega | assumption) only [go_sem, g0, g2, g6, g11, g102, hvc, hwc, hkc', hkv, hwv, tab_len, add32_eq, Tryz.underlying3, Ty.sz3, Ty.by3, Ty.ag3, Ty.ze3, Tryz.underlying5, Ty.sz5, Ty.by5, Ty.ag5, Ty.ze5, Tryz.underlying43, Ty.sz43, Ty.by43, Ty.ag43, Ty.ze43, Tryz.underlying97, Ty.sz97, Ty.by97, Ty.ag97, Ty.ze97, Tryz.underlying302, Ty.sz302, Ty.by302, Ty.ag302, Ty.ze302, Tryz.underlying303, Ty.sz303, Ty.by303, Ty.ag303, Ty.ze303, Tryz.underlying306, Ty.sz306, Ty.by306, Ty.ag306, Ty.ze306] | skip)) | (refine ⟨fun hb => ?_, fun hb => ?_⟩ <;> first | (exfalso; omega) | skip) | fail)
        have t1 := rr_lt (n := 2) (m := 30) la
        have t2 := rr_lt (n := 13) (m := 19) la
        have t3 := rr_lt (n := 22) (m := 10) la
        have t4 := xor32_lt t1 t2
        have t5 := xor32_lt t4 t3
        have w1 := and32_lt (y := vb) la
        have w2 := and32_lt (y := vc) la
        have w3 := xor32_lt w1 w2
        have w4 := and32_lt (y := vc) lb
        have w5 := xor32_lt w3 w4
        refine Abs.Ev.regionD (n := 0) (l := [.go 0, .go 2, .go 5, .go 8, .go 9, .go 10, .go 11, .go 12, .go 13, .go 14, .go 15, .go 16, .go 17, .go 18, .go 19, .go 20, .go 21, .go 22, .go 1, .again 10, .again 14, .again 18, .again 20, .go 3, .go 4, .again 10, .again 14, .again 18, .again 20, .go 6, .go 7, .again 10, .again 14, .again 18, .again 20, .go 23, .go 24]) (by kernel_rfl) ?_
        (try (first | refine Abs.EvO.nx ?_ | refine Abs.EvA.nx ?_)); repeat' (first | refine Abs.Ev.seq ?_ | refine Abs.Ev.region ?_ | refine Abs.Ev.block ?_ | refine Abs.Ev.skip ?_ | refine Abs.Ev.exit ?_ | refine Abs.Ev.ret ?_ | refine Abs.Ev.runNil ?_ | refine Abs.Ev.stepsNil ?_ | refine Abs.Seq.go ?_ | refine Abs.Seq.off ?_ | refine Abs.Blk.here ?_ | refine Abs.Blk.go ?_ | refine Abs.Blk.off rfl ?_ | refine Abs.Blk.ret ?_ | refine Abs.Ev.label ?_ | refine Abs.Ev.scope ?_ | refine Abs.Ev.step' rfl rfl rfl ?_ | refine Abs.Ev.stepG' rfl rfl rfl rfl ?_ | refine Abs.Ev.condG' ?_ | refine Abs.Ev.goS' rfl rfl rfl rfl ?_ | refine Abs.Ev.goG' rfl rfl rfl rfl rfl ?_ | refine Abs.Ev.againS' rfl rfl rfl ?_ | refine Abs.Ev.newS' rfl rfl rfl ?_ | refine Abs.Ev.callF' rfl ?_ | refine Abs.Ev.callG' rfl rfl ?_ | refine Abs.Ev.goCall' rfl rfl ?_ | refine Abs.Body.retE rfl ?_ | refine Abs.Body.endE rfl ?_ | (refine Abs.Nx.go ?_; (first | simp (disch := first | omega | assumption) only [go_sem, g0, g2, g6, g11, g102, hvc, hwc, hkc', hkv, hwv, tab_len, add32_eq, Tryz.underlying3, Ty.sz3, Ty.by3, Ty.ag3, Ty.ze3, Tryz.underlying5, Ty.sz5, Ty.by5, Ty.ag5, Ty.ze5, Tryz.underlying43, Ty.sz43, Ty.by43, Ty.ag43, Ty.ze43, Tryz.underlying97, Ty.sz97, Ty.by97, Ty.ag97, Ty.ze97, Tryz.underlying302, Ty.sz302, Ty.by302, Ty.ag302, Ty.ze302, Tryz.underlying303, Ty.sz303, Ty.by303, Ty.ag303, Ty.ze303, Tryz.underlying306, Ty.sz306, Ty.by306, Ty.ag306, Ty.ze306] | skip)) | (refine ⟨fun hb => ?_, fun hb => ?_⟩ <;> first | (exfalso; omega) | skip) | fail)
        refine turn_evN ht hr 2 30 la (by decide) (by decide) rfl rfl ?_
        (try (first | refine Abs.EvO.nx ?_ | refine Abs.EvA.nx ?_)); repeat' (first | refine Abs.Ev.seq ?_ | refine Abs.Ev.region ?_ | refine Abs.Ev.block ?_ | refine Abs.Ev.skip ?_ | refine Abs.Ev.exit ?_ | refine Abs.Ev.ret ?_ | refine Abs.Ev.runNil ?_ | refine Abs.Ev.stepsNil ?_ | refine Abs.Seq.go ?_ | refine Abs.Seq.off ?_ | refine Abs.Blk.here ?_ | refine Abs.Blk.go ?_ | refine Abs.Blk.off rfl ?_ | refine Abs.Blk.ret ?_ | refine Abs.Ev.label ?_ | refine Abs.Ev.scope ?_ | refine Abs.Ev.step' rfl rfl rfl ?_ | refine Abs.Ev.stepG' rfl rfl rfl rfl ?_ | refine Abs.Ev.condG' ?_ | refine Abs.Ev.goS' rfl rfl rfl rfl ?_ | refine Abs.Ev.goG' rfl rfl rfl rfl rfl ?_ | refine Abs.Ev.againS' rfl rfl rfl ?_ | refine Abs.Ev.newS' rfl rfl rfl ?_ | refine Abs.Ev.callF' rfl ?_ | refine Abs.Ev.callG' rfl rfl ?_ | refine Abs.Ev.goCall' rfl rfl ?_ | refine Abs.Body.retE rfl ?_ | refine Abs.Body.endE rfl ?_ | (refine Abs.Nx.go ?_; (first | simp (disch := first | omega | assumption) only [go_sem, g0, g2, g6, g11, g102, hvc, hwc, hkc', hkv, hwv, tab_len, add32_eq, Tryz.underlying3, Ty.sz3, Ty.by3, Ty.ag3, Ty.ze3, Tryz.underlying5, Ty.sz5, Ty.by5, Ty.ag5, Ty.ze5, Tryz.underlying43, Ty.sz43, Ty.by43, Ty.ag43, Ty.ze43, Tryz.underlying97, Ty.sz97, Ty.by97, Ty.ag97, Ty.ze97, Tryz.underlying302, Ty.sz302, Ty.by302, Ty.ag302, Ty.ze302, Tryz.underlying303, Ty.sz303, Ty.by303, Ty.ag303, Ty.ze303, Tryz.underlying306, Ty.sz306, Ty.by306, Ty.ag306, Ty.ze306] | skip)) | (refine ⟨fun hb => ?_, fun hb => ?_⟩ <;> first | (exfalso; omega) | skip) | fail)
        refine turn_evN ht hr 13 19 la (by decide) (by decide) rfl rfl ?_
        (try (first | refine Abs.EvO.nx ?_ | refine Abs.EvA.nx ?_)); repeat' (first | refine Abs.Ev.seq ?_ | refine Abs.Ev.region ?_ | refine Abs.Ev.block ?_ | refine Abs.Ev.skip ?_ | refine Abs.Ev.exit ?_ | refine Abs.Ev.ret ?_ | refine Abs.Ev.runNil ?_ | refine Abs.Ev.stepsNil ?_ | refine Abs.Seq.go ?_ | refine Abs.Seq.off ?_ | refine Abs.Blk.here ?_ | refine Abs.Blk.go ?_ | refine Abs.Blk.off rfl ?_ | refine Abs.Blk.ret ?_ | refine Abs.Ev.label ?_ | refine Abs.Ev.scope ?_ | refine Abs.Ev.step' rfl rfl rfl ?_ | refine Abs.Ev.stepG' rfl rfl rfl rfl ?_ | refine Abs.Ev.condG' ?_ | refine Abs.Ev.goS' rfl rfl rfl rfl ?_ | refine Abs.Ev.goG' rfl rfl rfl rfl rfl ?_ | refine Abs.Ev.againS' rfl rfl rfl ?_ | refine Abs.Ev.newS' rfl rfl rfl ?_ | refine Abs.Ev.callF' rfl ?_ | refine Abs.Ev.callG' rfl rfl ?_ | refine Abs.Ev.goCall' rfl rfl ?_ | refine Abs.Body.retE rfl ?_ | refine Abs.Body.endE rfl ?_ | (refine Abs.Nx.go ?_; (first | simp (disch := first | omega | assumption) only [go_sem, g0, g2, g6, g11, g102, hvc, hwc, hkc', hkv, hwv, tab_len, add32_eq, Tryz.underlying3, Ty.sz3, Ty.by3, Ty.ag3, Ty.ze3, Tryz.underlying5, Ty.sz5, Ty.by5, Ty.ag5, Ty.ze5, Tryz.underlying43, Ty.sz43, Ty.by43, Ty.ag43, Ty.ze43, Tryz.underlying97, Ty.sz97, Ty.by97, Ty.ag97, Ty.ze97, Tryz.underlying302, Ty.sz302, Ty.by302, Ty.ag302, Ty.ze302, Tryz.underlying303, Ty.sz303, Ty.by303, Ty.ag303, Ty.ze303, Tryz.underlying306, Ty.sz306, Ty.by306, Ty.ag306, Ty.ze306] | skip)) | (refine ⟨fun hb => ?_, fun hb => ?_⟩ <;> first | (exfalso; omega) | skip) | fail)
        refine turn_evN ht hr 22 10 la (by decide) (by decide) rfl rfl ?_
        (try (first | refine Abs.EvO.nx ?_ | refine Abs.EvA.nx ?_)); repeat' (first | refine Abs.Ev.seq ?_ | refine Abs.Ev.region ?_ | refine Abs.Ev.block ?_ | refine Abs.Ev.skip ?_ | refine Abs.Ev.exit ?_ | refine Abs.Ev.ret ?_ | refine Abs.Ev.runNil ?_ | refine Abs.Ev.stepsNil ?_ | refine Abs.Seq.go ?_ | refine Abs.Seq.off ?_ | refine Abs.Blk.here ?_ | refine Abs.Blk.go ?_ | refine Abs.Blk.off rfl ?_ | refine Abs.Blk.ret ?_ | refine Abs.Ev.label ?_ | refine Abs.Ev.scope ?_ | refine Abs.Ev.step' rfl rfl rfl ?_ | refine Abs.Ev.stepG' rfl rfl rfl rfl ?_ | refine Abs.Ev.condG' ?_ | refine Abs.Ev.goS' rfl rfl rfl rfl ?_ | refine Abs.Ev.goG' rfl rfl rfl rfl rfl ?_ | refine Abs.Ev.againS' rfl rfl rfl ?_ | refine Abs.Ev.newS' rfl rfl rfl ?_ | refine Abs.Ev.callF' rfl ?_ | refine Abs.Ev.callG' rfl rfl ?_ | refine Abs.Ev.goCall' rfl rfl ?_ | refine Abs.Body.retE rfl ?_ | refine Abs.Body.endE rfl ?_ | (refine Abs.Nx.go ?_; (first | simp (disch := first | omega | assumption) only [go_sem, g0, g2, g6, g11, g102, hvc, hwc, hkc', hkv, hwv, tab_len, add32_eq, build8, pBuild, List.drop_nil, Tryz.underlying3, Ty.sz3, Ty.by3, Ty.ag3, Ty.ze3, Tryz.underlying5, Ty.sz5, Ty.by5, Ty.ag5, Ty.ze5, Tryz.underlying43, Ty.sz43, Ty.by43, Ty.ag43, Ty.ze43, Tryz.underlying97, Ty.sz97, Ty.by97, Ty.ag97, Ty.ze97, Tryz.underlying302, Ty.sz302, Ty.by302, Ty.ag302, Ty.ze302, Tryz.underlying303, Ty.sz303, Ty.by303, Ty.ag303, Ty.ze303, Tryz.underlying306, Ty.sz306, Ty.by306, Ty.ag306, Ty.ze306] | skip)) | (refine ⟨fun hb => ?_, fun hb => ?_⟩ <;> first | (exfalso; omega) | skip) | fail)
        refine ⟨64 - (i + 1), by omega, hK.set (b := s.next + 1) (by omega) (by omega) hwf _, hnx, _, i + 1, shStep kk w ⟨va, vb, vc, vd, ve, vf, vg, vh⟩, rfl, ?_, ?_, ?_, ?_, ?_, by omega, ?_, ?_, shStep_ok ⟨la, lb, lc, ld, le, lf, lg, lh⟩, hgo, rfl⟩
        · simp (disch := first | omega | assumption) only [go_sem, g0]
        · simp (disch := first | omega | assumption) only [go_sem, g2]
        · simp (disch := first | omega | assumption) only [go_sem, g6]
        · simp (disch := first | omega | assumption) only [go_sem, g11]
        · simp (disch := first | omega | assumption) only [go_sem, Int.natCast_add, Int.natCast_one]
        · first
          | (rw [get_other _ _ _ _ (by show s.next ≠ s.next + 1; omega)]; exact hwc)
          | simp (disch := first | omega | assumption) only [go_sem, hwc]
        · exact get_same _ _ _
        -->
      · obtain rfl : i = 64 := by omega
        have hgo : shV m (ks.drop 64) 64 v0 = R := hgo
        rw [List.drop_of_length_le (by omega)] at hgo
        obtain rfl : v0 = R := hgo
        have hsb3 := hK.old _ _ hsb
        have hold : ∀ b x, b ≠ sb → s.heap.get b = some x → s3.heap.get b = some x := fun b x _ h => hK.old b x h
        have hwf3 := hK.wf
        have hnx3 := Nat.le_of_eq hnx
        clear hK hok hwc hf hmlt hk hklt hkc hkb hnlt hmlt0 hsb g2 g6 hksl hk64
        obtain ⟨va, vb, vc, vd, ve, vf, vg, vh⟩ := v0
        obtain ⟨na, nb, nc, nd, ne, nf, ng, nh⟩ := v8
        subst hnsl
        rw [addAll_eq] at k6
        simp only [V8.list, List.map_cons, List.map_nil, List.zipWith_cons_cons, List.zipWith_nil_left] at hvc hsb3 k6
        generalize s.next + 1 = vp at *
        (try (first | refine Abs.EvO.nx ?_ | refine Abs.EvA.nx ?_)); repeat' (first | refine Abs.Ev.seq ?_ | refine Abs.Ev.region ?_ | refine Abs.Ev.block ?_ | refine Abs.Ev.skip ?_ | refine Abs.Ev.exit ?_ | refine Abs.Ev.ret ?_ | refine Abs.Ev.runNil ?_ | refine Abs.Ev.stepsNil ?_ | refine Abs.Seq.go ?_ | refine Abs.Seq.off ?_ | refine Abs.Blk.here ?_ | refine Abs.Blk.go ?_ | refine Abs.Blk.off rfl ?_ | refine Abs.Blk.ret ?_ | refine Abs.Ev.label ?_ | refine Abs.Ev.scope ?_ | refine Abs.Ev.step' rfl rfl rfl ?_ | refine Abs.Ev.stepG' rfl rfl rfl rfl ?_ | refine Abs.Ev.condG' ?_ | refine Abs.Ev.goS' rfl rfl rfl rfl ?_ | refine Abs.Ev.goG' rfl rfl rfl rfl rfl ?_ | refine Abs.Ev.againS' rfl rfl rfl ?_ | refine Abs.Ev.newS' rfl rfl rfl ?_ | refine Abs.Ev.callF' rfl ?_ | refine Abs.Ev.callG' rfl rfl ?_ | refine Abs.Ev.goCall' rfl rfl ?_ | refine Abs.Body.retE rfl ?_ | refine Abs.Body.endE rfl ?_ | (refine Abs.Nx.go ?_; (first | simp (disch := first | omega | assumption) only [go_sem, g0, g11, g102, hvc, hsb3, cut_eight, Tryz.underlying3, Ty.sz3, Ty.by3, Ty.ag3, Ty.ze3, Tryz.underlying5, Ty.sz5, Ty.by5, Ty.ag5, Ty.ze5, Tryz.underlying43, Ty.sz43, Ty.by43, Ty.ag43, Ty.ze43, Tryz.underlying97, Ty.sz97, Ty.by97, Ty.ag97, Ty.ze97, Tryz.underlying302, Ty.sz302, Ty.by302, Ty.ag302, Ty.ze302, Tryz.underlying303, Ty.sz303, Ty.by303, Ty.ag303, Ty.ze303, Tryz.underlying306, Ty.sz306, Ty.by306, Ty.ag306, Ty.ze306] | skip)) | (refine ⟨fun hb => ?_, fun hb => ?_⟩ <;> first | (exfalso; omega) | skip) | fail)
        iterate 8 (
          refine Ev.unroll ?_
          (try (first | refine Abs.EvO.nx ?_ | refine Abs.EvA.nx ?_)); repeat' (first | refine Abs.Ev.seq ?_ | refine Abs.Ev.region ?_ | refine Abs.Ev.block ?_ | refine Abs.Ev.skip ?_ | refine Abs.Ev.exit ?_ | refine Abs.Ev.ret ?_ | refine Abs.Ev.runNil ?_ | refine Abs.Ev.stepsNil ?_ | refine Abs.Seq.go ?_ | refine Abs.Seq.off ?_ | refine Abs.Blk.here ?_ | refine Abs.Blk.go ?_ | refine Abs.Blk.off rfl ?_ | refine Abs.Blk.ret ?_ | refine Abs.Ev.label ?_ | refine Abs.Ev.scope ?_ | refine Abs.Ev.step' rfl rfl rfl ?_ | refine Abs.Ev.stepG' rfl rfl rfl rfl ?_ | refine Abs.Ev.condG' ?_ | refine Abs.Ev.goS' rfl rfl rfl rfl ?_ | refine Abs.Ev.goG' rfl rfl rfl rfl rfl ?_ | refine Abs.Ev.againS' rfl rfl rfl ?_ | refine Abs.Ev.newS' rfl rfl rfl ?_ | refine Abs.Ev.callF' rfl ?_ | refine Abs.Ev.callG' rfl rfl ?_ | refine Abs.Ev.goCall' rfl rfl ?_ | refine Abs.Body.retE rfl ?_ | refine Abs.Body.endE rfl ?_ | (refine Abs.Nx.go ?_; (first | simp (disch := first | omega | assumption) only [go_sem, g0, hsb3, cut_head, Tryz.underlying3, Ty.sz3, Ty.by3, Ty.ag3, Ty.ze3, Tryz.underlying5, Ty.sz5, Ty.by5, Ty.ag5, Ty.ze5, Tryz.underlying43, Ty.sz43, Ty.by43, Ty.ag43, Ty.ze43, Tryz.underlying97, Ty.sz97, Ty.by97, Ty.ag97, Ty.ze97, Tryz.underlying302, Ty.sz302, Ty.by302, Ty.ag302, Ty.ze302, Tryz.underlying303, Ty.sz303, Ty.by303, Ty.ag303, Ty.ze303, Tryz.underlying306, Ty.sz306, Ty.by306, Ty.ag306, Ty.ze306] | skip)) | (refine ⟨fun hb => ?_, fun hb => ?_⟩ <;> first | (exfalso; omega) | skip) | fail)
          refine Abs.Ev.regionD (n := 0) (l := [.go 0, .go 1, .go 2, .go 3, .go 4, .go 5, .go 6, .go 7, .go 8, .go 9]) (by kernel_rfl) ?_
          (try (first | refine Abs.EvO.nx ?_ | refine Abs.EvA.nx ?_)); repeat' (first | refine Abs.Ev.seq ?_ | refine Abs.Ev.region ?_ | refine Abs.Ev.block ?_ | refine Abs.Ev.skip ?_ | refine Abs.Ev.exit ?_ | refine Abs.Ev.ret ?_ | refine Abs.Ev.runNil ?_ | refine Abs.Ev.stepsNil ?_ | refine Abs.Seq.go ?_ | refine Abs.Seq.off ?_ | refine Abs.Blk.here ?_ | refine Abs.Blk.go ?_ | refine Abs.Blk.off rfl ?_ | refine Abs.Blk.ret ?_ | refine Abs.Ev.label ?_ | refine Abs.Ev.scope ?_ | refine Abs.Ev.step' rfl rfl rfl ?_ | refine Abs.Ev.stepG' rfl rfl rfl rfl ?_ | refine Abs.Ev.condG' ?_ | refine Abs.Ev.goS' rfl rfl rfl rfl ?_ | refine Abs.Ev.goG' rfl rfl rfl rfl rfl ?_ | refine Abs.Ev.againS' rfl rfl rfl ?_ | refine Abs.Ev.newS' rfl rfl rfl ?_ | refine Abs.Ev.callF' rfl ?_ | refine Abs.Ev.callG' rfl rfl ?_ | refine Abs.Ev.goCall' rfl rfl ?_ | refine Abs.Body.retE rfl ?_ | refine Abs.Body.endE rfl ?_ | (refine Abs.Nx.go ?_; (first | simp (disch := first | omega | assumption) only [go_sem, g0, hsb3, cut_head, add32_eq, List.set_cons_zero, List.set_cons_succ, Tryz.underlying3, Ty.sz3, Ty.by3, Ty.ag3, Ty.ze3, Tryz.underlying5, Ty.sz5, Ty.by5, Ty.ag5, Ty.ze5, Tryz.underlying43, Ty.sz43, Ty.by43, Ty.ag43, Ty.ze43, Tryz.underlying97, Ty.sz97, Ty.by97, Ty.ag97, Ty.ze97, Tryz.underlying302, Ty.sz302, Ty.by302, Ty.ag302, Ty.ze302, Tryz.underlying303, Ty.sz303, Ty.by303, Ty.ag303, Ty.ze303, Tryz.underlying306, Ty.sz306, Ty.by306, Ty.ag306, Ty.ze306] | skip)) | (refine ⟨fun hb => ?_, fun hb => ?_⟩ <;> first | (exfalso; omega) | skip) | fail))
        refine Ev.unroll ?_
        (try (first | refine Abs.EvO.nx ?_ | refine Abs.EvA.nx ?_)); repeat' (first | refine Abs.Ev.seq ?_ | refine Abs.Ev.region ?_ | refine Abs.Ev.block ?_ | refine Abs.Ev.skip ?_ | refine Abs.Ev.exit ?_ | refine Abs.Ev.ret ?_ | refine Abs.Ev.runNil ?_ | refine Abs.Ev.stepsNil ?_ | refine Abs.Seq.go ?_ | refine Abs.Seq.off ?_ | refine Abs.Blk.here ?_ | refine Abs.Blk.go ?_ | refine Abs.Blk.off rfl ?_ | refine Abs.Blk.ret ?_ | refine Abs.Ev.label ?_ | refine Abs.Ev.scope ?_ | refine Abs.Ev.step' rfl rfl rfl ?_ | refine Abs.Ev.stepG' rfl rfl rfl rfl ?_ | refine Abs.Ev.condG' ?_ | refine Abs.Ev.goS' rfl rfl rfl rfl ?_ | refine Abs.Ev.goG' rfl rfl rfl rfl rfl ?_ | refine Abs.Ev.againS' rfl rfl rfl ?_ | refine Abs.Ev.newS' rfl rfl rfl ?_ | refine Abs.Ev.callF' rfl ?_ | refine Abs.Ev.callG' rfl rfl ?_ | refine Abs.Ev.goCall' rfl rfl ?_ | refine Abs.Body.retE rfl ?_ | refine Abs.Body.endE rfl ?_ | (refine Abs.Nx.go ?_; (first | simp (disch := first | omega | assumption) only [go_sem, g0, cut_head, Tryz.underlying3, Ty.sz3, Ty.by3, Ty.ag3, Ty.ze3, Tryz.underlying5, Ty.sz5, Ty.by5, Ty.ag5, Ty.ze5, Tryz.underlying43, Ty.sz43, Ty.by43, Ty.ag43, Ty.ze43, Tryz.underlying97, Ty.sz97, Ty.by97, Ty.ag97, Ty.ze97, Tryz.underlying302, Ty.sz302, Ty.by302, Ty.ag302, Ty.ze302, Tryz.underlying303, Ty.sz303, Ty.by303, Ty.ag303, Ty.ze303, Tryz.underlying306, Ty.sz306, Ty.by306, Ty.ag306, Ty.ze306] | skip)) | (refine ⟨fun hb => ?_, fun hb => ?_⟩ <;> first | (exfalso; omega) | skip) | fail)
        cases k6
        refine ⟨_, rfl, fun b x hb => ?_, ?_⟩
        · by_cases hbs : b = sb
          · subst hbs
            rw [show (St.mk (s.heap.set b _) s.next).heap.get b = _ from get_same _ _ _] at hb
            rw [← hb]
            exact get_same _ _ _
          · have hb' : s.heap.get b = some x := (get_other _ _ _ _ hbs).symm.trans hb
            have hb3 := hold b x hbs hb'
            simp (disch := first | omega | assumption) only [go_sem, hb3]
        · exact hnx3
end
end Go.Proofs.YthidnkhhndbidaaGreatDoor
