/-
  The evaluator and what is proved of it (several texts in one).
-/
import Derived.Test.YtbakhdgiimjnkaaGreatDoorMnS
import Derived.Test.YtbakhdgiimjnkaaGreatDoorItA
import Derived.Test.YtbakhdgiimjnkaaGreatDoorEvSet
/-
  manifest.Clean at the evaluator.
-/
namespace Go.Proofs.YtbakhdgiimjnkaaGreatDoor
open Abs
set_option maxHeartbeats 16000000
set_option maxRecDepth 20000
set_option linter.unusedSimpArgs false
attribute [local irreducible] Abs.Ev Abs.EvF Abs.EvO Abs.EvA Abs.Seq Abs.Blk Abs.Body Abs.Scp Abs.EvG Abs.EvAg Abs.Nx
attribute [local go_sem] Tryz.underlying3 Ty.sz3 Ty.by3 Ty.ag3 Ty.ze3 Tryz.underlying4 Ty.sz4 Ty.by4 Ty.ag4 Ty.ze4 Tryz.underlying5 Ty.sz5 Ty.by5 Ty.ag5 Ty.ze5 Tryz.underlying9 Ty.sz9 Ty.by9 Ty.ag9 Ty.ze9 Tryz.underlying23 Ty.sz23 Ty.by23 Ty.ag23 Ty.ze23 Tryz.underlying24 Ty.sz24 Ty.by24 Ty.ag24 Ty.ze24 Tryz.underlying26 Ty.sz26 Ty.by26 Ty.ag26 Ty.ze26 Tryz.underlying28 Ty.sz28 Ty.by28 Ty.ag28 Ty.ze28 Tryz.underlying29 Ty.sz29 Ty.by29 Ty.ag29 Ty.ze29 Tryz.underlying41 Ty.sz41 Ty.by41 Ty.ag41 Ty.ze41 Tryz.underlying45 Ty.sz45 Ty.by45 Ty.ag45 Ty.ze45 Tryz.underlying46 Ty.sz46 Ty.by46 Ty.ag46 Ty.ze46 Tryz.underlying96 Ty.sz96 Ty.by96 Ty.ag96 Ty.ze96 Tryz.underlying105 Ty.sz105 Ty.by105 Ty.ag105 Ty.ze105
section
variable {Sm : Summ} {Q : Ans → Prop}
/-- does a cleaning leave the name? -/
def Kp (fs : List MF) (nm : Nm) : Prop := nm ≠ coming ∧ (IsT nm → ∃ f ∈ fs, nm = nameT f.num.toNat)
open Classical in
noncomputable def kpB (fs : List MF) (nm : Nm) : Bool := decide (Kp fs nm)
theorem kp_true {fs : List MF} {nm : Nm} : kpB fs nm = true ↔ Kp fs nm := by
  unfold kpB
  simp
theorem kp_false {fs : List MF} {nm : Nm} : kpB fs nm = false ↔ ¬ Kp fs nm := by
  unfold kpB
  simp
theorem countP_erase_no {p : Nm → Bool} {k : Nm} (hk : p k = false) : ∀ l : List Nm, (l.erase k).countP p = l.countP p
  | [] => rfl
  | x :: l => by
    by_cases h : x = k
    · subst h
      rw [List.erase_cons_head, List.countP_cons_of_neg (by simp [hk])]
    · rw [List.erase_cons_tail (by simpa using h), List.countP_cons, List.countP_cons, countP_erase_no hk l]
theorem kp_nil (fs : List MF) : kpB fs [] = true := by
  refine kp_true.2 ?_
  exact ⟨by decide, fun h => by have := h.2.1; simp at this⟩
attribute [local go_sem] keyS
set_option maxRecDepth 40000 in
theorem hclean_ev (n : NoMan Sm) (nn : NoName Sm) (hcl : Sm 25 = none) {s0 s : St} (h0 : s0.wf) {O : Nat → Prop} {b : Nat} {d : DD} {F : Fs} (hh : Held s0 s O b d F) {e : TypeId} (hT : s0.heap.get 0 = some (.const (pow10L.map fun z => Value.int .u64 z) e))
    {sv : Value} {v : MV} (hv : FilesAt s0 sv v.files) (hg : GoodV v) (hl : v.files.length ≤ 60) (hnd : (akeys d.names).Nodup) (hlen : d.names.length ≤ 1000) (hkl : ∀ k ∈ akeys d.names, k.length ≤ 64) (hch : d.chgs.length ≤ 1000) (hrm : coming ∈ akeys d.names)
    (h : ∀ s' O' d', Held s0 s' O' b d' F → d'.names.length = (akeys d.names).countP (kpB v.files) → d'.safe = d'.names → d'.chgs = [] → (akeys d'.names).Nodup → (∀ k ∈ akeys d'.names, k.length ≤ 64) → Q (.val (.int .i64 0) s')) :
    Ev Tryz.prog Sm (.inv (.fn (.func 25) #[]) [.pointer (some ⟨b, 0, none⟩), verV sv v] s) Q := by
  refine Ev.func hcl Tryz.func25 rfl (m := 56) rfl ?_
  simp only [Array.toList_empty, List.append_nil, ofList_cons, ofList_nil]
  obtain ⟨fs, nx, sq, lg⟩ := v
  obtain ⟨⟨a, c, rfl⟩, hsrc⟩ := id hv
  simp only at hv hsrc hl h
  unfold verV
  have hwf := hh.keep.wf
  (try first | refine EvO.nx ?_ | refine EvA.nx ?_); repeat' (first | refine Abs.go ?_ | with_reducible refine Abs.fork (fun hb => ?_) (fun hb => ?_))
  have hT1 := hh.keep.old _ _ hT
  have hv1 := hv.mono hh.keep.old
  refine Ev.loop (fun k a' s' => Keep s s' ∧ ∃ T i met, a' = ⟨T, 56, []⟩ ∧ T.get 0 = some (.pointer (some ⟨b, 0, none⟩)) ∧ T.get 5 = some (.map (some (s.next + 1))) ∧ T.get 14 = some (.slice a fs.length c) ∧ T.get 15 = some (.int .i64 (fs.length : Int)) ∧ T.get 16 = some (.int .i64 ((i : Nat) : Int)) ∧ i ≤ fs.length ∧ k = fs.length - i ∧
      MapAt s' (s.next + 1) mkStr boolV met ∧ (∀ p ∈ met, p.2 = true) ∧ (∀ x, x ∈ akeys met ↔ x ∈ (fs.take i).map fun f => nameT f.num.toNat)) (k := fs.length)
    ⟨((Keep.refl hwf).new _).new _, _, 0, [], rfl, ?g0, ?g5, ?g14, ?g15, ?g16, Nat.zero_le _, rfl, ⟨[], 0, get_same _ _ _, .nil, ⟨fun e he => (by cases he), List.nodup_nil⟩⟩, fun p hp => (by cases hp), fun x => (by simp [akeys])⟩ ?_
  case g0 => simp (disch := first | omega | assumption) only [go_sem, ]
  case g5 => simp (disch := first | omega | assumption) only [go_sem, ]
  case g14 => simp (disch := first | omega | assumption) only [go_sem, ]
  case g15 => simp (disch := first | omega | assumption) only [go_sem, ]
  case g16 => simp (disch := first | omega | assumption) only [go_sem, ]; try rfl
  rintro k a' s' ⟨hk, T, i, met, rfl, g0, g5, g14, g15, g16, hi, rfl, hmap, hm1, hm2⟩
  by_cases hil : i < fs.length
  · obtain ⟨fb, fo, rfl⟩ := hv.some (by intro e; rw [e] at hil; exact absurd hil (Nat.not_lt_zero _))
    obtain ⟨_, w, hw, hcut⟩ := (hv1.mono hk.old).cut
    have hc4 := hcut i hil
    have hgf := hg.all fs[i] (List.getElem_mem hil)
    have htk : (fs.take (i + 1)).map (fun f => nameT f.num.toNat) = (fs.take i).map (fun f => nameT f.num.toNat) ++ [nameT fs[i].num.toNat] := by
      rw [List.take_add_one, List.getElem?_eq_getElem hil, List.map_append]
      rfl
    have hkn := hk.next
    have hml : s.next + 1 < s'.next := by obtain ⟨es, ck, hm, _, _⟩ := hmap; exact hk.wf _ _ hm
    generalize fs[i] = f at *
    obtain ⟨num, level, first, last⟩ := f
    unfold fileC at hc4
    obtain ⟨q1, q2, _, _, _, _⟩ := hgf
    simp only at hc4 q1 q2 htk
    have hnx := hg.n2
    simp only at hnx
    obtain ⟨m, rfl⟩ : ∃ m : Nat, num = (m : Int) := ⟨num.toNat, by omega⟩
    rw [Int.toNat_natCast] at htk
    (try first | refine EvO.nx ?_ | refine EvA.nx ?_); repeat' (first | refine Abs.goH (Abs.cc g0 (Abs.cc g5 (Abs.cc g14 (Abs.cc g15 (Abs.cc g16 (Abs.cc hw (hc4))))))) ?_ | with_reducible refine Abs.fork (fun hb => ?_) (fun hb => ?_))
    have hk2 : Keep s ⟨(s'.heap.set s'.next (.cells [.int .i64 0, .int .i64 0, .string ⟨⟨[]⟩⟩, .string ⟨⟨[]⟩⟩] 41 0 false (0, 0))).set s'.next (.cells [.int .i64 (m : Int), .int .i64 level, .string ⟨⟨first⟩⟩, .string ⟨⟨last⟩⟩] 41 0 false (0, 0)), s'.next + 1⟩ := by ((repeat (refine Abs.Keep.set2 ?_ (by omega) (by omega) hwf)); exact Abs.Keep.grow hk (by omega))
    refine name_ev nn hk2.wf (hk2.old _ _ hT1) (by omega) fun s2 k2 => ⟨_, _, rfl, ?_⟩
    have hk3 := hk2.trans k2
    have hmap2 : MapAt s2 (s.next + 1) mkStr boolV met := hmap.mono fun x hx => k2.old _ _ (by simp (disch := first | omega | assumption) only [go_sem, hx])
    (try first | refine EvO.nx ?_ | refine EvA.nx ?_); repeat' (first | refine Abs.goH (Abs.cc g0 (g5)) ?_ | with_reducible refine Abs.fork (fun hb => ?_) (fun hb => ?_))
    refine EvO.mput (κ := mkStr) (ν := boolV) (k := nameT m) (v := true) Tryz.underlying105 keysS hk3.wf hmap2 fun s4 m1 m2 m3 m4 => ?_
    (try first | refine EvO.nx ?_ | refine EvA.nx ?_); repeat' (first | refine Abs.goH (Abs.cc g0 (Abs.cc g5 (Abs.cc g14 (Abs.cc g15 (g16))))) ?_ | with_reducible refine Abs.fork (fun hb => ?_) (fun hb => ?_))
    refine ⟨fs.length - (i + 1), by omega, ⟨m3, by rw [m2]; exact hk3.next, fun x y hb => m4 x y (by have := hwf x y hb; omega) (hk3.old x y hb)⟩, _, i + 1, aput met (nameT m) true, rfl, ?_, ?_, ?_, ?_, ?_, by omega, rfl, m1, fun p hp => ?_, fun x => ?_⟩
    · simp (disch := first | omega | assumption) only [go_sem, g0]
    · simp (disch := first | omega | assumption) only [go_sem, g5]
    · simp (disch := first | omega | assumption) only [go_sem, g14]
    · simp (disch := first | omega | assumption) only [go_sem, g15]
    · simp (disch := first | omega | assumption) only [go_sem, Int.natCast_add, Int.natCast_one]
    · rcases mem_aput hp with hp | rfl
      · exact hm1 p hp
      · rfl
    · rw [htk, List.mem_append, ← hm2, akeys_aput]
      split
      · rename_i hx
        constructor
        · exact .inl
        · rintro (h | h)
          · exact h
          · rw [List.mem_singleton.1 h]; exact hx
      · simp
  obtain rfl : i = fs.length := by omega
  rw [List.take_length] at hm2
  (try first | refine EvO.nx ?_ | refine EvA.nx ?_); repeat' (first | refine Abs.goH (Abs.cc g0 (Abs.cc g5 (Abs.cc g14 (Abs.cc g15 (g16))))) ?_ | with_reducible refine Abs.fork (fun hb => ?_) (fun hb => ?_))
  obtain ⟨mes, mck, hmm, _, _⟩ := id hmap
  have hmlt := hk.wf _ _ hmm
  have hKp : d.keys.Perm (akeys d.names) := sortB_perm _
  have hKl : d.keys.length = d.names.length := by rw [hKp.length_eq]; exact List.length_map _
  have hKn : d.keys.Nodup := hKp.nodup_iff.2 hnd
  have hh' := hh.old hk
  have hfin : ∀ Q' : Ans → Prop, (∀ (la : Nat × Nat) (lc : Nat) (lw : List Value) (s5 : St), Keep s' s5 → objCells (s5.heap.get la.1) = .ok lw → (∀ j (hj : j < d.keys.length), lw[la.2 + j]? = some (mkStr d.keys[j])) → s'.next ≤ la.1 → Q' (.val (.slice (some ⟨la.1, la.2, none⟩) d.names.length lc) s5)) → Ev Tryz.prog Sm (.inv (.fn (.func 26) #[]) [.pointer (some ⟨b, 0, none⟩)] s') Q' := fun Q' hq => by
    obtain ⟨I, hd, ho, hI⟩ := hh'.at_
    refine list_ev n.file n.more hd hk.wf hnd (by omega) (fun k hk' => ?_) fun lv s5 k5 hv5 lo5 => ?_
    · have := hkl k hk'
      omega
    · have hs5 := hv5.src
      obtain ⟨hs5, la, lc, rfl⟩ := hs5
      cases la with
      | none =>
        exfalso
        have e : (0, ([] : List Value)) = (d.names.length, valsOf d.keys) := Rs.ok.inj hs5
        have e1 : d.names.length = 0 := (congrArg Prod.fst e).symm
        have : d.names = [] := List.eq_nil_of_length_eq_zero e1
        rw [this] at hrm
        cases hrm
      | some q =>
        obtain ⟨lb, lo, sp⟩ := q
        cases sp with
        | some _ => cases hs5
        | none =>
          obtain ⟨lw, h1, h2, h3⟩ := src_parts hs5
          refine hq (lb, lo) lc lw s5 k5 h1 (fun j hj => ?_) (lo5 lb ⟨_, _, _, rfl⟩)
          have h4 : (valsOf d.keys)[j]? = some (mkStr d.keys[j]) := by
            unfold valsOf
            rw [List.getElem?_map, List.getElem?_eq_getElem hj]
            rfl
          rw [← h2, List.getElem?_take, List.getElem?_drop, if_pos (by omega)] at h4
          exact h4
  refine hfin _ fun la lc lw s5 k5 hlw hla lo5 => ⟨_, _, rfl, ?_⟩
  clear hfin
  obtain ⟨lb, lo⟩ := la
  simp only at hlw hla lo5
  have hwf5 := k5.wf
  have hlb5 := obj_lt hwf5 hlw
  have hmap5 := hmap.mono fun x hx => k5.old _ _ hx
  have hh5 := hh'.old k5
  have hO : ∀ q, O q → q < s'.next := fun q hq => hh'.lt hq
  have hOm : ¬ O (s.next + 1) := fun ho => by have := hh.lt ho; omega
  have hOl : ¬ O lb := fun ho => by have := hO _ ho; omega
  (try first | refine EvO.nx ?_ | refine EvA.nx ?_); repeat' (first | refine Abs.goH g0 ?_ | with_reducible refine Abs.fork (fun hb => ?_) (fun hb => ?_))
  refine Ev.loop (fun k a' s' => ∃ T i O' d' ch, a' = ⟨T, 56, []⟩ ∧ T.get 0 = some (.pointer (some ⟨b, 0, none⟩)) ∧ T.get 5 = some (.map (some (s.next + 1))) ∧ T.get 8 = some (.bool ch) ∧ T.get 26 = some (.slice (some ⟨lb, lo, none⟩) d.names.length lc) ∧ T.get 27 = some (.int .i64 (d.names.length : Int)) ∧ T.get 28 = some (.int .i64 ((i : Nat) : Int)) ∧ i ≤ d.names.length ∧ k = d.names.length - i ∧
      Held s0 s' O' b d' F ∧ Mv O O' s5 s' ∧ (akeys d'.names).Nodup ∧ (∀ x, x ∈ akeys d'.names ↔ x ∈ akeys d.names ∧ (kpB fs x = true ∨ x ∉ d.keys.take i)) ∧ (akeys d'.names).countP (kpB fs) = (akeys d.names).countP (kpB fs) ∧ d'.chgs.length ≤ d.chgs.length + i ∧ ((∃ x, x ∈ d.keys.take i ∧ kpB fs x = false) → ch = true)) (k := d.names.length)
    ⟨_, 0, O, d, false, rfl, ?h0, ?h5, ?h8, ?h26, ?h27, ?h28, Nat.zero_le _, rfl, hh5, Mv.refl hwf5, hnd, fun x => (by simp), rfl, Nat.le_refl _, fun ⟨x, hx, _⟩ => (by cases hx)⟩ ?_
  case h0 => simp (disch := first | omega | assumption) only [go_sem, g0]
  case h5 => simp (disch := first | omega | assumption) only [go_sem, g5]
  case h8 => simp (disch := first | omega | assumption) only [go_sem, ]
  case h26 => simp (disch := first | omega | assumption) only [go_sem, ]
  case h27 => simp (disch := first | omega | assumption) only [go_sem, ]
  case h28 => simp (disch := first | omega | assumption) only [go_sem, ]; try rfl
  clear g0 g5 g14 g15 g16 hh hh5 hh' hk hmm hKp
  rintro k a' s6 ⟨T, i, O', d', ch, rfl, g0, g5, g8, g26, g27, g28, hi, rfl, hh6, mv6, hnd', hmem, hcnt, hchl, hrem⟩
  have hwf6 := hh6.keep.wf
  by_cases hil : i < d.names.length
  · have hiK : i < d.keys.length := by omega
    have hw6 : objCells (s6.heap.get lb) = .ok lw := by
      cases hx : s5.heap.get lb with
      | none => rw [hx] at hlw; cases hlw
      | some x => rw [hx] at hlw; rw [mv6.old lb x hOl hx]; exact hlw
    have hli := hla i hiK
    have hmap6 := hmap5.mono fun x hx => mv6.old _ _ hOm hx
    have htk : d.keys.take (i + 1) = d.keys.take i ++ [d.keys[i]] := (List.take_append_getElem hiK).symm
    have hnt : d.keys[i] ∉ d.keys.take i := fun hx => by
      have h1 := hKn
      rw [← List.take_append_drop i d.keys, List.drop_eq_getElem_cons hiK, List.nodup_append] at h1
      exact h1.2.2 _ hx _ (List.mem_cons_self ..) rfl
    have hkn : d.keys[i] ∈ akeys d.names := (sortB_perm _).mem_iff.1 (List.getElem_mem hiK)
    have hkl' := hkl _ hkn
    by_cases hc : d.keys[i] = coming
    · have hkp : kpB fs d.keys[i] = false := by
        refine kp_false.2 ?_
        exact fun h => h.1 hc
      have hbq : (d.keys[i] == ([109, 97, 110, 105, 102, 101, 115, 116, 46, 116, 109, 112] : List UInt8)) = true := by rw [hc]; rfl
      (try first | refine EvO.nx ?_ | refine EvA.nx ?_); repeat' (first | refine Abs.goH (Abs.cc g0 (Abs.cc g5 (Abs.cc g26 (Abs.cc g27 (Abs.cc g28 (Abs.cc hw6 (Abs.cc hli (hbq)))))))) ?_ | with_reducible refine Abs.fork (fun hb => ?_) (fun hb => ?_))
      have hin : d.keys[i] ∈ akeys d'.names := (hmem _).2 ⟨hkn, .inr hnt⟩
      obtain ⟨I, hd, ho, hI⟩ := hh6.at_
      refine remove_ev n.dir hd hh6.keep.wf (by omega) (nm := d.keys[i]) (fun hx => absurd hin (aget_none.1 hx)) fun _ s8 O8 mv8 hd8 => ⟨_, _, rfl, ?_⟩
      have hh8 : Held s0 s8 O8 b (d'.chg ⟨[], none, d.keys[i]⟩) F := ⟨⟨I, hd8, fun c hc => (mv8.new c hc).elim (ho c) fun h => Nat.le_trans hh6.keep.next h, hI⟩, mv8.keep hh6.keep ho h0⟩
      have hne : d.keys[i] ≠ [] := by
        rintro e
        rw [e] at hkp
        rw [kp_nil] at hkp
        cases hkp
      have hnm : (d'.chg ⟨[], none, d.keys[i]⟩).names = adel d'.names d.keys[i] := chg_rm d' _ hne
      (try first | refine EvO.nx ?_ | refine EvA.nx ?_); repeat' (first | refine Abs.goH g28 ?_ | with_reducible refine Abs.fork (fun hb => ?_) (fun hb => ?_))
      refine ⟨d.names.length - (i + 1), by omega, _, i + 1, O8, _, true, rfl, ?_, ?_, ?_, ?_, ?_, ?_, by omega, rfl, hh8, (mv6).trans hwf5 mv8, ?_, fun x => ?_, ?_, ?_, fun _ => rfl⟩
      · simp (disch := first | omega | assumption) only [go_sem, g0]
      · simp (disch := first | omega | assumption) only [go_sem, g5]
      · simp (disch := first | omega | assumption) only [go_sem, ]
      · simp (disch := first | omega | assumption) only [go_sem, g26]
      · simp (disch := first | omega | assumption) only [go_sem, g27]
      · simp (disch := first | omega | assumption) only [go_sem, Int.natCast_add, Int.natCast_one]
      · rw [hnm]; exact nodup_adel hnd' _
      · rw [hnm, akeys_adel, hnd'.mem_erase_iff, hmem x, htk, List.mem_append, List.mem_singleton]
        constructor
        · rintro ⟨h1, h2, h3⟩
          exact ⟨h2, h3.imp id fun h3 h4 => h4.elim h3 h1⟩
        · rintro ⟨h1, h2⟩
          refine ⟨?_, h1, h2.imp id fun h2 h3 => h2 (.inl h3)⟩
          rintro rfl
          rcases h2 with h2 | h2
          · rw [hkp] at h2; cases h2
          · exact h2 (.inr rfl)
      · rw [hnm, akeys_adel, countP_erase_no hkp, hcnt]
      · show (d'.chgs ++ [_]).length ≤ _
        rw [List.length_append, List.length_singleton]
        omega
    · have hbq : (d.keys[i] == ([109, 97, 110, 105, 102, 101, 115, 116, 46, 116, 109, 112] : List UInt8)) = false := by rw [beq_eq_false_iff_ne]; exact hc
      (try first | refine EvO.nx ?_ | refine EvA.nx ?_); repeat' (first | refine Abs.goH (Abs.cc g0 (Abs.cc g5 (Abs.cc g26 (Abs.cc g27 (Abs.cc g28 (Abs.cc hw6 (Abs.cc hli (hbq)))))))) ?_ | with_reducible refine Abs.fork (fun hb => ?_) (fun hb => ?_))
      refine isTable_ev nn hwf6 (by omega) (fun hit s7 k7 => ⟨_, _, rfl, ?_⟩) (fun hit s7 k7 => ⟨_, _, rfl, ?_⟩)
      · have hh7 := hh6.old k7
        have mv7 := mv6.trans hwf5 (Mv.ofKeep (O := O') k7)
        obtain ⟨es, ck, hm, he, _⟩ := hmap6.mono fun x hx => k7.old _ _ hx
        rcases find_map keysS d.keys[i] met 0 he with ⟨j, v, q1, q2⟩ | ⟨q1, q2⟩
        · have q3 : ∀ h : Tr AObj, findR Tryz.prog h 9 (.string ⟨⟨d.keys[i]⟩⟩) es 0 = .ok (some (j, boolV v)) := q2
          obtain rfl : v = true := hm1 _ (aget_mem q1)
          have hkp : kpB fs d.keys[i] = true := by
            refine kp_true.2 ?_
            obtain ⟨f, h1, h2⟩ := List.mem_map.1 ((hm2 _).1 (List.mem_map_of_mem (f := (·.1)) (aget_mem q1)))
            exact ⟨hc, fun _ => ⟨f, h1, h2.symm⟩⟩
          (try first | refine EvO.nx ?_ | refine EvA.nx ?_); repeat' (first | refine Abs.goH (Abs.cc g0 (Abs.cc g5 (Abs.cc g28 (Abs.cc hm (q3))))) ?_ | with_reducible refine Abs.fork (fun hb => ?_) (fun hb => ?_))
          have hh2' : Held s0 s7 O' b d' F := hh7
          have mv2' : Mv O O' s5 s7 := mv7
          refine ⟨d.names.length - (i + 1), by omega, _, i + 1, O', d', ch, rfl, ?_, ?_, ?_, ?_, ?_, ?_, by omega, rfl, hh2', mv2', hnd', fun x => ?_, hcnt, by omega, ?_⟩
          · simp (disch := first | omega | assumption) only [go_sem, g0]
          · simp (disch := first | omega | assumption) only [go_sem, g5]
          · simp (disch := first | omega | assumption) only [go_sem, g8]
          · simp (disch := first | omega | assumption) only [go_sem, g26]
          · simp (disch := first | omega | assumption) only [go_sem, g27]
          · simp (disch := first | omega | assumption) only [go_sem, Int.natCast_add, Int.natCast_one]
          · rw [hmem x, htk, List.mem_append, List.mem_singleton]
            constructor
            · rintro ⟨h1, h2⟩
              refine ⟨h1, ?_⟩
              by_cases hx : x = d.keys[i]
              · rw [hx, hkp]; exact .inl rfl
              · exact h2.imp id fun h2 h3 => h3.elim h2 hx
            · rintro ⟨h1, h2⟩
              exact ⟨h1, h2.imp id fun h2 h3 => h2 (.inl h3)⟩
          · rintro ⟨x, h1, h2⟩
            rw [htk, List.mem_append, List.mem_singleton] at h1
            rcases h1 with h1 | h1
            · exact hrem ⟨x, h1, h2⟩
            · rw [h1, hkp] at h2; cases h2
        · have q3 : ∀ h : Tr AObj, findR Tryz.prog h 9 (.string ⟨⟨d.keys[i]⟩⟩) es 0 = .ok none := q2
          have hkp : kpB fs d.keys[i] = false := by
            refine kp_false.2 ?_
            rintro ⟨_, h2⟩
            obtain ⟨f, h3, h4⟩ := h2 hit
            exact aget_none.1 q1 ((hm2 _).2 (List.mem_map.2 ⟨f, h3, h4.symm⟩))
          (try first | refine EvO.nx ?_ | refine EvA.nx ?_); repeat' (first | refine Abs.goH (Abs.cc g0 (Abs.cc g5 (Abs.cc g28 (Abs.cc hm (q3))))) ?_ | with_reducible refine Abs.fork (fun hb => ?_) (fun hb => ?_))
          have hin : d.keys[i] ∈ akeys d'.names := (hmem _).2 ⟨hkn, .inr hnt⟩
          obtain ⟨I, hd, ho, hI⟩ := hh7.at_
          refine remove_ev n.dir hd hh7.keep.wf (by omega) (nm := d.keys[i]) (fun hx => absurd hin (aget_none.1 hx)) fun _ s8 O8 mv8 hd8 => ⟨_, _, rfl, ?_⟩
          have hh8 : Held s0 s8 O8 b (d'.chg ⟨[], none, d.keys[i]⟩) F := ⟨⟨I, hd8, fun c hc => (mv8.new c hc).elim (ho c) fun h => Nat.le_trans hh7.keep.next h, hI⟩, mv8.keep hh7.keep ho h0⟩
          have hne : d.keys[i] ≠ [] := by
            rintro e
            rw [e] at hkp
            rw [kp_nil] at hkp
            cases hkp
          have hnm : (d'.chg ⟨[], none, d.keys[i]⟩).names = adel d'.names d.keys[i] := chg_rm d' _ hne
          (try first | refine EvO.nx ?_ | refine EvA.nx ?_); repeat' (first | refine Abs.goH g28 ?_ | with_reducible refine Abs.fork (fun hb => ?_) (fun hb => ?_))
          refine ⟨d.names.length - (i + 1), by omega, _, i + 1, O8, _, true, rfl, ?_, ?_, ?_, ?_, ?_, ?_, by omega, rfl, hh8, (mv7).trans hwf5 mv8, ?_, fun x => ?_, ?_, ?_, fun _ => rfl⟩
          · simp (disch := first | omega | assumption) only [go_sem, g0]
          · simp (disch := first | omega | assumption) only [go_sem, g5]
          · simp (disch := first | omega | assumption) only [go_sem, ]
          · simp (disch := first | omega | assumption) only [go_sem, g26]
          · simp (disch := first | omega | assumption) only [go_sem, g27]
          · simp (disch := first | omega | assumption) only [go_sem, Int.natCast_add, Int.natCast_one]
          · rw [hnm]; exact nodup_adel hnd' _
          · rw [hnm, akeys_adel, hnd'.mem_erase_iff, hmem x, htk, List.mem_append, List.mem_singleton]
            constructor
            · rintro ⟨h1, h2, h3⟩
              exact ⟨h2, h3.imp id fun h3 h4 => h4.elim h3 h1⟩
            · rintro ⟨h1, h2⟩
              refine ⟨?_, h1, h2.imp id fun h2 h3 => h2 (.inl h3)⟩
              rintro rfl
              rcases h2 with h2 | h2
              · rw [hkp] at h2; cases h2
              · exact h2 (.inr rfl)
          · rw [hnm, akeys_adel, countP_erase_no hkp, hcnt]
          · show (d'.chgs ++ [_]).length ≤ _
            rw [List.length_append, List.length_singleton]
            omega
      · have hkp : kpB fs d.keys[i] = true := by
          refine kp_true.2 ?_
          exact ⟨hc, fun h => absurd h hit⟩
        (try first | refine EvO.nx ?_ | refine EvA.nx ?_); repeat' (first | refine Abs.goH g28 ?_ | with_reducible refine Abs.fork (fun hb => ?_) (fun hb => ?_))
        have hh2' : Held s0 s7 O' b d' F := hh6.old k7
        have mv2' : Mv O O' s5 s7 := mv6.trans hwf5 (Mv.ofKeep (O := O') k7)
        refine ⟨d.names.length - (i + 1), by omega, _, i + 1, O', d', ch, rfl, ?_, ?_, ?_, ?_, ?_, ?_, by omega, rfl, hh2', mv2', hnd', fun x => ?_, hcnt, by omega, ?_⟩
        · simp (disch := first | omega | assumption) only [go_sem, g0]
        · simp (disch := first | omega | assumption) only [go_sem, g5]
        · simp (disch := first | omega | assumption) only [go_sem, g8]
        · simp (disch := first | omega | assumption) only [go_sem, g26]
        · simp (disch := first | omega | assumption) only [go_sem, g27]
        · simp (disch := first | omega | assumption) only [go_sem, Int.natCast_add, Int.natCast_one]
        · rw [hmem x, htk, List.mem_append, List.mem_singleton]
          constructor
          · rintro ⟨h1, h2⟩
            refine ⟨h1, ?_⟩
            by_cases hx : x = d.keys[i]
            · rw [hx, hkp]; exact .inl rfl
            · exact h2.imp id fun h2 h3 => h3.elim h2 hx
          · rintro ⟨h1, h2⟩
            exact ⟨h1, h2.imp id fun h2 h3 => h2 (.inl h3)⟩
        · rintro ⟨x, h1, h2⟩
          rw [htk, List.mem_append, List.mem_singleton] at h1
          rcases h1 with h1 | h1
          · exact hrem ⟨x, h1, h2⟩
          · rw [h1, hkp] at h2; cases h2
  · obtain rfl : i = d.names.length := by omega
    rw [← hKl, List.take_length] at hrem hmem
    have hct : ch = true := hrem ⟨coming, (sortB_perm _).mem_iff.2 hrm, kp_false.2 fun h => h.1 rfl⟩
    subst hct
    (try first | refine EvO.nx ?_ | refine EvA.nx ?_); repeat' (first | refine Abs.goH (Abs.cc g0 (Abs.cc g8 (Abs.cc g26 (Abs.cc g27 (g28))))) ?_ | with_reducible refine Abs.fork (fun hb => ?_) (fun hb => ?_))
    obtain ⟨I, hd, ho, hI⟩ := hh6.at_
    refine syncDir_ev n.file n.more hd hwf6 fun s7 O7 y mv7 hd7 => ⟨_, _, rfl, ?_⟩
    have hh7 : Held s0 s7 O7 b { d' with safe := d'.names, chgs := [], syncs := y } F := ⟨⟨I, hd7, fun c hc => (mv7.new c hc).elim (ho c) fun h => Nat.le_trans hh6.keep.next h, hI⟩, mv7.keep hh6.keep ho h0⟩
    (try first | refine EvO.nx ?_ | refine EvA.nx ?_); repeat' (first | refine Abs.go ?_ | with_reducible refine Abs.fork (fun hb => ?_) (fun hb => ?_))
    have hall : ∀ x ∈ akeys d'.names, kpB fs x = true := fun x hx => by
      obtain ⟨h1, h2⟩ := (hmem x).1 hx
      exact h2.resolve_right fun h3 => h3 ((sortB_perm _).mem_iff.2 h1)
    refine h _ _ _ hh7 ?_ rfl rfl hnd' fun k hk => hkl k ((hmem k).1 hk).1
    show d'.names.length = _
    rw [← hcnt, List.countP_eq_length.2 hall]
    exact (List.length_map _).symm
end
end Go.Proofs.YtbakhdgiimjnkaaGreatDoor

/-
  The law ManifestCleans at the evaluator: it says true.
-/
namespace Go.Proofs.YtbakhdgiimjnkaaGreatDoor
open Abs
set_option maxHeartbeats 16000000
set_option maxRecDepth 20000
set_option linter.unusedSimpArgs false
attribute [local irreducible] Abs.Ev Abs.EvF Abs.EvO Abs.EvA Abs.Seq Abs.Blk Abs.Body Abs.Scp Abs.EvG Abs.EvAg Abs.Nx
attribute [local go_sem] Tryz.underlying3 Ty.sz3 Ty.by3 Ty.ag3 Ty.ze3 Tryz.underlying4 Ty.sz4 Ty.by4 Ty.ag4 Ty.ze4 Tryz.underlying5 Ty.sz5 Ty.by5 Ty.ag5 Ty.ze5 Tryz.underlying9 Ty.sz9 Ty.by9 Ty.ag9 Ty.ze9 Tryz.underlying23 Ty.sz23 Ty.by23 Ty.ag23 Ty.ze23 Tryz.underlying24 Ty.sz24 Ty.by24 Ty.ag24 Ty.ze24 Tryz.underlying26 Ty.sz26 Ty.by26 Ty.ag26 Ty.ze26 Tryz.underlying28 Ty.sz28 Ty.by28 Ty.ag28 Ty.ze28 Tryz.underlying29 Ty.sz29 Ty.by29 Ty.ag29 Ty.ze29 Tryz.underlying41 Ty.sz41 Ty.by41 Ty.ag41 Ty.ze41 Tryz.underlying45 Ty.sz45 Ty.by45 Ty.ag45 Ty.ze45 Tryz.underlying46 Ty.sz46 Ty.by46 Ty.ag46 Ty.ze46 Tryz.underlying96 Ty.sz96 Ty.by96 Ty.ag96 Ty.ze96 Tryz.underlying105 Ty.sz105 Ty.by105 Ty.ag105 Ty.ze105
section
variable {Sm : Summ} {Q : Ans → Prop}
theorem dig_inj {a b : Nat} (h : dig a = dig b) : a % 10 = b % 10 := by
  have := congrArg UInt8.toNat h
  rw [dig_nat, dig_nat] at this
  omega
theorem nameT_inj {n m : Nat} (hn : n < 1000000) (hm : m < 1000000) (h : nameT n = nameT m) : n = m := by
  unfold nameT six at h
  simp only [List.cons_append, List.nil_append, List.cons.injEq, and_true, true_and] at h
  obtain ⟨h1, h2, h3, h4, h5, h6⟩ := h
  have h1 := dig_inj h1
  have h2 := dig_inj h2
  have h3 := dig_inj h3
  have h4 := dig_inj h4
  have h5 := dig_inj h5
  have h6 := dig_inj h6
  omega
theorem dig_in (n : Nat) : dig n ∈ digits := by
  have key : ∀ m, m < 10 → UInt8.ofNat (48 + m) ∈ digits := by decide
  exact key _ (Nat.mod_lt _ (by decide))
theorem digits_in : ∀ c ∈ digits, c ∈ letters := by decide
theorem six_in (n : Nat) : ∀ c ∈ six n, c ∈ digits := by
  intro c hc
  simp only [six, List.mem_cons, List.mem_nil_iff, or_false] at hc
  rcases hc with rfl | rfl | rfl | rfl | rfl | rfl <;> exact dig_in _
theorem isT_name (n : Nat) : IsT (nameT n) := ⟨⟨six n, rfl⟩, rfl, fun c hc => six_in n c hc⟩
theorem good_name (n : Nat) : GoodN (nameT n) := by
  refine ⟨(by decide : 1 ≤ 8), (by decide : 8 ≤ 64), fun c hc => ?_⟩
  rcases List.mem_append.1 hc with hc | hc
  · have : ∀ c ∈ ([116, 45] : List UInt8), c ∈ letters := by decide
    exact this c hc
  · exact digits_in c (six_in n c hc)
theorem name_len (n : Nat) : (nameT n).length = 8 := rfl
theorem name_ne (n : Nat) : nameT n ≠ coming := fun h => by have := congrArg List.length h; rw [name_len] at this; cases this
theorem kp_name {fs : List MF} {nx lg : Int} {sq : Nat} (hg : GoodV ⟨fs, nx, sq, lg⟩) {n : Nat} (hn : n < 1000000) : kpB fs (nameT n) = true ↔ (n : Int) ∈ fs.map (·.num) := by
  rw [kp_true]
  constructor
  · rintro ⟨_, h⟩
    obtain ⟨f, hf, e⟩ := h (isT_name n)
    have g := hg.all f hf
    have h1 := g.n1
    have h2 := g.n2
    have h3 := hg.n2
    simp only at h2 h3
    have := nameT_inj hn (by omega) e
    exact List.mem_map.2 ⟨f, hf, by omega⟩
  · intro h
    obtain ⟨f, hf, e⟩ := List.mem_map.1 h
    exact ⟨name_ne n, fun _ => ⟨f, hf, by rw [e]; rfl⟩⟩
/-- how often a number stands among the files -/
theorem count_num {x : Int} : ∀ {fs : List MF}, (fs.map (·.num)).Nodup → fs.countP (fun f => f.num == x) = if x ∈ fs.map (·.num) then 1 else 0
  | [], _ => rfl
  | f :: fs, h => by
    rw [List.map_cons, List.nodup_cons] at h
    rw [List.countP_cons, count_num h.2, List.map_cons]
    by_cases e : f.num = x
    · have hx : x ∉ fs.map (·.num) := e ▸ h.1
      rw [if_neg hx, if_pos (by simpa using e), if_pos (by rw [e]; exact List.mem_cons_self ..)]
    · by_cases hx : x ∈ fs.map (·.num)
      · rw [if_pos hx, if_neg (by simpa using e), if_pos (List.mem_cons_of_mem _ hx)]
      · rw [if_neg hx, if_neg (by simpa using e), if_neg (by rw [List.mem_cons]; exact fun h => h.elim (fun h => e h.symm) hx)]
theorem obj_keep {s s' : St} (hk : ∀ b x, s.heap.get b = some x → s'.heap.get b = some x) {b : Nat} {w : List Value} (h : objCells (s.heap.get b) = .ok w) : objCells (s'.heap.get b) = .ok w := by
  cases hb : s.heap.get b with
  | none => rw [hb] at h; cases h
  | some x => rw [hb] at h; rw [hk b x hb]; exact h
theorem ints_at {s : St} {a : Option Addr} {n c : Nat} {l : List Int} (h : IntsB s (.slice a n c) l) (hl : 0 < l.length) : ∃ b o w, a = some ⟨b, o, none⟩ ∧ objCells (s.heap.get b) = .ok w ∧ ∀ j (hj : j < l.length), w[o + j]? = some (.int .i64 l[j]) := by
  obtain ⟨⟨a', c', e⟩, h2⟩ := h
  cases e
  cases a with
  | none =>
    exfalso
    have e : (0, ([] : List Value)) = (l.length, intsC l) := Rs.ok.inj h2
    have : (0 : Nat) = l.length := congrArg Prod.fst e
    omega
  | some q =>
    obtain ⟨b, o, sp⟩ := q
    cases sp with
    | some _ => cases h2
    | none =>
      obtain ⟨w, h3, h4, h5⟩ := src_parts h2
      refine ⟨b, o, w, rfl, h3, fun j hj => ?_⟩
      have h6 : (intsC l)[j]? = some (.int .i64 l[j]) := by
        unfold intsC
        rw [List.getElem?_map, List.getElem?_eq_getElem hj]
        rfl
      rw [← h4, List.getElem?_take, List.getElem?_drop, if_pos (by omega)] at h6
      exact h6
theorem and_k {P : Program} {h : Tr AObj} {t : TypeId} {c : Bool} (k : IntKind) (a b : Int) : aBin P h .and t c (.int k a) (.int k b) = intR k (iBit2 .and Nat.land k a b) := by
  show ifb (kEq k k) (intR k (iBit2 .and Nat.land k a b)) _ = _
  rw [kEq_self]
  rfl
theorem and_1023 (a : Int) : ∃ m : Nat, m < 1024 ∧ ∀ (P : Program) (h : Tr AObj) (t : TypeId) (c : Bool), aBin P h .and t c (.int .i64 a) (.int .i64 1023) = .ok (.int .i64 ((m : Nat) : Int)) := by
  refine ⟨(BitVec.ofInt 64 a &&& BitVec.ofInt 64 1023).toNat, ?_, fun P h t c => ?_⟩
  · rw [BitVec.toNat_and]
    have : (BitVec.ofInt 64 1023).toNat = 1023 := rfl
    rw [this]
    exact Nat.and_lt_two_pow (n := 10) _ (by decide)
  · rw [and_k, intR_eq, iAnd_eq]
    have hm : (BitVec.ofInt 64 a &&& BitVec.ofInt 64 1023).toNat < 1024 := by
      rw [BitVec.toNat_and]
      have : (BitVec.ofInt 64 1023).toNat = 1023 := rfl
      rw [this]
      exact Nat.and_lt_two_pow (n := 10) _ (by decide)
    show Rs.ok (Value.int .i64 (IntKind.i64.wrap ((BitVec.ofInt 64 a &&& BitVec.ofInt 64 1023).toNat : Int))) = _
    generalize (BitVec.ofInt 64 a &&& BitVec.ofInt 64 1023).toNat = m at *
    rw [wrap_i64 _ (by omega) (by omega)]
/-- a disk on which files are made -/
structure Made (fs : List MF) (d : DD) (L m : Nat) : Prop where
  nodup : (akeys d.names).Nodup
  short : ∀ k ∈ akeys d.names, k.length ≤ 64
  few : d.names.length ≤ m
  chgs : d.chgs.length ≤ m
  cnt : (akeys d.names).countP (kpB fs) = L
  no : coming ∉ akeys d.names
theorem made_add {fs : List MF} {d : DD} {L m : Nat} (h : Made fs d L m) {nm : Nm} {f : Nat} (h1 : nm ∉ akeys d.names) (h2 : nm.length ≤ 64) (h3 : nm ≠ coming) : Made fs (d.chg ⟨nm, some f, []⟩) (L + if kpB fs nm = true then 1 else 0) (m + 1) := by
  have e : (d.chg ⟨nm, some f, []⟩).names = aput d.names nm f := chg_new d nm f
  have ek : akeys (d.chg ⟨nm, some f, []⟩).names = akeys d.names ++ [nm] := by rw [e, akeys_aput, if_neg h1]
  refine ⟨by rw [e]; exact nodup_aput h.nodup _ _, fun k hk => ?_, ?_, ?_, ?_, fun hx => ?_⟩
  · rw [ek, List.mem_append, List.mem_singleton] at hk
    exact hk.elim (h.short k) fun e => e ▸ h2
  · rw [e, aput_new h1, List.length_append, List.length_singleton]
    exact Nat.succ_le_succ h.few
  · show (d.chgs ++ [_]).length ≤ _
    rw [List.length_append, List.length_singleton]
    exact Nat.succ_le_succ h.chgs
  · rw [ek, List.countP_append, h.cnt, List.countP_singleton]
  · rw [ek, List.mem_append, List.mem_singleton] at hx
    exact hx.elim h.no fun e => h3 e.symm
theorem made_mono {fs : List MF} {d : DD} {L m : Nat} (h : Made fs d L m) : Made fs d L (m + 1) := ⟨h.nodup, h.short, Nat.le_succ_of_le h.few, Nat.le_succ_of_le h.chgs, h.cnt, h.no⟩
theorem hcreate_ev (n : NoMan Sm) {s0 s : St} (h0 : s0.wf) {O : Nat → Prop} {b : Nat} {d : DD} {F : Fs} (hh : Held s0 s O b d F) (hch : d.chgs.length ≤ 1000) {nm : Nm} (hg : GoodN nm)
    (h1 : nm ∈ akeys d.names → ∀ s', Keep s s' → Q (.val (.int .i64 12) s')) (h2 : nm ∉ akeys d.names → ∀ f s' O', Mv O O' s s' → Held s0 s' O' b (d.chg ⟨nm, some f, []⟩) (F.put f ⟨[], 0⟩) → Q (.val (.int .i64 0) s')) :
    Ev Tryz.prog Sm (.inv (.fn (.func 20) #[]) [.pointer (some ⟨b, 0, none⟩), .string ⟨⟨nm⟩⟩] s) Q := by
  obtain ⟨I, hd, ho, hI⟩ := hh.at_
  refine create_ev n.dir hd hh.keep.wf (by omega) (nm := nm) (by have := hg.2.1; omega) (fun hx => absurd hg hx) (fun _ hx s' k => h1 (Classical.byContradiction fun hm => hx (aget_none.2 hm)) s' k) (fun _ hx f s' O' mv hf hd' => h2 (aget_none.1 hx) f s' O' mv ⟨⟨_, hd', fun c hc => (mv.new c hc).elim (ho c) fun h => Nat.le_trans hh.keep.next h, fun c hc => ?_⟩, mv.keep hh.keep ho h0⟩)
  by_cases e : c = f
  · subst e
    rw [Fs.put_at]
    exact ⟨Nat.le_refl _, Nat.zero_le _⟩
  · simp only [Fs.put, if_neg e]
    exact hI c (hc.resolve_right e)
theorem hlist2_ev (n : NoMan Sm) {s0 s : St} {O : Nat → Prop} {b : Nat} {d : DD} {F : Fs} (hh : Held s0 s O b d F) (hnd : (akeys d.names).Nodup) (hk : ∀ k ∈ akeys d.names, k.length ≤ 64) (hm : d.names.length ≤ 1000)
    (h : ∀ a c s', Keep s s' → Q (.val (.slice a d.names.length c) s')) :
    Ev Tryz.prog Sm (.inv (.fn (.func 26) #[]) [.pointer (some ⟨b, 0, none⟩)] s) Q := by
  obtain ⟨I, hd, ho, hI⟩ := hh.at_
  refine list_ev n.file n.more hd hh.keep.wf hnd (by omega) (fun k hk' => by have := hk k hk'; omega) fun v' s' k hv _ => ?_
  obtain ⟨_, a, c, rfl⟩ := hv.src
  exact h _ _ _ k
/-- the law's six names -/
def oth : List Nm := [[119, 45, 48, 48, 48, 48, 48, 49], [109, 97, 110, 105, 102, 101, 115, 116], [116, 45], [116, 45, 48, 48, 48, 48, 49], [116, 45, 48, 48, 48, 48, 48, 48, 49], [120]]
theorem oth_good : ∀ x ∈ oth, GoodN x ∧ x ≠ coming ∧ x.length ≤ 64 ∧ (x.length = 8 → ¬ [116, 45] <+: x) := by
  intro x hx
  simp only [oth, List.mem_cons, List.mem_nil_iff, or_false] at hx
  rcases hx with rfl | rfl | rfl | rfl | rfl | rfl <;> exact ⟨⟨by decide, by decide, by decide⟩, by decide, by decide, by decide⟩
theorem oth_kp (fs : List MF) {x : Nm} (hx : x ∈ oth) : kpB fs x = true := by
  obtain ⟨_, h2, _, h4⟩ := oth_good x hx
  exact kp_true.2 ⟨h2, fun h => absurd h.1 (h4 h.2.1)⟩
attribute [local go_sem] cut4
set_option maxRecDepth 40000 in
theorem manifestCleans_ev (hF : Sm 5 = none) {g : List Value → St → Rs (Value × St)} (hA : Sm 15 = some g) (h2 : Sm 24 = none) (n : NoMan Sm) (nn : NoName Sm) (hcl : Sm 25 = none)
    {s : St} (hg : ∀ s', Keep s s' → g [] s' = .ok (.bool true, s')) (hwf : s.wf) {e : TypeId} (hT : s.heap.get 0 = some (.const (pow10L.map fun z => Value.int .u64 z) e))
    {sv : Value} {v : MV} (hv : FilesAt s sv v.files) (hq : v.seq < 18446744073709551616) (hl : v.files.length < 140737488355328) {pv tv : Value} {nums others : List Int} (hp : IntsB s pv nums) (ht : IntsB s tv others) :
    Ev Tryz.prog Sm (.inv (.fn (.func 5) #[]) [verV sv v, pv, tv] s) fun r => ∃ s', r = .val (.bool true) s' := by
  refine Ev.func hF Tryz.func5 rfl (m := 136) rfl ?_
  simp only [Array.toList_empty, List.append_nil, ofList_cons, ofList_nil]
  obtain ⟨fs, nx, sq, lg⟩ := v
  obtain ⟨⟨a, c, rfl⟩, hsrc⟩ := id hv
  obtain ⟨⟨pa, pc, rfl⟩, hps⟩ := id hp
  obtain ⟨⟨ta, tc, rfl⟩, hts⟩ := id ht
  simp only at hv hsrc hq hl
  unfold verV
  (try first | refine EvO.nx ?_ | refine EvA.nx ?_); repeat' (first | refine Abs.go ?_ | with_reducible refine Abs.fork (fun hb => ?_) (fun hb => ?_))
  have hk1 := (Keep.refl hwf).new (.cells [.slice a fs.length c, .int .i64 nx, .int .u64 (sq : Int), .int .i64 lg] 26 0 false (0, 0))
  refine Ev.summ hA (hg _ hk1) ⟨_, _, rfl, ?_⟩
  have gv1 : (⟨s.heap.set s.next (.cells [.slice a fs.length c, .int .i64 nx, .int .u64 (sq : Int), .int .i64 lg] 26 0 false (0, 0)), s.next + 1⟩ : St).heap.get s.next = some (.cells [.slice a fs.length c, .int .i64 nx, .int .u64 (sq : Int), .int .i64 lg] 26 0 false (0, 0)) := get_same _ _ _
  generalize (⟨s.heap.set s.next (.cells [.slice a fs.length c, .int .i64 nx, .int .u64 (sq : Int), .int .i64 lg] 26 0 false (0, 0)), s.next + 1⟩ : St) = s1 at *
  (try first | refine EvO.nx ?_ | refine EvA.nx ?_); repeat' (first | refine Abs.goH gv1 ?_ | with_reducible refine Abs.fork (fun hb => ?_) (fun hb => ?_))
  refine may_ev h2 hk1.wf (sv := .slice a fs.length c) (v := ⟨fs, nx, sq, lg⟩) (hv.mono hk1.old) hl (fun _ s2 k2 => ⟨_, _, rfl, ?_⟩) (fun hgd s2 k2 => ⟨_, _, rfl, ?_⟩)
  · (try first | refine EvO.nx ?_ | refine EvA.nx ?_); repeat' (first | refine Abs.go ?_ | with_reducible refine Abs.fork (fun hb => ?_) (fun hb => ?_))
    exact ⟨_, rfl⟩
  have kk := hk1.trans k2
  have gv2 := k2.old _ _ gv1
  have hv2 := hv.mono kk.old
  have hT2 := kk.old _ _ hT
  have hp2 : IntsB s2 (.slice pa nums.length pc) nums := hp.mono fun b x _ => kk.old b x
  have ht2 : IntsB s2 (.slice ta others.length tc) others := ht.mono fun b x _ => kk.old b x
  have wf2 := k2.wf
  clear hp ht hps hts hsrc hg gv1 hk1 k2 kk hT hv
  (try first | refine EvO.nx ?_ | refine EvA.nx ?_); repeat' (first | refine Abs.goH gv2 ?_ | with_reducible refine Abs.fork (fun hb => ?_) (fun hb => ?_))
  all_goals first | exact ⟨_, rfl⟩ | skip
  have l60 : fs.length ≤ 60 := by omega
  have l40 : nums.length ≤ 40 := by omega
  have l10 : others.length ≤ 10 := by omega
  refine hnew_ev n wf2 (q := 1000) (by decide) fun s4 O4 bd d4 F4 hh4 hc4 => ⟨_, _, rfl, ?_⟩
  (try first | refine EvO.nx ?_ | refine EvA.nx ?_); repeat' (first | refine Abs.go ?_ | with_reducible refine Abs.fork (fun hb => ?_) (fun hb => ?_))
  have hm4 : Made fs d4 0 0 := by
    have e : d4.names = [] := hc4.safe.trans hc4.names
    exact ⟨by rw [e]; exact List.nodup_nil, (fun k hk => by rw [e] at hk; cases hk), by rw [e]; exact Nat.le_refl _, by rw [hc4.chgs]; exact Nat.le_refl _, by rw [e]; rfl, (fun hk => by rw [e] at hk; cases hk)⟩
  refine Ev.loop (fun k a' s' => ∃ T i O' d' F' L, a' = ⟨T, 136, []⟩ ∧ T.get 1 = some (.slice pa nums.length pc) ∧ T.get 2 = some (.slice ta others.length tc) ∧ T.get 3 = some (.pointer (some ⟨s.next, 0, none⟩)) ∧ T.get 7 = some (.pointer (some ⟨bd, 0, none⟩)) ∧ T.get 9 = some (.int .i64 ((L : Nat) : Int)) ∧ T.get 10 = some (.int .i64 ((i : Nat) : Int)) ∧ i ≤ nums.length ∧ k = nums.length - i ∧
      Held s2 s' O' bd d' F' ∧ Made fs d' L i ∧ L ≤ i) (k := nums.length)
    ⟨_, 0, O4, d4, F4, 0, rfl, ?g1, ?g2, ?g3, ?g7, ?g9, ?g10, Nat.zero_le _, rfl, hh4, hm4, Nat.le_refl _⟩ ?_
  case g1 => simp (disch := first | omega | assumption) only [go_sem, ]
  case g2 => simp (disch := first | omega | assumption) only [go_sem, ]
  case g3 => simp (disch := first | omega | assumption) only [go_sem, ]
  case g7 => simp (disch := first | omega | assumption) only [go_sem, ]
  case g9 => simp (disch := first | omega | assumption) only [go_sem, ]; try rfl
  case g10 => simp (disch := first | omega | assumption) only [go_sem, ]; try rfl
  rintro k a' s' ⟨T, i, O', d', F', L, rfl, g1, g2, g3, g7, g9, g10, hi, rfl, hh, hm, hLi⟩
  have hcalls := hm.chgs
  by_cases hil : i < nums.length
  · obtain ⟨pb, po, pw, rfl, hpw, hpi⟩ := ints_at hp2 (by omega)
    have hpw' := obj_keep hh.keep.old hpw
    have hpi2 := hpi i hil
    by_cases hrg : nums[i] < 0 ∨ 999999 < nums[i]
    · (try first | refine EvO.nx ?_ | refine EvA.nx ?_); repeat' (first | refine Abs.goH (Abs.cc g1 (Abs.cc g3 (Abs.cc g7 (Abs.cc g9 (Abs.cc g10 (Abs.cc hpw' (hpi2))))))) ?_ | with_reducible refine Abs.fork (fun hb => ?_) (fun hb => ?_))
      all_goals (
        refine ⟨nums.length - (i + 1), by omega, _, i + 1, O', d', F', L, rfl, ?_, ?_, ?_, ?_, ?_, ?_, by omega, rfl, hh, made_mono hm, by omega⟩
        · simp (disch := first | omega | assumption) only [go_sem, g1]
        · simp (disch := first | omega | assumption) only [go_sem, g2]
        · simp (disch := first | omega | assumption) only [go_sem, g3]
        · simp (disch := first | omega | assumption) only [go_sem, g7]
        · simp (disch := first | omega | assumption) only [go_sem, g9]
        · simp (disch := first | omega | assumption) only [go_sem, g10, Int.natCast_add, Int.natCast_one])
    · obtain ⟨m, hmi⟩ : ∃ m : Nat, nums[i] = (m : Int) := ⟨nums[i].toNat, by omega⟩
      rw [hmi] at hpi2 hrg
      have hm6 : m < 1000000 := by omega
      (try first | refine EvO.nx ?_ | refine EvA.nx ?_); repeat' (first | refine Abs.goH (Abs.cc g1 (Abs.cc g3 (Abs.cc g7 (Abs.cc g9 (Abs.cc g10 (Abs.cc hpw' (hpi2))))))) ?_ | with_reducible refine Abs.fork (fun hb => ?_) (fun hb => ?_))
      refine name_ev nn hh.keep.wf (hh.keep.old _ _ hT2) hm6 fun s6 k6 => ⟨_, _, rfl, ?_⟩
      have hh6 := hh.old k6
      (try first | refine EvO.nx ?_ | refine EvA.nx ?_); repeat' (first | refine Abs.goH g7 ?_ | with_reducible refine Abs.fork (fun hb => ?_) (fun hb => ?_))
      refine hcreate_ev n wf2 hh6 (by omega) (good_name m) (fun hx s7 k7 => ⟨_, _, rfl, ?_⟩) (fun hx f s7 O7 mv7 hh7 => ⟨_, _, rfl, ?_⟩)
      · (try first | refine EvO.nx ?_ | refine EvA.nx ?_); repeat' (first | refine Abs.goH g10 ?_ | with_reducible refine Abs.fork (fun hb => ?_) (fun hb => ?_))
        refine ⟨nums.length - (i + 1), by omega, _, i + 1, O', d', F', L, rfl, ?_, ?_, ?_, ?_, ?_, ?_, by omega, rfl, hh6.old k7, made_mono hm, by omega⟩
        · simp (disch := first | omega | assumption) only [go_sem, g1]
        · simp (disch := first | omega | assumption) only [go_sem, g2]
        · simp (disch := first | omega | assumption) only [go_sem, g3]
        · simp (disch := first | omega | assumption) only [go_sem, g7]
        · simp (disch := first | omega | assumption) only [go_sem, g9]
        · simp (disch := first | omega | assumption) only [go_sem, g10, Int.natCast_add, Int.natCast_one]
      · (try first | refine EvO.nx ?_ | refine EvA.nx ?_); repeat' (first | refine Abs.go ?_ | with_reducible refine Abs.fork (fun hb => ?_) (fun hb => ?_))
        have hma := made_add hm (f := f) hx (by rw [name_len]; decide) (name_ne m)
        have gv7 := hh7.keep.old _ _ gv2
        have hpw7 := obj_keep hh7.keep.old hpw
        have hcnt := count_num (x := (m : Int)) hgd.nodup
        have hkpn := kp_name hgd hm6
        simp only at hcnt
        have hcl2 : ∀ j, (fs.take j).countP (fun f => f.num == (m : Int)) ≤ 60 := fun j => Nat.le_trans List.countP_le_length (by rw [List.length_take]; omega)
        refine Ev.loop (fun k a' s' => s' = s7 ∧ ∃ T j, a' = ⟨T, 136, []⟩ ∧ T.get 1 = some (.slice (some ⟨pb, po, none⟩) nums.length pc) ∧ T.get 2 = some (.slice ta others.length tc) ∧ T.get 3 = some (.pointer (some ⟨s.next, 0, none⟩)) ∧ T.get 7 = some (.pointer (some ⟨bd, 0, none⟩)) ∧ T.get 9 = some (.int .i64 ((L + (fs.take j).countP (fun f => f.num == (m : Int)) : Nat) : Int)) ∧ T.get 10 = some (.int .i64 ((i : Nat) : Int)) ∧ T.get 11 = some (.int .i64 ((j : Nat) : Int)) ∧ j ≤ fs.length ∧ k = fs.length - j) (k := fs.length)
          ⟨rfl, _, 0, rfl, ?i1, ?i2, ?i3, ?i7, ?i9, ?i10, ?i11, Nat.zero_le _, rfl⟩ ?_
        case i1 => simp (disch := first | omega | assumption) only [go_sem, g1]
        case i2 => simp (disch := first | omega | assumption) only [go_sem, g2]
        case i3 => simp (disch := first | omega | assumption) only [go_sem, g3]
        case i7 => simp (disch := first | omega | assumption) only [go_sem, g7]
        case i9 => simp (disch := first | omega | assumption) only [go_sem, g9]; try rfl
        case i10 => simp (disch := first | omega | assumption) only [go_sem, g10]
        case i11 => simp (disch := first | omega | assumption) only [go_sem, ]; try rfl
        clear g1 g2 g3 g7 g9 g10
        rintro k a' s' ⟨rfl, T, j, rfl, g1, g2, g3, g7, g9, g10, g11, hj, rfl⟩
        by_cases hjl : j < fs.length
        · obtain ⟨fb, fo, rfl⟩ := hv2.some (by intro e; rw [e] at hjl; exact absurd hjl (Nat.not_lt_zero _))
          obtain ⟨_, w, hw, hcut⟩ := (hv2.mono hh7.keep.old).cut
          have hc4 := hcut j hjl
          have htk : (fs.take (j + 1)).countP (fun f => f.num == (m : Int)) = (fs.take j).countP (fun f => f.num == (m : Int)) + if fs[j].num = (m : Int) then 1 else 0 := by
            rw [List.take_add_one, List.getElem?_eq_getElem hjl, List.countP_append]
            show _ + [fs[j]].countP _ = _
            rw [List.countP_singleton]
            congr 1
            simp
          have hc60 := hcl2 j
          generalize fs[j] = f at *
          obtain ⟨num, level, first, last⟩ := f
          unfold fileC at hc4
          simp only at hc4 htk
          have hw0 := cut_at hc4 (i := 0) rfl
          rw [Nat.add_zero] at hw0
          (try first | refine EvO.nx ?_ | refine EvA.nx ?_); repeat' (first | refine Abs.goH (Abs.cc g1 (Abs.cc g3 (Abs.cc g7 (Abs.cc g9 (Abs.cc g10 (Abs.cc g11 (Abs.cc gv7 (Abs.cc hw (hc4))))))))) ?_ | with_reducible refine Abs.fork (fun hb => ?_) (fun hb => ?_))
          refine Abs.Ev.regionD (n := 0) (l := [.go 0, .go 1, .go 2, .go 3, .go 4, .go 5, .go 6, .go 7, .go 8, .go 9, .go 10]) (by kernel_rfl) ?_
          (try first | refine EvO.nx ?_ | refine EvA.nx ?_); repeat' (first | refine Abs.goH (Abs.cc g1 (Abs.cc g3 (Abs.cc g7 (Abs.cc g9 (Abs.cc g10 (Abs.cc g11 (Abs.cc gv7 (Abs.cc hw (Abs.cc hw0 (Abs.cc hpw7 (hpi2))))))))))) ?_ | with_reducible refine Abs.fork (fun hb => ?_) (fun hb => ?_))
          all_goals (
            refine ⟨fs.length - (j + 1), by omega, rfl, _, j + 1, rfl, ?_, ?_, ?_, ?_, ?_, ?_, ?_, by omega, rfl⟩
            · simp (disch := first | omega | assumption) only [go_sem, g1]
            · simp (disch := first | omega | assumption) only [go_sem, g2]
            · simp (disch := first | omega | assumption) only [go_sem, g3]
            · simp (disch := first | omega | assumption) only [go_sem, g7]
            · first
              | rw [htk, if_pos (by omega), ← Nat.add_assoc]; simp (disch := first | omega | assumption) only [go_sem, Int.natCast_add, Int.natCast_one]; done
              | rw [htk, if_neg (by omega), Nat.add_zero]; simp (disch := first | omega | assumption) only [go_sem, g9]
            · simp (disch := first | omega | assumption) only [go_sem, g10]
            · simp (disch := first | omega | assumption) only [go_sem, g11, Int.natCast_add, Int.natCast_one])
        · obtain rfl : j = fs.length := by omega
          rw [List.take_length, hcnt] at g9
          (try first | refine EvO.nx ?_ | refine EvA.nx ?_); repeat' (first | refine Abs.goH (Abs.cc g3 (Abs.cc g11 (Abs.cc g10 (gv7)))) ?_ | with_reducible refine Abs.fork (fun hb => ?_) (fun hb => ?_))
          have hL : (if (m : Int) ∈ fs.map (·.num) then 1 else 0) = if kpB fs (nameT m) = true then 1 else 0 := by
            by_cases hx : kpB fs (nameT m) = true
            · rw [if_pos hx, if_pos (hkpn.1 hx)]
            · rw [if_neg hx, if_neg fun h => hx (hkpn.2 h)]
          rw [hL] at g9
          have hb1 : (if kpB fs (nameT m) = true then 1 else 0) ≤ 1 := by split <;> omega
          refine ⟨nums.length - (i + 1), by omega, _, i + 1, O7, _, _, _, rfl, ?_, ?_, ?_, ?_, ?_, ?_, by omega, rfl, hh7, hma, by omega⟩
          · simp (disch := first | omega | assumption) only [go_sem, g1]
          · simp (disch := first | omega | assumption) only [go_sem, g2]
          · simp (disch := first | omega | assumption) only [go_sem, g3]
          · simp (disch := first | omega | assumption) only [go_sem, g7]
          · simp (disch := first | omega | assumption) only [go_sem, g9]
          · simp (disch := first | omega | assumption) only [go_sem, g10, Int.natCast_add, Int.natCast_one]
  · obtain rfl : i = nums.length := by omega
    (try first | refine EvO.nx ?_ | refine EvA.nx ?_); repeat' (first | refine Abs.goH (Abs.cc g1 (g10)) ?_ | with_reducible refine Abs.fork (fun hb => ?_) (fun hb => ?_))
    have hk5 := (Keep.refl hh.keep.wf).new (.cells (oth.map mkStr) 9 0 false (0, 0))
    have ho5 : (⟨s'.heap.set s'.next (.cells (oth.map mkStr) 9 0 false (0, 0)), s'.next + 1⟩ : St).heap.get s'.next = some (.cells (oth.map mkStr) 9 0 false (0, 0)) := get_same _ _ _
    have hh5 := hh.old hk5
    have hO5 : ¬ O' s'.next := fun ho => absurd (hh.lt ho) (Nat.lt_irrefl _)
    change Ev _ _ (.code _ _ _ _ ⟨s'.heap.set s'.next (.cells (oth.map mkStr) 9 0 false (0, 0)), s'.next + 1⟩) _
    generalize hob : s'.next = ob at *
    generalize (⟨s'.heap.set ob (.cells (oth.map mkStr) 9 0 false (0, 0)), ob + 1⟩ : St) = s5 at *
    have hL0 : L ≤ 40 := by omega
    have hm0 : Made fs d' L (40 + 0) := ⟨hm.nodup, hm.short, Nat.le_trans hm.few l40, Nat.le_trans hm.chgs l40, hm.cnt, hm.no⟩
    refine Ev.loop (fun k a' s' => ∃ T i O' d' F' L, a' = ⟨T, 136, []⟩ ∧ T.get 2 = some (.slice ta others.length tc) ∧ T.get 3 = some (.pointer (some ⟨s.next, 0, none⟩)) ∧ T.get 7 = some (.pointer (some ⟨bd, 0, none⟩)) ∧ T.get 9 = some (.int .i64 ((L : Nat) : Int)) ∧ T.get 12 = some (.slice (some ⟨ob, 0, none⟩) 6 6) ∧ T.get 13 = some (.int .i64 ((i : Nat) : Int)) ∧ i ≤ others.length ∧ k = others.length - i ∧
        Held s2 s' O' bd d' F' ∧ Made fs d' L (40 + i) ∧ L ≤ 40 + i ∧ s'.heap.get ob = some (.cells (oth.map mkStr) 9 0 false (0, 0)) ∧ ¬ O' ob) (k := others.length)
      ⟨_, 0, O', d', F', L, rfl, ?j2, ?j3, ?j7, ?j9, ?j12, ?j13, Nat.zero_le _, rfl, hh5, hm0, hL0, ho5, hO5⟩ ?_
    case j2 => simp (disch := first | omega | assumption) only [go_sem, g2]
    case j3 => simp (disch := first | omega | assumption) only [go_sem, g3]
    case j7 => simp (disch := first | omega | assumption) only [go_sem, g7]
    case j9 => simp (disch := first | omega | assumption) only [go_sem, g9]
    case j12 => simp (disch := first | omega | assumption) only [go_sem, ]
    case j13 => simp (disch := first | omega | assumption) only [go_sem, ]; try rfl
    clear g1 g2 g3 g7 g9 g10 hh hh5 hm hm0 hL0 hO5 ho5 hk5 hob hLi hcalls
    rintro k a' s' ⟨T, i, O', d', F', L, rfl, g2, g3, g7, g9, g12, g13, hi, rfl, hh, hm, hLi, hob, hnO⟩
    have hcalls := hm.chgs
    by_cases hil : i < others.length
    · obtain ⟨tb, to, tw, rfl, htw, hti⟩ := ints_at ht2 (by omega)
      have htw' := obj_keep hh.keep.old htw
      have hti2 := hti i hil
      obtain ⟨m, hm1, hand⟩ := and_1023 others[i]
      have e6 : ((m : Int).tmod 6) = ((m % 6 : Nat) : Int) := by rw [Int.tmod_eq_emod_of_nonneg (by omega)]; rfl
      have hi6 : m % 6 < oth.length := Nat.mod_lt _ (by decide)
      have hoi : (oth.map mkStr)[m % 6]? = some (.string ⟨⟨oth[m % 6]⟩⟩) := by
        rw [List.getElem?_map, List.getElem?_eq_getElem hi6]
        rfl
      obtain ⟨hg1, hg2, hg3, _⟩ := oth_good oth[m % 6] (List.getElem_mem hi6)
      have hkpo := oth_kp fs (List.getElem_mem hi6)
      have h66 : m % 6 < 6 := Nat.mod_lt _ (by decide)
      generalize oth[m % 6] = nm at *
      (try first | refine EvO.nx ?_ | refine EvA.nx ?_); repeat' (first | refine Abs.goH (Abs.cc g2 (Abs.cc g7 (Abs.cc g9 (Abs.cc g12 (Abs.cc g13 (Abs.cc htw' (Abs.cc hti2 (Abs.cc hand (Abs.cc e6 (Abs.cc hob (hoi))))))))))) ?_ | with_reducible refine Abs.fork (fun hb => ?_) (fun hb => ?_))
      refine hcreate_ev n wf2 hh (by omega) hg1 (fun hx s7 k7 => ⟨_, _, rfl, ?_⟩) (fun hx f s7 O7 mv7 hh7 => ⟨_, _, rfl, ?_⟩)
      · (try first | refine EvO.nx ?_ | refine EvA.nx ?_); repeat' (first | refine Abs.goH g13 ?_ | with_reducible refine Abs.fork (fun hb => ?_) (fun hb => ?_))
        refine ⟨others.length - (i + 1), by omega, _, i + 1, O', d', F', L, rfl, ?_, ?_, ?_, ?_, ?_, ?_, by omega, rfl, hh.old k7, made_mono hm, by omega, k7.old _ _ hob, hnO⟩
        · simp (disch := first | omega | assumption) only [go_sem, g2]
        · simp (disch := first | omega | assumption) only [go_sem, g3]
        · simp (disch := first | omega | assumption) only [go_sem, g7]
        · simp (disch := first | omega | assumption) only [go_sem, g9]
        · simp (disch := first | omega | assumption) only [go_sem, g12]
        · simp (disch := first | omega | assumption) only [go_sem, g13, Int.natCast_add, Int.natCast_one]
      · (try first | refine EvO.nx ?_ | refine EvA.nx ?_); repeat' (first | refine Abs.goH (Abs.cc g9 (g13)) ?_ | with_reducible refine Abs.fork (fun hb => ?_) (fun hb => ?_))
        have hma := made_add hm (f := f) hx hg3 hg2
        rw [if_pos hkpo] at hma
        refine ⟨others.length - (i + 1), by omega, _, i + 1, O7, _, _, L + 1, rfl, ?_, ?_, ?_, ?_, ?_, ?_, by omega, rfl, hh7, hma, by omega, mv7.old _ _ hnO hob, (fun ho => (mv7.new _ ho).elim hnO fun h => by have := hh.keep.wf _ _ hob; omega)⟩
        · simp (disch := first | omega | assumption) only [go_sem, g2]
        · simp (disch := first | omega | assumption) only [go_sem, g3]
        · simp (disch := first | omega | assumption) only [go_sem, g7]
        · simp (disch := first | omega | assumption) only [go_sem, Int.natCast_add, Int.natCast_one]
        · simp (disch := first | omega | assumption) only [go_sem, g12]
        · simp (disch := first | omega | assumption) only [go_sem, g13, Int.natCast_add, Int.natCast_one]
    · obtain rfl : i = others.length := by omega
      (try first | refine EvO.nx ?_ | refine EvA.nx ?_); repeat' (first | refine Abs.goH (Abs.cc g2 (Abs.cc g7 (g13))) ?_ | with_reducible refine Abs.fork (fun hb => ?_) (fun hb => ?_))
      refine hcreate_ev n wf2 hh (by omega) (nm := coming) good_coming (fun hx => absurd hx hm.no) (fun hx f s7 O7 mv7 hh7 => ⟨_, _, rfl, ?_⟩)
      have ek : akeys (d'.chg ⟨coming, some f, []⟩).names = akeys d'.names ++ [coming] := by rw [chg_new, akeys_aput, if_neg hx]
      have el : (d'.chg ⟨coming, some f, []⟩).names.length = d'.names.length + 1 := by rw [chg_new, aput_new hx, List.length_append]; rfl
      have hfew := hm.few
      have gv7 := hh7.keep.old _ _ gv2
      (try first | refine EvO.nx ?_ | refine EvA.nx ?_); repeat' (first | refine Abs.goH (Abs.cc g3 (Abs.cc g7 (gv7))) ?_ | with_reducible refine Abs.fork (fun hb => ?_) (fun hb => ?_))
      refine hclean_ev n nn hcl wf2 hh7 hT2 (sv := .slice a fs.length c) (v := ⟨fs, nx, sq, lg⟩) hv2 hgd l60 (by rw [chg_new]; exact nodup_aput hm.nodup _ _) (by rw [el]; omega) (fun k hk => ?_) (by show (d'.chgs ++ [_]).length ≤ _; rw [List.length_append, List.length_singleton]; omega) (by rw [ek]; simp) (fun s8 O8 d8 hh8 hlen8 hs8 hc8 hn8 hk8 => ⟨_, _, rfl, ?_⟩)
      · rw [ek, List.mem_append, List.mem_singleton] at hk
        rcases hk with hk | rfl
        · exact hm.short k hk
        · decide
      have hkc : kpB fs coming = false := kp_false.2 fun h => h.1 rfl
      rw [ek, List.countP_append, hm.cnt, List.countP_singleton, if_neg (by rw [hkc]; decide), Nat.add_zero] at hlen8
      (try first | refine EvO.nx ?_ | refine EvA.nx ?_); repeat' (first | refine Abs.goH (Abs.cc g7 (g9)) ?_ | with_reducible refine Abs.fork (fun hb => ?_) (fun hb => ?_))
      refine hlist2_ev n hh8 hn8 hk8 (by omega) fun la lc s9 k9 => ⟨_, _, rfl, ?_⟩
      rw [hlen8]
      (try first | refine EvO.nx ?_ | refine EvA.nx ?_); repeat' (first | refine Abs.goH (Abs.cc g7 (g9)) ?_ | with_reducible refine Abs.fork (fun hb => ?_) (fun hb => ?_))
      obtain ⟨I, hd, ho, hI⟩ := (hh8.old k9).at_
      have hkept : d8.kept [] = d8.names := by
        unfold DD.kept
        rw [hc8, hs8]
        rfl
      refine crash1_ev n.more n.file n.pick n.do_ n.crash hd k9.wf (IntsB.nil _) (fun c ⟨_, _, _, e⟩ => by cases e) (by rw [hc8]; decide) (by rw [hkept]; exact hn8) (by rw [hkept]; omega) (fun k hk => by rw [hkept] at hk; have := hk8 k hk; omega) (fun f hf => ⟨(hI f hf).1, Nat.le_trans (hI f hf).2 (by decide)⟩) fun s10 O10 mv10 hd10 => ⟨_, _, rfl, ?_⟩
      have hcn : (d8.crash []).names = d8.names := hkept
      (try first | refine EvO.nx ?_ | refine EvA.nx ?_); repeat' (first | refine Abs.goH (Abs.cc g2 (Abs.cc g7 (g9))) ?_ | with_reducible refine Abs.fork (fun hb => ?_) (fun hb => ?_))
      all_goals first | exact ⟨_, rfl⟩ | skip
      refine list_ev n.file n.more hd10 mv10.wf (by rw [hcn]; exact hn8) (by rw [hcn]; omega) (fun k hk => by rw [hcn] at hk; have := hk8 k hk; omega) fun v' s11 k11 hv11 _ => ⟨_, _, rfl, ?_⟩
      obtain ⟨_, a11, c11, rfl⟩ := hv11.src
      have hl0 : (d8.crash []).names.length = 0 := by rw [hcn]; omega
      rw [hl0]
      (try first | refine EvO.nx ?_ | refine EvA.nx ?_); repeat' (first | refine Abs.go ?_ | with_reducible refine Abs.fork (fun hb => ?_) (fun hb => ?_))
      exact ⟨_, rfl⟩
end
end Go.Proofs.YtbakhdgiimjnkaaGreatDoor

