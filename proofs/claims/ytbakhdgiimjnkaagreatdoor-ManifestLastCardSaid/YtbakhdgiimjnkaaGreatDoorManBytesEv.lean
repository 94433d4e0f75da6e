/-
  The law ManifestBytes at the evaluator: it says true.
-/
import Derived.Test.YtbakhdgiimjnkaaGreatDoorManEnc
import Derived.Test.YtbakhdgiimjnkaaGreatDoorEvSet
namespace Go.Proofs.YtbakhdgiimjnkaaGreatDoor
open Abs
set_option maxHeartbeats 16000000
set_option maxRecDepth 20000
set_option linter.unusedSimpArgs false
attribute [local irreducible] Abs.Ev Abs.EvF Abs.EvO Abs.EvA Abs.Seq Abs.Blk Abs.Body Abs.Scp Abs.EvG Abs.EvAg Abs.Nx
attribute [local go_sem] Abs.eDelete
attribute [local go_sem] Tryz.underlying3 Ty.sz3 Ty.by3 Ty.ag3 Ty.ze3 Tryz.underlying4 Ty.sz4 Ty.by4 Ty.ag4 Ty.ze4 Tryz.underlying5 Ty.sz5 Ty.by5 Ty.ag5 Ty.ze5 Tryz.underlying9 Ty.sz9 Ty.by9 Ty.ag9 Ty.ze9 Tryz.underlying23 Ty.sz23 Ty.by23 Ty.ag23 Ty.ze23 Tryz.underlying24 Ty.sz24 Ty.by24 Ty.ag24 Ty.ze24 Tryz.underlying26 Ty.sz26 Ty.by26 Ty.ag26 Ty.ze26 Tryz.underlying28 Ty.sz28 Ty.by28 Ty.ag28 Ty.ze28 Tryz.underlying29 Ty.sz29 Ty.by29 Ty.ag29 Ty.ze29 Tryz.underlying41 Ty.sz41 Ty.by41 Ty.ag41 Ty.ze41
section
variable {Sm : Summ}
theorem Abs.Ev.forget {P : Program} {fn : FuncId} {rd : Option Nat} {Q : Ans → Prop} {c : Code} {T : Tr Value} {n : Nat} {s : St} (G : Tr Value → Prop) (hG : G T) (h : ∀ T, G T → Ev P Sm (.code fn rd c ⟨T, n, []⟩ s) Q) : Ev P Sm (.code fn rd c ⟨T, n, []⟩ s) Q := h T hG
theorem wf_set {s : St} (h : s.wf) {b : Nat} {x : AObj} (hb : s.heap.get b = some x) (y : AObj) : (⟨s.heap.set b y, s.next⟩ : St).wf := fun c z e => by
  rcases Tr.get_set e with ⟨rfl, _⟩ | ⟨_, e⟩
  · exact h _ _ hb
  · exact h c z e
theorem cut_pre {L : List UInt8} {n : Nat} (h : n ≤ L.length) : cutN (byteCells L) 0 n = some (byteCells (L.take n)) := by
  rw [cutN_eq, if_pos (by rw [byteCells_len]; omega), List.drop_zero, byteCells_eq, byteCells_eq, List.map_take]
theorem decV_seq (l : List UInt8) : (decV l).1.seq < 18446744073709551616 := (rdUint_le _).1
theorem decV_files (l : List UInt8) : (decV l).1.files.length ≤ 1000 := by
  show (decFs _ _).1.length ≤ 1000
  rw [decFs_length]
  exact (rdInt_le 1000 _).1
theorem encV_pos (v : MV) : encV v ≠ [] := by
  intro h
  have := congrArg List.length h
  unfold encV at this
  have h2 := uintB_pos v.files.length
  rw [List.length_append] at this
  simp only [List.length_nil] at this
  omega
theorem decOk_enc {v : MV} (h : GoodV v) (hs : v.seq < 18446744073709551616) : DecOk (encV v) ∧ (decV (encV v)).1 = v := by
  have := decV_enc h hs
  unfold DecOk
  rw [this]
  exact ⟨⟨rfl, rfl, h, rfl⟩, rfl⟩
theorem filesC_one : ∀ l : List MF, (filesC l).all oneB = true
  | [] => rfl
  | f :: l => by
    show (fileC f ++ filesC l).all oneB = true
    rw [List.all_append, filesC_one l]
    rfl
theorem FilesAt.veq {s : St} {v : Value} {l : List MF} (h : FilesAt s v l) : vEq2 v v = true := by
  obtain ⟨a, c, rfl⟩ := h.is
  have h2 := h.src
  cases a with
  | none => exact vEq2_nils _ _
  | some a =>
    obtain ⟨b, o, sp⟩ := a
    cases sp with
    | some _ => cases h2
    | none => exact vEq2_slice _ _ _ _
theorem Abs.Vec.open {s : St} {e : TypeId} {sz b o n : Nat} {cs : List Value} (h : Vec s e sz (.slice (some ⟨b, o, none⟩) n open_) n cs) (hn : n < open_) : ∃ l, s.heap.get b = some (.cells l e sz true (0, 0)) ∧ o % sz = 0 ∧ o + n * sz ≤ l.length ∧ (l.drop o).take (n * sz) = cs := by
  cases h with
  | full h => exact absurd hn (Nat.lt_irrefl _)
  | room hb ho hl hc => exact ⟨_, hb, ho, hl.1, hc⟩
theorem file9_build : aBuild Tryz.prog 41 [(0, .int .i64 9)] = .ok (.agg ⟨fileC ⟨9, 0, [], []⟩⟩) := by kernel_rfl
theorem file9_lit : aSliceLit Tryz.prog 41 1 [(0, .agg ⟨[.int .i64 9, .int .i64 0, .string ⟨#[]⟩, .string ⟨#[]⟩]⟩)] = .ok (.cells (fileC ⟨9, 0, [], []⟩) 41 0 false (0, 0), fun n => .slice (some ⟨n, 0, none⟩) 1 1) := by kernel_rfl
theorem file_lit0 : aSliceLit Tryz.prog 41 0 [] = .ok (.cells [] 41 0 false (0, 0), fun n => .slice (some ⟨n, 0, none⟩) 0 0) := by kernel_rfl
attribute [local go_sem] file_lit0 file9_lit List.set_cons_zero List.set_cons_succ Nat.zero_mul Nat.sub_zero cut4 Int.toNat_natCast Nat.div_one ver_zero
set_option maxRecDepth 40000 in
theorem manifestBytes_ev (hF : Sm 4 = none) {g : List Value → St → Rs (Value × St)} (hA : Sm 15 = some g) (h1 : Sm 23 = none) (h2 : Sm 24 = none) (h3 : Sm 17 = none) (h4 : Sm 18 = none) (hn : NoBin Sm) {s : St} (hg : ∀ s', Keep s s' → g [] s' = .ok (.bool true, s')) (hwf : s.wf)
    {sv : Value} {v : MV} (hv : FilesAt s sv v.files) (hsq : v.seq < 18446744073709551616) (hl : v.files.length < 140737488355328) (at_ cut : Int) (by_ : Nat) (hby : by_ < 256) (hcut : -9223372036854775808 ≤ cut ∧ cut ≤ 9223372036854775807) :
    Ev Tryz.prog Sm (.inv (.fn (.func 4) #[]) [verV sv v, .int .i64 at_, .int .u8 (by_ : Int), .int .i64 cut] s) fun r => ∃ s', r = .val (.bool true) s' := by
  refine Ev.func hF Tryz.func4 rfl (m := 132) rfl ?_
  simp only [Array.toList_empty, List.append_nil, ofList_cons, ofList_nil]
  obtain ⟨fs, nx, sq, lg⟩ := v
  obtain ⟨⟨a, c, rfl⟩, hsrc⟩ := id hv
  simp only at hv hsrc hl hsq
  unfold verV
  (try first | refine EvO.nx ?_ | refine EvA.nx ?_); repeat' (first | refine Abs.go ?_ | with_reducible refine Abs.fork (fun hb => ?_) (fun hb => ?_))
  have hk1 := (Keep.refl hwf).new (.cells [.slice a fs.length c, .int .i64 nx, .int .u64 (sq : Int), .int .i64 lg] 26 0 false (0, 0))
  refine Ev.summ hA (hg _ hk1) ⟨_, _, rfl, ?_⟩
  (try first | refine EvO.nx ?_ | refine EvA.nx ?_); repeat' (first | refine Abs.go ?_ | with_reducible refine Abs.fork (fun hb => ?_) (fun hb => ?_))
  · exact ⟨_, rfl⟩
  have hfl : fs.length ≤ 60 := by omega
  refine Abs.Ev.regionD (n := 13) (l := [.go 1, .go 2, .go 4, .go 7, .go 8, .go 9, .new 0 0, .go 3, .again 8, .new 5 5, .go 6, .again 8, .go 10, .go 11, .go 12]) (by kernel_rfl) ?_
  (try first | refine EvO.nx ?_ | refine EvA.nx ?_); repeat' (first | refine Abs.go ?_ | with_reducible refine Abs.fork (fun hb => ?_) (fun hb => ?_))
  all_goals (
    have hk2 : Keep s ⟨(((s.heap.set s.next (.cells [.slice a fs.length c, .int .i64 nx, .int .u64 (sq : Int), .int .i64 lg] 26 0 false (0, 0))).set (s.next + 1) (.cells [.slice none 0 0, .int .i64 0, .int .u64 0, .int .i64 0] 26 0 false (0, 0))).set (s.next + 1) (.cells [.slice a fs.length c, .int .i64 nx, .int .u64 (sq : Int), .int .i64 lg] 26 0 false (0, 0))).set (s.next + 2) (.cells [] 41 0 false (0, 0)), s.next + 1 + 1 + 13⟩ := by ((repeat (refine Abs.Keep.set2 ?_ (by omega) (by omega) hwf)); exact Abs.Keep.grow (Keep.refl hwf) (by omega))
    refine EvO.appendW (n := 0) (m := fs.length) (cs := []) (nw := filesC fs) hk2.wf Tryz.underlying23 Ty.sz41 Ty.by41 Ty.ze41 rfl (by decide) (.full (src_cells (get_same _ _ _) rfl)) (by decide) ((appSrc_slice Tryz.underlying23).trans (hv.mono hk2.old).src) (by rw [filesC_len]) (filesC_one _) (by omega) (by omega) fun v1 s1 k1 k2 k3 k4 k5 k6 => ?_
    have hk3 : Keep s s1 := hk2.appendV k3 k4 k6 hwf (by rintro b ⟨o, n, e⟩; cases e)
    have hv1 : s1.heap.get s.next = some (.cells [.slice a fs.length c, .int .i64 nx, .int .u64 (sq : Int), .int .i64 lg] 26 0 false (0, 0)) := k5 _ _ (by simp (disch := first | omega | assumption) only [go_sem, ]) (by simp)
    have hw1 : s1.heap.get (s.next + 1) = some (.cells [.slice a fs.length c, .int .i64 nx, .int .u64 (sq : Int), .int .i64 lg] 26 0 false (0, 0)) := k5 _ _ (by simp (disch := first | omega | assumption) only [go_sem, ]) (by simp)
    have hn1 : s.next + 1 + 1 + 13 ≤ s1.next := k4
    have hva := hv.veq
    (try first | refine EvO.nx ?_ | refine EvA.nx ?_); repeat' (first | refine Abs.goH (Abs.cc hv1 (Abs.cc hw1 (hva))) ?_ | with_reducible refine Abs.fork (fun hb => ?_) (fun hb => ?_))
    have hk4 : Keep s ⟨s1.heap.set (s.next + 1 + 1 + 5) (.cells (fileC ⟨9, 0, [], []⟩) 41 0 false (0, 0)), s1.next⟩ := by ((repeat (refine Abs.Keep.set2 ?_ (by omega) (by omega) hwf)); exact Abs.Keep.grow hk3 (by omega))
    have q1 : Vec ⟨s1.heap.set (s.next + 1 + 1 + 5) (.cells (fileC ⟨9, 0, [], []⟩) 41 0 false (0, 0)), s1.next⟩ 41 4 v1 fs.length (filesC fs) := by
      rw [Nat.zero_add, List.nil_append] at k1
      refine k1.mono fun b x hb hx => ?_
      show (s1.heap.set (s.next + 1 + 1 + 5) _).get b = some x
      refine get_old hx ?_
      rcases k2 b hb with rfl | ⟨o, n, c, e⟩
      · show s.next + 1 + 1 + 13 ≠ _
        omega
      · cases e
        omega
    refine EvO.appendV (m := 1) (nw := fileC ⟨9, 0, [], []⟩) hk4.wf Tryz.underlying23 Ty.sz41 Ty.by41 Ty.ze41 rfl (by decide) q1 (by unfold open_; omega) ((appSrc_slice Tryz.underlying23).trans (src_cells (get_same _ _ _) rfl)) rfl rfl (by decide) (by omega) (by omega) fun v2 s2 p1 p2 p3 p4 p5 p6 => ?_
    have hk5 : Keep s s2 := hk4.appendV p3 p4 p6 hwf (by
      rintro b hb
      rcases k2 b hb.blk with rfl | ⟨o, n, c, e⟩
      · show s.next ≤ s.next + 1 + 1 + 13
        omega
      · cases e
        omega)
    have hv2 : s2.heap.get s.next = some (.cells [.slice a fs.length c, .int .i64 nx, .int .u64 (sq : Int), .int .i64 lg] 26 0 false (0, 0)) := p5 _ _ (by simp (disch := first | omega | assumption) only [go_sem, hv1]) (by simp)
    have hw2 : s2.heap.get (s.next + 1) = some (.cells [.slice a fs.length c, .int .i64 nx, .int .u64 (sq : Int), .int .i64 lg] 26 0 false (0, 0)) := p5 _ _ (by simp (disch := first | omega | assumption) only [go_sem, hw1]) (by simp)
    have hn2 : s1.next ≤ s2.next := p4
    clear hk2 hk3 hk4 k1 k2 k3 k4 k5 k6 q1 hv1 hw1
    obtain ⟨b2, o2, rfl, _⟩ := p2
    obtain ⟨w2, hb2, ho2, hl2, hc2⟩ := p1.open (by unfold open_; omega)
    (try first | refine EvO.nx ?_ | refine EvA.nx ?_); repeat' (first | refine Abs.goH (Abs.cc hv2 (Abs.cc hw2 (Abs.cc hva (hb2)))) ?_ | with_reducible refine Abs.fork (fun hb => ?_) (fun hb => ?_))
    have hk6 : Keep s ⟨s2.heap.set (s.next + 1) (.cells [.slice (some ⟨b2, o2, none⟩) fs.length open_, .int .i64 nx, .int .u64 (sq : Int), .int .i64 lg] 26 0 false (0, 0)), s2.next⟩ := by ((repeat (refine Abs.Keep.set2 ?_ (by omega) (by omega) hwf)); exact Abs.Keep.grow hk5 (by omega))
    have hne2 : b2 ≠ s.next + 1 := by rintro rfl; rw [hb2] at hw2; cases hw2
    have hfv2 : FilesAt ⟨s2.heap.set (s.next + 1) (.cells [.slice (some ⟨b2, o2, none⟩) fs.length open_, .int .i64 nx, .int .u64 (sq : Int), .int .i64 lg] 26 0 false (0, 0)), s2.next⟩ (.slice (some ⟨b2, o2, none⟩) fs.length open_) fs := by
      refine ⟨⟨_, _, rfl⟩, ?_⟩
      have e : (w2.drop o2).take (fs.length * 4) = filesC fs := by
        have e := congrArg (List.take (fs.length * 4)) hc2
        rw [List.take_take, Nat.min_eq_left (by omega)] at e
        rw [e, List.take_append_of_le_length (by rw [filesC_len]; exact Nat.le_refl _), List.take_of_length_le (by rw [filesC_len]; exact Nat.le_refl _)]
      rw [src_room (get_old hb2 hne2) (by omega), e]
    have hv3 : (s2.heap.set (s.next + 1) (.cells [.slice (some ⟨b2, o2, none⟩) fs.length open_, .int .i64 nx, .int .u64 (sq : Int), .int .i64 lg] 26 0 false (0, 0))).get s.next = some (.cells [.slice a fs.length c, .int .i64 nx, .int .u64 (sq : Int), .int .i64 lg] 26 0 false (0, 0)) := get_old hv2 (by omega)
    have hw3 := get_same s2.heap (s.next + 1) (AObj.cells [.slice (some ⟨b2, o2, none⟩) fs.length open_, .int .i64 nx, .int .u64 (sq : Int), .int .i64 lg] 26 0 false (0, 0))
    have hva3 := hv.mono hk6.old
    clear hk5 hv2 hw2 p1 p3 p4 p5 p6 hc2 hb2
    refine encode_ev h3 hn hk6.wf (sv := .slice (some ⟨b2, o2, none⟩) fs.length open_) (v := ⟨fs, nx, sq, lg⟩) hfv2 (by show fs.length < _; omega) hsq (fun hgd s4 k4 => ⟨_, _, rfl, ?_⟩) (fun hgd bv s4 k4 hbv => ⟨_, _, rfl, ?_⟩)
    · have hv4 := k4.old _ _ hv3
      have hw4 := k4.old _ _ hw3
      (try first | refine EvO.nx ?_ | refine EvA.nx ?_); repeat' (first | refine Abs.goH (Abs.cc hv4 (hw4)) ?_ | with_reducible refine Abs.fork (fun hb => ?_) (fun hb => ?_))
      refine same_ev h1 k4.wf (sv := .slice a fs.length c) (su := .slice (some ⟨b2, o2, none⟩) fs.length open_) (v := ⟨fs, nx, sq, lg⟩) (u := ⟨fs, nx, sq, lg⟩) (hva3.mono k4.old) (hfv2.mono k4.old) (by show fs.length < _; omega) (fun hne => absurd rfl hne) (fun _ s5 k5 => ⟨_, _, rfl, ?_⟩)
      have hv5 := k5.old _ _ hv4
      (try first | refine EvO.nx ?_ | refine EvA.nx ?_); repeat' (first | refine Abs.goH hv5 ?_ | with_reducible refine Abs.fork (fun hb => ?_) (fun hb => ?_))
      refine may_ev h2 k5.wf (sv := .slice a fs.length c) (v := ⟨fs, nx, sq, lg⟩) ((hva3.mono k4.old).mono k5.old) (by show fs.length < _; omega) (fun _ s6 k6 => ⟨_, _, rfl, ?_⟩) (fun hx => absurd hx hgd)
      (try first | refine EvO.nx ?_ | refine EvA.nx ?_); repeat' (first | refine Abs.go ?_ | with_reducible refine Abs.fork (fun hb => ?_) (fun hb => ?_))
      exact ⟨_, rfl⟩
    · have hd := decOk_enc hgd hsq
      have hp := encV_pos ⟨fs, nx, sq, lg⟩
      have hle := encV_le hgd hsq
      simp only at hle
      have hv4 := k4.old _ _ hv3
      have hw4 := k4.old _ _ hw3
      have hva4 := hva3.mono k4.old
      have hfv4 := hfv2.mono k4.old
      clear hv3 hw3 hva3 hfv2
      generalize encV ⟨fs, nx, sq, lg⟩ = L at *
      obtain ⟨hd1, hd2⟩ := hd
      cases hbv with
      | nil => exact absurd rfl hp
      | zero _ => exact absurd rfl hp
      | @own bb _ hbb _ hbl =>
        (try first | refine EvO.nx ?_ | refine EvA.nx ?_); repeat' (first | refine Abs.goH (Abs.cc hv4 (hw4)) ?_ | with_reducible refine Abs.fork (fun hb => ?_) (fun hb => ?_))
        refine same_ev h1 k4.wf (sv := .slice a fs.length c) (su := .slice (some ⟨b2, o2, none⟩) fs.length open_) (v := ⟨fs, nx, sq, lg⟩) (u := ⟨fs, nx, sq, lg⟩) hva4 hfv4 (by show fs.length < _; omega) (fun hne => absurd rfl hne) (fun _ s5 k5 => ⟨_, _, rfl, ?_⟩)
        have hv5 := k5.old _ _ hv4
        have hbb5 := k5.old _ _ hbb
        have hva5 := hva4.mono k5.old
        (try first | refine EvO.nx ?_ | refine EvA.nx ?_); repeat' (first | refine Abs.goH hv5 ?_ | with_reducible refine Abs.fork (fun hb => ?_) (fun hb => ?_))
        refine may_ev h2 k5.wf (sv := .slice a fs.length c) (v := ⟨fs, nx, sq, lg⟩) hva5 (by show fs.length < _; omega) (fun hx => absurd hgd hx) (fun _ s6 k6 => ⟨_, _, rfl, ?_⟩)
        have hv6 := k6.old _ _ hv5
        have hbb6 := k6.old _ _ hbb5
        have hva6 := hva5.mono k6.old
        (try first | refine EvO.nx ?_ | refine EvA.nx ?_); repeat' (first | refine Abs.go ?_ | with_reducible refine Abs.fork (fun hb => ?_) (fun hb => ?_))
        refine decode_ev h4 h3 hn k6.wf (bv := .slice (some ⟨bb, 0, none⟩) L.length open_) (l := L) (.part hbb6 rfl (cut_all (byteCells_len L))) (by omega) (fun hnd => absurd hd1 hnd) (fun _ fv s7 k7 hf7 => ⟨_, _, rfl, ?_⟩)
        rw [hd2] at hf7 ⊢
        unfold verV
        have hv7 := k7.old _ _ hv6
        have hbb7 := k7.old _ _ hbb6
        have hva7 := hva6.mono k7.old
        have hwf7 := k7.wf
        have hlt7 := k7.wf _ _ hv7
        obtain ⟨fva, fvc, rfl⟩ := hf7.is
        (try first | refine EvO.nx ?_ | refine EvA.nx ?_); repeat' (first | refine Abs.goH hv7 ?_ | with_reducible refine Abs.fork (fun hb => ?_) (fun hb => ?_))
        have hk8 : Keep s7 ⟨(s7.heap.set s7.next (.cells [.slice none 0 0, .int .i64 0, .int .u64 0, .int .i64 0] 26 0 false (0, 0))).set s7.next (.cells [.slice fva fs.length fvc, .int .i64 nx, .int .u64 (sq : Int), .int .i64 lg] 26 0 false (0, 0)), s7.next + 1⟩ := by
          have hwf := hwf7
          ((repeat (refine Abs.Keep.set2 ?_ (by omega) (by omega) hwf)); exact Abs.Keep.grow (Keep.refl hwf7) (by omega))
        refine same_ev h1 hk8.wf (sv := .slice fva fs.length fvc) (su := .slice a fs.length c) (v := ⟨fs, nx, sq, lg⟩) (u := ⟨fs, nx, sq, lg⟩) (hf7.mono hk8.old) (hva7.mono hk8.old) (by show fs.length < _; omega) (fun hne => absurd rfl hne) (fun _ s8 k8 => ⟨_, _, rfl, ?_⟩)
        have hbb8 := k8.old _ _ (hk8.old _ _ hbb7)
        have hwf8 := k8.wf
        clear hv4 hw4 hva4 hfv4 k4 k5 k6 k7 k8 hk8 hbb hbb5 hbb6 hbb7 hv5 hv6 hv7 hva5 hva6 hva7 hf7 hk6
        (try first | refine EvO.nx ?_ | refine EvA.nx ?_); repeat' (first | refine Abs.go1 ?_ | with_reducible refine Abs.fork (fun hb => ?_) (fun hb => ?_))
        refine Ev.forget (fun T => T.get 1 = some (.int .i64 at_) ∧ T.get 2 = some (.int .u8 (by_ : Int)) ∧ T.get 3 = some (.int .i64 cut) ∧ T.get 10 = some (.slice (some ⟨bb, 0, none⟩) L.length open_)) ⟨by simp (disch := first | omega | assumption) only [go_sem, ], by simp (disch := first | omega | assumption) only [go_sem, ], by simp (disch := first | omega | assumption) only [go_sem, ], by simp (disch := first | omega | assumption) only [go_sem, ]⟩ ?_
        rintro T ⟨g1, g2, g3, g10⟩
        refine Ev.seq ?_
        refine Ev.mono (R := fun r => ∃ T s9 L1, r = .at .normal ⟨T, 132, []⟩ s9 ∧ T.get 3 = some (.int .i64 cut) ∧ T.get 10 = some (.slice (some ⟨bb, 0, none⟩) L.length open_) ∧ s9.heap.get bb = some (.cells (byteCells L1) 5 1 true (0, 0)) ∧ L1.length = L.length ∧ s9.wf) ?_ ?_
        · by_cases hat : 0 ≤ at_ ∧ at_ < L.length
          · obtain ⟨x, hx⟩ : ∃ x, L[at_.toNat]? = some x := ⟨L[at_.toNat]'(by omega), List.getElem?_eq_getElem _⟩
            have hx2 : (byteCells L)[at_.toNat]? = some (.int .u8 ((x.toNat : Nat) : Int)) := by
              rw [byteCells_eq, List.getElem?_map, hx]
              rfl
            have hx3 : x.toNat < 256 := x.toNat_lt
            have hbl2 := byteCells_len L
            (try first | refine EvO.nx ?_ | refine EvA.nx ?_); repeat' (first | refine Abs.goH (Abs.cc g1 (Abs.cc g2 (Abs.cc g3 (Abs.cc g10 (Abs.cc hbb8 (Abs.cc hx2 (hbl2))))))) ?_ | with_reducible refine Abs.fork (fun hb => ?_) (fun hb => ?_))
            have hy : (UInt8.ofNat (x.toNat ^^^ by_)).toNat = x.toNat ^^^ by_ := by
              have := Nat.xor_lt_two_pow (n := 8) hx3 hby
              rw [UInt8.toNat_ofNat']
              exact Nat.mod_eq_of_lt this
            refine ⟨_, _, L.set at_.toNat (UInt8.ofNat (x.toNat ^^^ by_)), rfl, by simp (disch := first | omega | assumption) only [go_sem, g3], by simp (disch := first | omega | assumption) only [go_sem, g10], ?_, by simp, wf_set hwf8 hbb8 _⟩
            show (s8.heap.set bb _).get bb = _
            rw [get_same]
            simp only [byteCells_eq, List.map_set, hy]
            rfl
          · (try first | refine EvO.nx ?_ | refine EvA.nx ?_); repeat' (first | refine Abs.goH (Abs.cc g1 (Abs.cc g2 (Abs.cc g3 (Abs.cc g10 (hbb8))))) ?_ | with_reducible refine Abs.fork (fun hb => ?_) (fun hb => ?_))
            all_goals exact ⟨_, s8, L, rfl, by simp (disch := first | omega | assumption) only [go_sem, g3], by simp (disch := first | omega | assumption) only [go_sem, g10], hbb8, rfl, hwf8⟩
        · rintro r ⟨T, s9, L1, rfl, g3, g10, hb9, hl9, hwf9⟩
          clear g1 g2 hbb8 hwf8
          have hbl2 := byteCells_len L1
          refine Seq.go ?_
          refine Ev.seq ?_
          refine Ev.mono (R := fun r => ∃ T n, r = .at .normal ⟨T, 132, []⟩ s9 ∧ T.get 10 = some (.slice (some ⟨bb, 0, none⟩) n open_) ∧ n ≤ L1.length) ?_ ?_
          · by_cases hct : 0 < cut ∧ cut ≤ L.length
            · (try first | refine EvO.nx ?_ | refine EvA.nx ?_); repeat' (first | refine Abs.goH (Abs.cc g3 (Abs.cc g10 (Abs.cc hb9 (hbl2)))) ?_ | with_reducible refine Abs.fork (fun hb => ?_) (fun hb => ?_))
              refine ⟨_, (((L.length : Nat) : Int) - cut).toNat, rfl, ?_, by omega⟩
              simp (disch := first | omega | assumption) only [go_sem, ]
            · (try first | refine EvO.nx ?_ | refine EvA.nx ?_); repeat' (first | refine Abs.goH (Abs.cc g3 (Abs.cc g10 (Abs.cc hb9 (hbl2)))) ?_ | with_reducible refine Abs.fork (fun hb => ?_) (fun hb => ?_))
              all_goals exact ⟨_, L.length, rfl, by simp (disch := first | omega | assumption) only [go_sem, g10], by omega⟩
          · rintro r ⟨T, n, rfl, g10, hn9⟩
            refine Seq.go ?_
            have hcp := cut_pre hn9
            have hlt : n = (L1.take n).length := by rw [List.length_take]; omega
            generalize L1.take n = L2 at *
            have hbc : BytesC s9 (.slice (some ⟨bb, 0, none⟩) n open_) L2 := .part hb9 hlt hcp
            (try first | refine EvO.nx ?_ | refine EvA.nx ?_); repeat' (first | refine Abs.goH g10 ?_ | with_reducible refine Abs.fork (fun hb => ?_) (fun hb => ?_))
            refine decode_ev h4 h3 hn hwf9 (l := L2) hbc (by omega) (fun hnd s10 k10 => ⟨_, _, rfl, ?_⟩) (fun hdo fv s10 k10 hf10 => ⟨_, _, rfl, ?_⟩)
            · unfold verV
              (try first | refine EvO.nx ?_ | refine EvA.nx ?_); repeat' (first | refine Abs.go ?_ | with_reducible refine Abs.fork (fun hb => ?_) (fun hb => ?_))
              have hk11 : Keep s10 ⟨(s10.heap.set s10.next (.cells [.slice none 0 0, .int .i64 0, .int .u64 0, .int .i64 0] 26 0 false (0, 0))).set s10.next (.cells [.slice none 0 0, .int .i64 0, .int .u64 ((0 : Nat) : Int), .int .i64 0] 26 0 false (0, 0)), s10.next + 1⟩ := by
                have hwf := k10.wf
                ((repeat (refine Abs.Keep.set2 ?_ (by omega) (by omega) hwf)); exact Abs.Keep.grow (Keep.refl hwf) (by omega))
              refine same_ev h1 hk11.wf (sv := .slice none 0 0) (su := .slice none 0 0) (v := ⟨[], 0, 0, 0⟩) (u := ⟨[], 0, 0, 0⟩) ⟨⟨none, 0, rfl⟩, rfl⟩ ⟨⟨none, 0, rfl⟩, rfl⟩ (by decide) (fun hne => absurd rfl hne) (fun _ s12 k12 => ⟨_, _, rfl, ?_⟩)
              (try first | refine EvO.nx ?_ | refine EvA.nx ?_); repeat' (first | refine Abs.go ?_ | with_reducible refine Abs.fork (fun hb => ?_) (fun hb => ?_))
              exact ⟨_, rfl⟩
            · have hq1 := decV_seq L2
              have hq2 := decV_files L2
              obtain ⟨hd1, hd2, hd3, hd4⟩ := hdo
              generalize (decV L2).1 = y at *
              obtain ⟨yf, yn, ys, yl⟩ := y
              simp only at hf10 hq1 hq2
              obtain ⟨fva, fvc, rfl⟩ := hf10.is
              unfold verV
              (try first | refine EvO.nx ?_ | refine EvA.nx ?_); repeat' (first | refine Abs.go ?_ | with_reducible refine Abs.fork (fun hb => ?_) (fun hb => ?_))
              have hk11 : Keep s10 ⟨(s10.heap.set s10.next (.cells [.slice none 0 0, .int .i64 0, .int .u64 0, .int .i64 0] 26 0 false (0, 0))).set s10.next (.cells [.slice fva yf.length fvc, .int .i64 yn, .int .u64 (ys : Int), .int .i64 yl] 26 0 false (0, 0)), s10.next + 1⟩ := by
                have hwf := k10.wf
                ((repeat (refine Abs.Keep.set2 ?_ (by omega) (by omega) hwf)); exact Abs.Keep.grow (Keep.refl hwf) (by omega))
              refine encode_ev h3 hn hk11.wf (sv := .slice fva yf.length fvc) (v := ⟨yf, yn, ys, yl⟩) (hf10.mono hk11.old) (by show yf.length < _; omega) hq1 (fun hx => absurd hd3 hx) (fun _ cv s12 k12 hcv => ⟨_, _, rfl, ?_⟩)
              rw [hd4] at hcv
              have hb12 := k12.old _ _ (hk11.old _ _ (k10.old _ _ hb9))
              have hcb := cut_bytes hcp
              have hself : (L2 == L2) = true := by simp
              cases hcv with
              | nil =>
                (try first | refine EvO.nx ?_ | refine EvA.nx ?_); repeat' (first | refine Abs.goH (Abs.cc g10 (Abs.cc hb12 (Abs.cc hcb (hself)))) ?_ | with_reducible refine Abs.fork (fun hb => ?_) (fun hb => ?_))
                exact ⟨_, rfl⟩
              | zero hz =>
                (try first | refine EvO.nx ?_ | refine EvA.nx ?_); repeat' (first | refine Abs.goH (Abs.cc g10 (Abs.cc hb12 (Abs.cc hcb (Abs.cc hz (hself))))) ?_ | with_reducible refine Abs.fork (fun hb => ?_) (fun hb => ?_))
                exact ⟨_, rfl⟩
              | own hz _ _ =>
                have hcz := cut_bytes (cut_all (byteCells_len L2))
                (try first | refine EvO.nx ?_ | refine EvA.nx ?_); repeat' (first | refine Abs.goH (Abs.cc g10 (Abs.cc hb12 (Abs.cc hcb (Abs.cc hz (Abs.cc hcz (hself)))))) ?_ | with_reducible refine Abs.fork (fun hb => ?_) (fun hb => ?_))
                exact ⟨_, rfl⟩)
end
end Go.Proofs.YtbakhdgiimjnkaaGreatDoor
