/-
  manifest, versions: what bytes.Equal, Encode and Decode do, at the evaluator.
-/
import Derived.Test.YtbakhdgiimjnkaaGreatDoorManEv
import Derived.Test.YtbakhdgiimjnkaaGreatDoorBnA
import Derived.Test.YtbakhdgiimjnkaaGreatDoorEvSet
namespace Go.Proofs.YtbakhdgiimjnkaaGreatDoor
open Abs
set_option maxHeartbeats 16000000
set_option maxRecDepth 20000
set_option linter.unusedSimpArgs false
attribute [local irreducible] Abs.Ev Abs.EvF Abs.EvO Abs.EvA Abs.Seq Abs.Blk Abs.Body Abs.Scp Abs.EvG Abs.EvAg Abs.Nx
attribute [local go_sem] Abs.eDelete
attribute [local go_sem] Tryz.underlying3 Ty.sz3 Ty.by3 Ty.ag3 Ty.ze3 Tryz.underlying4 Ty.sz4 Ty.by4 Ty.ag4 Ty.ze4 Tryz.underlying5 Ty.sz5 Ty.by5 Ty.ag5 Ty.ze5 Tryz.underlying9 Ty.sz9 Ty.by9 Ty.ag9 Ty.ze9 Tryz.underlying23 Ty.sz23 Ty.by23 Ty.ag23 Ty.ze23 Tryz.underlying24 Ty.sz24 Ty.by24 Ty.ag24 Ty.ze24 Tryz.underlying26 Ty.sz26 Ty.by26 Ty.ag26 Ty.ze26 Tryz.underlying28 Ty.sz28 Ty.by28 Ty.ag28 Ty.ze28 Tryz.underlying29 Ty.sz29 Ty.by29 Ty.ag29 Ty.ze29 Tryz.underlying41 Ty.sz41 Ty.by41 Ty.ag41 Ty.ze41 Tryz.underlying83 Ty.sz83 Ty.by83 Ty.ag83 Ty.ze83 Tryz.underlying124 Ty.sz124 Ty.by124 Ty.ag124 Ty.ze124 Tryz.underlying127 Ty.sz127 Ty.by127 Ty.ag127 Ty.ze127
section
variable {Sm : Summ} {Q : Ans → Prop}
/-- no summary stands for bin's functions -/
structure NoBin (Sm : Summ) : Prop where
  uint : Sm 47 = none
  text : Sm 48 = none
  clone : Sm 80 = none
  read : Sm 49 = none
  num : Sm 83 = none
  int : Sm 50 = none
  ruint : Sm 52 = none
  rtext : Sm 51 = none
  fin : Sm 53 = none
  good : Sm 46 = none
  equal : Sm 54 = none
theorem encFs_pre {nx : Int} (hn : nx ≤ 999999) {l : List MF} (h : ∀ f ∈ l, GoodF nx f) (hl : l.length ≤ 1000) (i : Nat) : (encFs (l.take i)).length ≤ 520000 := by
  have := encFs_le hn (l.take i) fun f hf => h f (List.mem_of_mem_take hf)
  have h2 : (l.take i).length ≤ 1000 := by rw [List.length_take]; omega
  omega
theorem encFs_take {l : List MF} {i : Nat} (h : i < l.length) : encFs (l.take (i + 1)) = encFs (l.take i) ++ encF l[i] := by
  rw [List.take_add_one, List.getElem?_eq_getElem h, encFs_append]
  show _ ++ (encF l[i] ++ []) = _
  rw [List.append_nil]
set_option maxRecDepth 20000 in
theorem encode_ev (hs : Sm 17 = none) (hn : NoBin Sm) {s : St} (hwf : s.wf) {sv : Value} {v : MV} (hv : FilesAt s sv v.files) (hl : v.files.length < 1000000000) (hsq : v.seq < 18446744073709551616) (hF : ¬ GoodV v → ∀ s', Keep s s' → Q (.val (.tuple #[.slice none 0 0, .int .i64 1]) s')) (hT : GoodV v → ∀ bv s', Keep s s' → TxtB s' s.next bv (encV v) → Q (.val (.tuple #[bv, .int .i64 0]) s')) :
    Ev Tryz.prog Sm (.inv (.fn (.func 17) #[]) [verV sv v] s) Q := by
  refine Ev.func hs Tryz.func17 rfl (m := 54) rfl ?_
  simp only [Array.toList_empty, List.append_nil, ofList_cons, ofList_nil]
  obtain ⟨fs, nx, sq, lg⟩ := v
  obtain ⟨⟨a, c, rfl⟩, hsrc⟩ := id hv
  simp only at hv hsrc hl hsq
  unfold verV
  (try first | refine EvO.nx ?_ | refine EvA.nx ?_); repeat' (first | refine Abs.go ?_ | with_reducible refine Abs.fork (fun hb => ?_) (fun hb => ?_))
  have hk1 := (Keep.refl hwf).new (.cells [.slice a fs.length c, .int .i64 nx, .int .u64 (sq : Int), .int .i64 lg] 26 0 false (0, 0))
  refine good_ev hn.good hk1.wf (sv := .slice a fs.length c) (v := ⟨fs, nx, sq, lg⟩) (hv.mono hk1.old) hl (fun hg s2 k2 => ⟨_, _, rfl, ?_⟩) (fun hg s2 k2 => ⟨_, _, rfl, ?_⟩)
  · (try first | refine EvO.nx ?_ | refine EvA.nx ?_); repeat' (first | refine Abs.go ?_ | with_reducible refine Abs.fork (fun hb => ?_) (fun hb => ?_))
    exact hF hg _ (hk1.trans k2)
  · have hv2 := k2.old s.next _ (get_same _ _ _)
    replace k2 := hk1.trans k2
    clear hk1
    have e1 : IntKind.u64.wrap (fs.length : Int) = (fs.length : Int) := wrap_u64 _ (by omega) (by omega)
    (try first | refine EvO.nx ?_ | refine EvA.nx ?_); repeat' (first | refine Abs.goH (Abs.cc hv2 (e1)) ?_ | with_reducible refine Abs.fork (fun hb => ?_) (fun hb => ?_))
    refine uint_ev hn.uint hn.clone k2.wf (BytesB.nil _) (by omega) (by decide) fun v3 s3 k3 b3 => ⟨_, _, rfl, ?_⟩
    have hv3 := k3.old _ _ hv2
    (try first | refine EvO.nx ?_ | refine EvA.nx ?_); repeat' (first | refine Abs.goH hv3 ?_ | with_reducible refine Abs.fork (fun hb => ?_) (fun hb => ?_))
    have hlu := uintB_le10 (v := fs.length) (by omega)
    have hl1 := hg.most
    have hl2 := hg.n2
    have hl3 := hg.n1
    have hl4 := hg.l1
    have hl5 := hg.l2
    simp only at hl1 hl2 hl3 hl4 hl5
    have hk3 := k2.trans k3
    refine Ev.loop (fun k a' s' => Keep s s' ∧ ∃ T i bv, a' = ⟨T, 54, []⟩ ∧ T.get 1 = some (.pointer (some ⟨s.next, 0, none⟩)) ∧ T.get 4 = some bv ∧ T.get 16 = some (.slice a fs.length c) ∧ T.get 17 = some (.int .i64 (fs.length : Int)) ∧ T.get 18 = some (.int .i64 ((i : Nat) : Int)) ∧ i ≤ fs.length ∧ k = fs.length - i ∧
        s'.heap.get s.next = some (.cells [.slice a fs.length c, .int .i64 nx, .int .u64 (sq : Int), .int .i64 lg] 26 0 false (0, 0)) ∧ TxtB s' s.next bv (uintB fs.length ++ encFs (fs.take i))) (k := fs.length)
      ⟨hk3, _, 0, v3, rfl, ?g1, ?g4, ?g16, ?g17, ?g18, Nat.zero_le _, rfl, hv3, ?gb⟩ ?_
    case g1 => simp (disch := first | omega | assumption) only [go_sem, ]
    case g4 => simp (disch := first | omega | assumption) only [go_sem, ]
    case g16 => simp (disch := first | omega | assumption) only [go_sem, ]
    case g17 => simp (disch := first | omega | assumption) only [go_sem, ]
    case g18 => simp (disch := first | omega | assumption) only [go_sem, ]; try rfl
    case gb =>
      rw [List.nil_append] at b3
      show TxtB s3 s.next v3 (uintB fs.length ++ [])
      rw [List.append_nil]
      exact b3.mono (fun _ _ h => h) k2.next
    rintro k a' s' ⟨hk, T, i, bv, rfl, g1, g4, g16, g17, g18, hi, rfl, hver, hbv⟩
    have hkn := hk.next
    by_cases hil : i < fs.length
    · obtain ⟨b, o, rfl⟩ := hv.some (by intro e; rw [e] at hil; exact absurd hil (Nat.not_lt_zero _))
      obtain ⟨_, w, hw, hcut⟩ := (hv.mono hk.old).cut
      have hlt := obj_lt hwf (hv.cut.2.choose_spec.1)
      have hc4 := hcut i hil
      have hgf := hg.all fs[i] (List.getElem_mem hil)
      have hpre := encFs_take hil
      have hlen := encFs_pre hl2 hg.all hl1 i
      simp only at hgf hlen
      have hml := hk.wf _ _ hver
      generalize hf : fs[i] = f at *
      obtain ⟨num, level, first, last⟩ := f
      obtain ⟨q1, q2, q3, q4, q5, q6⟩ := hgf
      unfold fileC at hc4
      simp only at hc4 q1 q2 q3 q4 q5 q6
      obtain ⟨m, rfl⟩ : ∃ m : Nat, num = (m : Int) := ⟨num.toNat, by omega⟩
      obtain ⟨lv, rfl⟩ : ∃ m : Nat, level = (m : Int) := ⟨level.toNat, by omega⟩
      have w1 : IntKind.u64.wrap (m : Int) = (m : Int) := wrap_u64 _ (by omega) (by omega)
      have w2 : IntKind.u64.wrap (lv : Int) = (lv : Int) := wrap_u64 _ (by omega) (by omega)
      have hb1 : (uintB fs.length ++ encFs (fs.take i)).length ≤ 600000 := by rw [List.length_append]; omega
      have hm10 := uintB_le10 (v := m) (by omega)
      have hl10 := uintB_le10 (v := lv) (by omega)
      have ht1 : (textB first).length ≤ 300 := by unfold textB; rw [List.length_append]; have := uintB_le10 (v := first.length) (by omega); omega
      (try first | refine EvO.nx ?_ | refine EvA.nx ?_); repeat' (first | refine Abs.goH (Abs.cc g1 (Abs.cc g4 (Abs.cc g16 (Abs.cc g17 (Abs.cc g18 (Abs.cc hver (Abs.cc hw (Abs.cc hc4 (w1))))))))) ?_ | with_reducible refine Abs.fork (fun hb => ?_) (fun hb => ?_))
      have hk4 : Keep s ⟨(s'.heap.set s'.next (.cells [.int .i64 0, .int .i64 0, .string ⟨⟨[]⟩⟩, .string ⟨⟨[]⟩⟩] 41 0 false (0, 0))).set s'.next (.cells [.int .i64 (m : Int), .int .i64 (lv : Int), .string ⟨⟨first⟩⟩, .string ⟨⟨last⟩⟩] 41 0 false (0, 0)), s'.next + 1⟩ := by ((repeat (refine Abs.Keep.set2 ?_ (by omega) (by omega) hwf)); exact Abs.Keep.grow hk (by omega))
      have hbv4 : TxtB ⟨(s'.heap.set s'.next (.cells [.int .i64 0, .int .i64 0, .string ⟨⟨[]⟩⟩, .string ⟨⟨[]⟩⟩] 41 0 false (0, 0))).set s'.next (.cells [.int .i64 (m : Int), .int .i64 (lv : Int), .string ⟨⟨first⟩⟩, .string ⟨⟨last⟩⟩] 41 0 false (0, 0)), s'.next + 1⟩ s.next bv _ := hbv.mono (fun b x hx => by have := hk.wf _ _ hx; simp (disch := first | omega | assumption) only [go_sem, hx]) (Nat.le_refl _)
      refine uint_ev hn.uint hn.clone hk4.wf hbv4.bytes (by omega) (by omega) fun v5 s5 k5 b5 => ⟨_, _, rfl, ?_⟩
      have hf5 := k5.old s'.next _ (get_same _ _ _)
      have hk5 := hk4.trans k5
      have hv5 := k5.old s.next _ ((get_other _ _ _ _ (by omega)).trans ((get_other _ _ _ _ (by omega)).trans hver))
      (try first | refine EvO.nx ?_ | refine EvA.nx ?_); repeat' (first | refine Abs.goH (Abs.cc hf5 (w2)) ?_ | with_reducible refine Abs.fork (fun hb => ?_) (fun hb => ?_))
      refine uint_ev hn.uint hn.clone k5.wf b5.bytes (by omega) (by rw [List.length_append]; omega) fun v6 s6 k6 b6 => ⟨_, _, rfl, ?_⟩
      have hf6 := k6.old _ _ hf5
      have hv6 := k6.old _ _ hv5
      have hk6 := hk5.trans k6
      (try first | refine EvO.nx ?_ | refine EvA.nx ?_); repeat' (first | refine Abs.goH hf6 ?_ | with_reducible refine Abs.fork (fun hb => ?_) (fun hb => ?_))
      refine Abs.Ev.regionD (n := 0) (l := [.go 0, .go 1, .go 2, .go 4, .go 5, .go 3, .again 5, .go 6, .go 7]) (by kernel_rfl) ?_
      (try first | refine EvO.nx ?_ | refine EvA.nx ?_); repeat' (first | refine Abs.goH hf6 ?_ | with_reducible refine Abs.fork (fun hb => ?_) (fun hb => ?_))
      refine text_ev hn.text hn.uint hn.clone k6.wf b6.bytes (by omega) (by rw [List.length_append, List.length_append]; omega) fun v7 s7 k7 b7 => ⟨_, _, rfl, ?_⟩
      have hf7 := k7.old _ _ hf6
      have hv7 := k7.old _ _ hv6
      have hk7 := hk6.trans k7
      (try first | refine EvO.nx ?_ | refine EvA.nx ?_); repeat' (first | refine Abs.goH hf7 ?_ | with_reducible refine Abs.fork (fun hb => ?_) (fun hb => ?_))
      refine text_ev hn.text hn.uint hn.clone k7.wf b7.bytes (by omega) (by rw [List.length_append, List.length_append, List.length_append]; omega) fun v8 s8 k8 b8 => ⟨_, _, rfl, ?_⟩
      have hf8 := k8.old _ _ hf7
      have hv8 := k8.old _ _ hv7
      have hk8 := hk7.trans k8
      (try first | refine EvO.nx ?_ | refine EvA.nx ?_); repeat' (first | refine Abs.goH (Abs.cc hf8 (g18)) ?_ | with_reducible refine Abs.fork (fun hb => ?_) (fun hb => ?_))
      refine ⟨fs.length - (i + 1), by omega, hk8, _, i + 1, v8, rfl, ?_, ?_, ?_, ?_, ?_, by omega, rfl, hv8, ?_⟩
      · simp (disch := first | omega | assumption) only [go_sem, g1]
      · simp (disch := first | omega | assumption) only [go_sem, ]
      · simp (disch := first | omega | assumption) only [go_sem, g16]
      · simp (disch := first | omega | assumption) only [go_sem, g17]
      · simp (disch := first | omega | assumption) only [go_sem, Int.natCast_add, Int.natCast_one]
      · rw [hpre]
        have b9 := b8.mono (lo' := s.next) (fun _ _ h => h) hk7.next
        unfold encF
        simp only [Int.toNat_natCast]
        simp only [List.append_assoc] at b9 ⊢
        exact b9
    · obtain rfl : i = fs.length := by omega
      rw [List.take_length] at hbv
      have hle := encFs_le hl2 _ hg.all
      simp only at hle
      have hb1 : (uintB fs.length ++ encFs fs).length ≤ 600000 := by rw [List.length_append]; omega
      obtain ⟨n, rfl⟩ : ∃ m : Nat, nx = (m : Int) := ⟨nx.toNat, by omega⟩
      obtain ⟨g, rfl⟩ : ∃ m : Nat, lg = (m : Int) := ⟨lg.toNat, by omega⟩
      have w1 : IntKind.u64.wrap (n : Int) = (n : Int) := wrap_u64 _ (by omega) (by omega)
      have w2 : IntKind.u64.wrap (g : Int) = (g : Int) := wrap_u64 _ (by omega) (by omega)
      have h10 := uintB_le10 (v := n) (by omega)
      have h11 := uintB_le10 hsq
      (try first | refine EvO.nx ?_ | refine EvA.nx ?_); repeat' (first | refine Abs.goH (Abs.cc g1 (Abs.cc g4 (Abs.cc g16 (Abs.cc g17 (Abs.cc g18 (Abs.cc hver (w1))))))) ?_ | with_reducible refine Abs.fork (fun hb => ?_) (fun hb => ?_))
      refine uint_ev hn.uint hn.clone hk.wf hbv.bytes (by omega) (by omega) fun v5 s5 k5 b5 => ⟨_, _, rfl, ?_⟩
      have hv5 := k5.old _ _ hver
      (try first | refine EvO.nx ?_ | refine EvA.nx ?_); repeat' (first | refine Abs.goH (Abs.cc g1 (hv5)) ?_ | with_reducible refine Abs.fork (fun hb => ?_) (fun hb => ?_))
      refine uint_ev hn.uint hn.clone k5.wf b5.bytes hsq (by rw [List.length_append]; omega) fun v6 s6 k6 b6 => ⟨_, _, rfl, ?_⟩
      have hv6 := k6.old _ _ hv5
      (try first | refine EvO.nx ?_ | refine EvA.nx ?_); repeat' (first | refine Abs.goH (Abs.cc g1 (Abs.cc hv6 (w2))) ?_ | with_reducible refine Abs.fork (fun hb => ?_) (fun hb => ?_))
      refine uint_ev hn.uint hn.clone k6.wf b6.bytes (by omega) (by rw [List.length_append, List.length_append]; omega) fun v7 s7 k7 b7 => ⟨_, _, rfl, ?_⟩
      (try first | refine EvO.nx ?_ | refine EvA.nx ?_); repeat' (first | refine Abs.go ?_ | with_reducible refine Abs.fork (fun hb => ?_) (fun hb => ?_))
      have hk6 := (hk.trans k5).trans k6
      refine hT hg _ _ (hk6.trans k7) ?_
      have b9 := b7.mono (lo' := s.next) (fun _ _ h => h) hk6.next
      unfold encV
      simp only [Int.toNat_natCast]
      simp only [List.append_assoc] at b9 ⊢
      exact b9
/-- bytes, in a block of cells -/
inductive BytesC (s : St) : Value → List UInt8 → Prop where
  | nil : BytesC s (.slice none 0 0) []
  | part {b o n c : Nat} {w : List Value} {e : TypeId} {sz : Nat} {opn : Bool} {fz : Nat × Nat} {l : List UInt8} (hb : s.heap.get b = some (.cells w e sz opn fz)) (hn : n = l.length) (hl : cutN w o n = some (byteCells l)) : BytesC s (.slice (some ⟨b, o, none⟩) n c) l
theorem BytesC.mono {s s' : St} {v : Value} {l : List UInt8} (hk : ∀ b x, s.heap.get b = some x → s'.heap.get b = some x) (h : BytesC s v l) : BytesC s' v l := by
  cases h with
  | nil => exact .nil
  | part hb hn hl => exact .part (hk _ _ hb) hn hl
theorem BytesC.bytes {s : St} {v : Value} {l : List UInt8} (h : BytesC s v l) : BytesB s v l := by
  cases h with
  | nil => exact .nil _
  | @part b o n c w e sz opn fz l hb hn hl =>
    subst hn
    refine ⟨⟨_, _, rfl⟩, ?_⟩
    show (match s.heap.get b with
      | some (.cells l' _ _ _ _) => (Rs.of 75 (cutN l' o (l.length * 1))).bind fun cs => Rs.ok (l.length, cs)
      | some (.const l' _) => (Rs.of 75 (cutN l' o (l.length * 1))).bind fun cs => Rs.ok (l.length, cs)
      | _ => .no 75 "") = _
    rw [hb, Nat.mul_one]
    show (Rs.of 75 (cutN w o l.length)).bind _ = _
    rw [hl]
    rfl
theorem TxtB.bytesC {s : St} {lo : Nat} {v : Value} {l : List UInt8} (h : TxtB s lo v l) : BytesC s v l := by
  cases h with
  | nil => exact .nil
  | zero h => exact .part h rfl rfl
  | own h h0 hb => exact .part h rfl (cut_all (byteCells_len l))
theorem cut_bytes {w : List Value} {o n : Nat} {l : List UInt8} (h : cutN w o n = some (byteCells l)) : (cutN w o n).bind cellBytes = some l := by
  rw [h]
  exact cellBytes_byteCells l
theorem equal_ev (hs : Sm 54 = none) {s : St} {v u : Value} {l m : List UInt8} (hv : BytesC s v l) (hu : BytesC s u m) (h : Q (.val (.bool (l == m)) s)) :
    Ev Tryz.prog Sm (.inv (.fn (.func 54) #[]) [v, u] s) Q := by
  refine Ev.func hs Tryz.func54 rfl (m := 10) rfl ?_
  simp only [Array.toList_empty, List.append_nil, ofList_cons, ofList_nil]
  cases hv with
  | nil =>
    cases hu with
    | nil =>
      (try first | refine EvO.nx ?_ | refine EvA.nx ?_); repeat' (first | refine Abs.go ?_ | with_reducible refine Abs.fork (fun hb => ?_) (fun hb => ?_))
      exact h
    | part hb2 hn2 hl2 =>
      have c2 := cut_bytes hl2
      (try first | refine EvO.nx ?_ | refine EvA.nx ?_); repeat' (first | refine Abs.goH (Abs.cc hb2 (c2)) ?_ | with_reducible refine Abs.fork (fun hb => ?_) (fun hb => ?_))
      exact h
  | part hb1 hn1 hl1 =>
    have c1 := cut_bytes hl1
    cases hu with
    | nil =>
      (try first | refine EvO.nx ?_ | refine EvA.nx ?_); repeat' (first | refine Abs.goH (Abs.cc hb1 (c1)) ?_ | with_reducible refine Abs.fork (fun hb => ?_) (fun hb => ?_))
      exact h
    | part hb2 hn2 hl2 =>
      have c2 := cut_bytes hl2
      (try first | refine EvO.nx ?_ | refine EvA.nx ?_); repeat' (first | refine Abs.goH (Abs.cc hb1 (Abs.cc hb2 (Abs.cc c1 (c2)))) ?_ | with_reducible refine Abs.fork (fun hb => ?_) (fun hb => ?_))
      exact h
theorem RdAt.mono {s s' : St} {b : Nat} {r : Rd} (hk : ∀ c x, s.heap.get c = some x → s'.heap.get c = some x) (h : RdAt s b r) : RdAt s' b r := by
  obtain ⟨⟨v, h1, h2⟩, h3⟩ := h
  exact ⟨⟨v, hk _ _ h1, h2.mono hk⟩, h3⟩
theorem RdB.but {s s' : St} {e : TypeId} {sz : Nat} {v : Value} {l : List UInt8} (he : e ≠ 5) (hk : SameBut e sz s s') (h : RdB s v l) : RdB s' v l := by
  cases h with
  | nil => exact .nil
  | zero h => exact .zero (hk _ _ h (by simp))
  | part hb ho => exact .part (hk _ _ hb (by intro l e; injection e with _ e; exact he e.symm)) ho
theorem RdAt.but {s s' : St} {e : TypeId} {sz : Nat} {b : Nat} {r : Rd} (he : e ≠ 5) (hk : SameBut e sz s s') (h : RdAt s b r) : RdAt s' b r := by
  obtain ⟨⟨v, h1, h2⟩, h3⟩ := h
  exact ⟨⟨v, hk _ _ h1 (by simp), h2.but he hk⟩, h3⟩
/-- what Decode answers -/
def DecOk (l : List UInt8) : Prop := (decV l).2.bad = false ∧ (decV l).2.b = [] ∧ GoodV (decV l).1 ∧ encV (decV l).1 = l
theorem Abs.Own.files {s : St} {lo n : Nat} {v : Value} {l : List MF} (h : Own s lo 41 4 v n (filesC l)) (hn : l.length = n) : FilesAt s v l := by
  subst hn
  exact ⟨h.vec.src.2, h.vec.src.1⟩
theorem cut4 (a b c d : Value) : cutN [a, b, c, d] 0 4 = some [a, b, c, d] := rfl
theorem ver_zero : aBuild Tryz.prog 26 [] = .ok (.agg ⟨[.slice none 0 0, .int .i64 0, .int .u64 0, .int .i64 0]⟩) := by kernel_rfl
theorem file_build (a b : Int) (c d : List UInt8) : aBuild Tryz.prog 41 [(0, .int .i64 a), (1, .int .i64 b), (2, .string ⟨⟨c⟩⟩), (3, .string ⟨⟨d⟩⟩)] = .ok (.agg ⟨fileC ⟨a, b, c, d⟩⟩) := by kernel_rfl
theorem file_lit (f : MF) : aSliceLit Tryz.prog 41 1 [(0, .agg ⟨fileC f⟩)] = .ok (.cells (fileC f) 41 0 false (0, 0), fun n => .slice (some ⟨n, 0, none⟩) 1 1) := by kernel_rfl
theorem fileC_one (f : MF) : (fileC f).all oneB = true := rfl
attribute [local go_sem] Abs.pBuild file_build file_lit List.set_cons_zero List.set_cons_succ Ty.ze26 ver_zero cut4
set_option maxRecDepth 20000 in
theorem decode2_ev (hs : Sm 18 = none) (he : Sm 17 = none) (hn : NoBin Sm) {s : St} (hwf : s.wf) {bv : Value} {l : List UInt8} (hv : BytesC s bv l) (hl : l.length ≤ 35184372088832) (hF : ¬ DecOk l → ∀ s', Keep s s' → Q (.val (.tuple #[verV (.slice none 0 0) ⟨[], 0, 0, 0⟩, .int .i64 14]) s'))
    (hT : DecOk l → ∀ fv s', Keep s s' → FilesAt s' fv (decV l).1.files → (∀ c, inBlk fv c → s.next ≤ c) → Q (.val (.tuple #[verV fv (decV l).1, .int .i64 0]) s')) :
    Ev Tryz.prog Sm (.inv (.fn (.func 18) #[]) [bv] s) Q := by
  refine Ev.func hs Tryz.func18 rfl (m := 58) rfl ?_
  simp only [Array.toList_empty, List.append_nil, ofList_cons, ofList_nil]
  (try first | refine EvO.nx ?_ | refine EvA.nx ?_); repeat' (first | refine Abs.go ?_ | with_reducible refine Abs.fork (fun hb => ?_) (fun hb => ?_))
  have hk1 := (Keep.refl hwf).new (.cells [.slice none 0 0, .int .i64 0, .int .u64 0, .int .i64 0] 26 0 false (0, 0))
  have hres1 := get_same s.heap s.next (AObj.cells [.slice none 0 0, .int .i64 0, .int .u64 0, .int .i64 0] 26 0 false (0, 0))
  refine read_ev hn.read hn.clone hk1.wf (hv.bytes.mono hk1.old) hl fun s2 rb k2 hrb hr2 => ⟨_, _, rfl, ?_⟩
  (try first | refine EvO.nx ?_ | refine EvA.nx ?_); repeat' (first | refine Abs.go ?_ | with_reducible refine Abs.fork (fun hb => ?_) (fun hb => ?_))
  have hres2 := k2.old _ _ hres1
  replace k2 := hk1.trans k2
  have hn2 := k2.next
  have hlt2 := k2.wf _ _ hres2
  have hk3 := k2.new (.cells [.slice none 0 0, .int .i64 0, .int .u64 0, .int .i64 0] 26 0 false (0, 0))
  have hr3 : RdAt ⟨s2.heap.set s2.next (.cells [.slice none 0 0, .int .i64 0, .int .u64 0, .int .i64 0] 26 0 false (0, 0)), s2.next + 1⟩ rb ⟨l, false⟩ := hr2.mono ((Keep.refl k2.wf).new _).old
  refine rdInt_ev (most := 1000) hn.int hn.num hk3.wf hr3 (by decide) fun s4 k4 hr4 => ⟨_, _, rfl, ?_⟩
  (try first | refine EvO.nx ?_ | refine EvA.nx ?_); repeat' (first | refine Abs.go ?_ | with_reducible refine Abs.fork (fun hb => ?_) (fun hb => ?_))
  have hrl : rb < s2.next := k2.wf _ _ hr2.at_.choose_spec.1
  have hn2' : s.next + 1 ≤ rb := hrb
  have hk4 := Keep.only hk3 k4 (by omega) hwf
  have hres4 := k4.old s.next _ (by omega) ((get_other _ _ _ _ (by omega)).trans hres2)
  have hvb4 := k4.old s2.next _ (by omega) (get_same _ _ _)
  obtain ⟨hn1, hn3⟩ := rdInt_le 1000 ⟨l, false⟩
  unfold DecOk at hF hT
  unfold decV at hF hT
  generalize rdInt 1000 ⟨l, false⟩ = q at *
  obtain ⟨n, r1⟩ := q
  simp only at hn1 hn3 hr4 hF hT
  generalize s2.next = vb at *
  clear hr2 hr3 hres1 hres2 k4 hk3 k2 hk1
  refine Ev.loop (fun k a' s' => Keep s s' ∧ ∃ T i fv, a' = ⟨T, 58, []⟩ ∧ T.get 0 = some bv ∧ T.get 2 = some (.pointer (some ⟨s.next, 0, none⟩)) ∧ T.get 4 = some (.pointer (some ⟨rb, 0, none⟩)) ∧ T.get 5 = some (.pointer (some ⟨vb, 0, none⟩)) ∧ T.get 11 = some (.int .i64 (n : Int)) ∧ T.get 12 = some (.int .i64 ((i : Nat) : Int)) ∧ i ≤ n ∧ k = n - i ∧
      s'.heap.get s.next = some (.cells [.slice none 0 0, .int .i64 0, .int .u64 0, .int .i64 0] 26 0 false (0, 0)) ∧ s'.heap.get vb = some (.cells [fv, .int .i64 0, .int .u64 0, .int .i64 0] 26 0 false (0, 0)) ∧
      RdAt s' rb (decFs i r1).2 ∧ Own s' s.next 41 4 fv i (filesC (decFs i r1).1)) (k := n)
    ⟨hk4, _, 0, .slice none 0 0, rfl, ?g0, ?g2, ?g4, ?g5, ?g11, ?g12, Nat.zero_le _, rfl, hres4, hvb4, hr4, Own.nil⟩ ?_
  case g0 => simp (disch := first | omega | assumption) only [go_sem, ]
  case g2 => simp (disch := first | omega | assumption) only [go_sem, ]
  case g4 => simp (disch := first | omega | assumption) only [go_sem, ]
  case g5 => simp (disch := first | omega | assumption) only [go_sem, ]
  case g11 => simp (disch := first | omega | assumption) only [go_sem, ]
  case g12 => simp (disch := first | omega | assumption) only [go_sem, ]; try rfl
  rintro k a' s' ⟨hk, T, i, fv, rfl, g0, g2, g4, g5, g11, g12, hi, rfl, hres, hver, hrd, hfv⟩
  have hkn := hk.next
  have hvl := hk.wf _ _ hver
  have hrl' := hk.wf _ _ hrd.at_.choose_spec.1
  have hfs := decFs_snoc i r1
  by_cases hil : i < n
  · (try first | refine EvO.nx ?_ | refine EvA.nx ?_); repeat' (first | refine Abs.goH (Abs.cc g0 (Abs.cc g2 (Abs.cc g4 (Abs.cc g5 (Abs.cc g11 (g12)))))) ?_ | with_reducible refine Abs.fork (fun hb => ?_) (fun hb => ?_))
    refine Abs.Ev.regionD (n := 15) (l := [.go 0, .go 1, .go 2, .go 4, .go 6, .go 8, .go 3, .again 1, .go 5, .again 1, .go 7, .again 1, .go 9, .again 1, .go 10, .new 11 11, .go 12, .go 13, .go 14]) (by kernel_rfl) ?_
    have hq := hfv.vec.veq
    (try first | refine EvO.nx ?_ | refine EvA.nx ?_); repeat' (first | refine Abs.goH (Abs.cc g4 (Abs.cc g5 (hver))) ?_ | with_reducible refine Abs.fork (fun hb => ?_) (fun hb => ?_))
    have hk5 := hk.grow (Nat.le_add_right s'.next 15)
    refine rdInt_ev (most := 999999) hn.int hn.num hk5.wf (RdAt.mono (s := s') (s' := ⟨s'.heap, s'.next + 15⟩) (fun _ _ h => h) hrd) (by decide) fun s5 o5 r5 => ⟨_, _, rfl, ?_⟩
    have hv5 := o5.old vb _ (by omega) hver
    (try first | refine EvO.nx ?_ | refine EvA.nx ?_); repeat' (first | refine Abs.goH (Abs.cc g4 (Abs.cc g5 (Abs.cc hv5 (hq)))) ?_ | with_reducible refine Abs.fork (fun hb => ?_) (fun hb => ?_))
    refine rdInt_ev (most := 6) hn.int hn.num o5.wf r5 (by decide) fun s6 o6 r6 => ⟨_, _, rfl, ?_⟩
    replace o6 := o5.trans o6
    have hv6 := o6.old vb _ (by omega) hver
    (try first | refine EvO.nx ?_ | refine EvA.nx ?_); repeat' (first | refine Abs.goH (Abs.cc g4 (Abs.cc g5 (Abs.cc hv6 (hq)))) ?_ | with_reducible refine Abs.fork (fun hb => ?_) (fun hb => ?_))
    refine rdText_ev (most := 256) hn.rtext hn.int hn.num o6.wf r6 (by decide) fun s7 o7 r7 => ⟨_, _, rfl, ?_⟩
    replace o7 := o6.trans o7
    have hv7 := o7.old vb _ (by omega) hver
    (try first | refine EvO.nx ?_ | refine EvA.nx ?_); repeat' (first | refine Abs.goH (Abs.cc g4 (Abs.cc g5 (Abs.cc hv7 (hq)))) ?_ | with_reducible refine Abs.fork (fun hb => ?_) (fun hb => ?_))
    refine rdText_ev (most := 256) hn.rtext hn.int hn.num o7.wf r7 (by decide) fun s8 o8 r8 => ⟨_, _, rfl, ?_⟩
    replace o8 := o7.trans o8
    have hv8 := o8.old vb _ (by omega) hver
    (try first | refine EvO.nx ?_ | refine EvA.nx ?_); repeat' (first | refine Abs.goH (Abs.cc g4 (Abs.cc g5 (Abs.cc hv8 (hq)))) ?_ | with_reducible refine Abs.fork (fun hb => ?_) (fun hb => ?_))
    have hn8 : s8.next = s'.next + 15 := o8.next
    have hk8 := Keep.only hk5 o8 (by omega) hwf
    have hst : Keep s ⟨s8.heap.set (s'.next + 11) (.cells (fileC (decF (decFs i r1).2).1) 41 0 false (0, 0)), s8.next⟩ := by ((repeat (refine Abs.Keep.set2 ?_ (by omega) (by omega) hwf)); exact Abs.Keep.grow hk8 (by omega))
    have hown : Own ⟨s8.heap.set (s'.next + 11) (.cells (fileC (decF (decFs i r1).2).1) 41 0 false (0, 0)), s8.next⟩ s.next 41 4 fv i (filesC (decFs i r1).1) := hfv.mono fun b w hb hw => by
      have hbl := hk.wf _ _ hw
      have hbr : b ≠ rb := by
        rintro rfl
        rw [hrd.at_.choose_spec.1] at hw
        cases hw
      show (s8.heap.set (s'.next + 11) _).get b = _
      rw [get_other _ _ _ _ (by omega)]
      exact o8.old b _ hbr hw
    refine EvO.appendOwn (m := 1) (nw := fileC (decF (decFs i r1).2).1) hst.wf Tryz.underlying23 Ty.sz41 Ty.by41 Ty.ze41 rfl (by decide) hown hst.next ((appSrc_slice Tryz.underlying23).trans (src_cells (get_same _ _ _) rfl)) rfl rfl (by decide) (by omega) (by omega) fun v' st' k1 k2 k3 k4 k5 => ?_
    have hrst := ((r8.mono (s' := ⟨s8.heap.set (s'.next + 11) (.cells (fileC (decF (decFs i r1).2).1) 41 0 false (0, 0)), s8.next⟩) fun b x hx => by
      obtain ⟨y, hy⟩ := o8.dom b x hx
      have := hk.wf b y hy
      show (s8.heap.set (s'.next + 11) _).get b = _
      rw [get_other _ _ _ _ (by omega)]
      exact hx)).but (by decide) k4
    have hv9 : st'.heap.get vb = some (.cells [fv, .int .i64 0, .int .u64 0, .int .i64 0] 26 0 false (0, 0)) := by
      refine k4 vb _ ?_ (by simp)
      show (s8.heap.set (s'.next + 11) _).get vb = _
      rw [get_other _ _ _ _ (by omega)]
      exact hv8
    have hr9 : st'.heap.get s.next = some (.cells [.slice none 0 0, .int .i64 0, .int .u64 0, .int .i64 0] 26 0 false (0, 0)) := by
      refine k4 s.next _ ?_ (by simp)
      show (s8.heap.set (s'.next + 11) _).get s.next = _
      rw [get_other _ _ _ _ (by omega)]
      exact o8.old s.next _ (by omega) hres
    have hk9 := hst.but k2 k3 k5 hwf
    have hvl9 := hk9.wf _ _ hv9
    obtain ⟨va, vc, rfl⟩ := k1.vec.src.2
    (try first | refine EvO.nx ?_ | refine EvA.nx ?_); repeat' (first | refine Abs.goH (Abs.cc g4 (Abs.cc g5 (Abs.cc g12 (hv9)))) ?_ | with_reducible refine Abs.fork (fun hb => ?_) (fun hb => ?_))
    refine ⟨n - (i + 1), by omega, by ((repeat (refine Abs.Keep.set2 ?_ (by omega) (by omega) hwf)); exact Abs.Keep.grow hk9 (by omega)), _, i + 1, _, rfl, ?_, ?_, ?_, ?_, ?_, ?_, by omega, rfl, get_old hr9 (by omega), get_same _ _ _, ?_, ?_⟩
    · simp (disch := first | omega | assumption) only [go_sem, g0]
    · simp (disch := first | omega | assumption) only [go_sem, g2]
    · simp (disch := first | omega | assumption) only [go_sem, g4]
    · simp (disch := first | omega | assumption) only [go_sem, g5]
    · simp (disch := first | omega | assumption) only [go_sem, g11]
    · simp (disch := first | omega | assumption) only [go_sem, g12, Int.natCast_add, Int.natCast_one]
    · rw [hfs]
      exact hrst.only (by omega) hv9 fun d x hd hx => get_old hx hd
    · rw [hfs, filesC_append]
      show Own _ _ _ _ _ _ (_ ++ (fileC _ ++ []))
      rw [List.append_nil]
      refine k1.mono fun b w hb hw => get_old hw ?_
      rintro rfl
      rw [hv9] at hw
      cases hw
  · obtain rfl : i = n := by omega
    have hlen := decFs_length i r1
    have hle1 := (rdInt_le 999999 (decFs i r1).2).1
    have hle2 := (rdUint_le (rdInt 999999 (decFs i r1).2).2).1
    have hle3 := (rdInt_le 999999 (rdUint (rdInt 999999 (decFs i r1).2).2).2).1
    generalize decFs i r1 = q at *
    obtain ⟨fl, r3⟩ := q
    simp only at hrd hfv hlen hF hT hle1 hle2 hle3
    (try first | refine EvO.nx ?_ | refine EvA.nx ?_); repeat' (first | refine Abs.goH (Abs.cc g0 (Abs.cc g2 (Abs.cc g4 (Abs.cc g5 (Abs.cc g11 (g12)))))) ?_ | with_reducible refine Abs.fork (fun hb => ?_) (fun hb => ?_))
    refine rdInt_ev (most := 999999) hn.int hn.num hk.wf hrd (by decide) fun s5 o5 r5 => ⟨_, _, rfl, ?_⟩
    (try first | refine EvO.nx ?_ | refine EvA.nx ?_); repeat' (first | refine Abs.goH (Abs.cc g4 (g5)) ?_ | with_reducible refine Abs.fork (fun hb => ?_) (fun hb => ?_))
    refine rdUint_ev hn.ruint hn.num o5.wf r5 fun s6 o6 r6 => ⟨_, _, rfl, ?_⟩
    (try first | refine EvO.nx ?_ | refine EvA.nx ?_); repeat' (first | refine Abs.goH (Abs.cc g4 (g5)) ?_ | with_reducible refine Abs.fork (fun hb => ?_) (fun hb => ?_))
    refine rdInt_ev (most := 999999) hn.int hn.num o6.wf r6 (by decide) fun s7 o7 r7 => ⟨_, _, rfl, ?_⟩
    have o := (o5.trans o6).trans o7
    clear o5 o6 o7 r5 r6
    generalize rdInt 999999 r3 = q1 at *
    obtain ⟨nx, r4⟩ := q1
    simp only at r7 hF hT hle1 hle2 hle3
    generalize rdUint r4 = q2 at *
    obtain ⟨sq, r5⟩ := q2
    simp only at r7 hF hT hle2 hle3
    generalize rdInt 999999 r5 = q3 at *
    obtain ⟨lg, r6⟩ := q3
    simp only at r7 hF hT hle3
    have hv7 := o.old vb _ (by omega) hver
    have hn7 : s7.next = s'.next := o.next
    have hk7 := Keep.only hk o (by omega) hwf
    have hres7 := o.old s.next _ (by omega) hres
    obtain ⟨fva, fvc, rfl⟩ := hfv.vec.src.2
    (try first | refine EvO.nx ?_ | refine EvA.nx ?_); repeat' (first | refine Abs.goH (Abs.cc g4 (Abs.cc g5 (hv7))) ?_ | with_reducible refine Abs.fork (fun hb => ?_) (fun hb => ?_))
    obtain ⟨s8, hs8⟩ : ∃ s8 : St, s8 = ⟨((s7.heap.set vb (.cells [.slice fva i fvc, .int .i64 (nx : Int), .int .u64 0, .int .i64 0] 26 0 false (0, 0))).set vb (.cells [.slice fva i fvc, .int .i64 (nx : Int), .int .u64 (sq : Int), .int .i64 0] 26 0 false (0, 0))).set vb (.cells [.slice fva i fvc, .int .i64 (nx : Int), .int .u64 (sq : Int), .int .i64 (lg : Int)] 26 0 false (0, 0)), s7.next⟩ := ⟨_, rfl⟩
    rw [← hs8]
    have hk8 : Keep s s8 := by rw [hs8]; ((repeat (refine Abs.Keep.set2 ?_ (by omega) (by omega) hwf)); exact Abs.Keep.grow hk7 (by omega))
    have hv8 : s8.heap.get vb = some (.cells [.slice fva i fvc, .int .i64 (nx : Int), .int .u64 (sq : Int), .int .i64 (lg : Int)] 26 0 false (0, 0)) := by rw [hs8]; exact get_same _ _ _
    have ho8 : ∀ d x, d ≠ vb → s7.heap.get d = some x → s8.heap.get d = some x := fun d x hd hx => by rw [hs8]; exact get_old (get_old (get_old hx hd) hd) hd
    clear hs8
    have hres8 := ho8 s.next _ (by omega) hres7
    have hrd8 : RdAt s8 rb r6 := r7.only (by omega) hv7 ho8
    have hown8 : Own s8 s.next 41 4 (.slice fva i fvc) i (filesC fl) := by
      refine hfv.mono fun b w hb hw => ho8 b _ ?_ (o.old b _ ?_ hw)
      · rintro rfl
        rw [hver] at hw
        cases hw
      · rintro rfl
        rw [hrd.at_.choose_spec.1] at hw
        cases hw
    have hfv8 : FilesAt s8 (.slice fva i fvc) fl := hown8.files hlen
    refine encode_ev he hn hk8.wf (sv := .slice fva i fvc) (v := ⟨fl, nx, sq, lg⟩) hfv8 (by show fl.length < _; omega) hle2 (fun hg s9 k9 => ⟨_, _, rfl, ?_⟩) (fun hg tv s9 k9 hb9 => ⟨_, _, rfl, ?_⟩)
    · have hv9 := k9.old _ _ hv8
      have hres9 := k9.old _ _ hres8
      have hk9 := hk8.trans k9
      have hsl := hk9.wf _ _ hres9
      (try first | refine EvO.nx ?_ | refine EvA.nx ?_); repeat' (first | refine Abs.goH (Abs.cc g4 (g5)) ?_ | with_reducible refine Abs.fork (fun hb => ?_) (fun hb => ?_))
      refine rdEnd_ev hn.fin (hrd8.mono k9.old) ⟨_, _, rfl, ?_⟩
      by_cases hend : r6.bad = true ∨ r6.b ≠ []
      · rw [if_pos hend]
        (try first | refine EvO.nx ?_ | refine EvA.nx ?_); repeat' (first | refine Abs.goH (Abs.cc g2 (hres9)) ?_ | with_reducible refine Abs.fork (fun hb => ?_) (fun hb => ?_))
        exact hF (fun h => hg h.2.2.1) _ (by ((repeat (refine Abs.Keep.set2 ?_ (by omega) (by omega) hwf)); exact Abs.Keep.grow hk9 (by omega)))
      · rw [if_neg hend]
        (try first | refine EvO.nx ?_ | refine EvA.nx ?_); repeat' (first | refine Abs.goH (Abs.cc g2 (hres9)) ?_ | with_reducible refine Abs.fork (fun hb => ?_) (fun hb => ?_))
        exact hF (fun h => hg h.2.2.1) _ (by ((repeat (refine Abs.Keep.set2 ?_ (by omega) (by omega) hwf)); exact Abs.Keep.grow hk9 (by omega)))
    · have hv9 := k9.old _ _ hv8
      have hres9 := k9.old _ _ hres8
      have hk9 := hk8.trans k9
      have hsl := hk9.wf _ _ hres9
      (try first | refine EvO.nx ?_ | refine EvA.nx ?_); repeat' (first | refine Abs.goH (Abs.cc g4 (g5)) ?_ | with_reducible refine Abs.fork (fun hb => ?_) (fun hb => ?_))
      refine rdEnd_ev hn.fin (hrd8.mono k9.old) ⟨_, _, rfl, ?_⟩
      by_cases hend : r6.bad = true ∨ r6.b ≠ []
      · rw [if_pos hend]
        (try first | refine EvO.nx ?_ | refine EvA.nx ?_); repeat' (first | refine Abs.goH (Abs.cc g2 (hres9)) ?_ | with_reducible refine Abs.fork (fun hb => ?_) (fun hb => ?_))
        exact hF (fun h => hend.elim (fun e => by rw [h.1] at e; cases e) fun e => e h.2.1) _ (by ((repeat (refine Abs.Keep.set2 ?_ (by omega) (by omega) hwf)); exact Abs.Keep.grow hk9 (by omega)))
      · rw [if_neg hend]
        have hend' : r6.bad = false ∧ r6.b = [] := by
          refine ⟨?_, ?_⟩
          · cases hb : r6.bad with
            | false => rfl
            | true => exact absurd (Or.inl hb) hend
          · exact Classical.byContradiction fun h => hend (.inr h)
        (try first | refine EvO.nx ?_ | refine EvA.nx ?_); repeat' (first | refine Abs.goH (Abs.cc g0 (Abs.cc g2 (hres9))) ?_ | with_reducible refine Abs.fork (fun hb => ?_) (fun hb => ?_))
        refine equal_ev hn.equal hb9.bytesC (hv.mono hk9.old) ⟨_, _, rfl, ?_⟩
        by_cases hq : encV ⟨fl, nx, sq, lg⟩ = l
        · rw [show (encV ⟨fl, nx, sq, lg⟩ == l) = true by simp [hq]]
          (try first | refine EvO.nx ?_ | refine EvA.nx ?_); repeat' (first | refine Abs.goH (Abs.cc g2 (Abs.cc g5 (Abs.cc hv9 (hres9)))) ?_ | with_reducible refine Abs.fork (fun hb => ?_) (fun hb => ?_))
          exact hT ⟨hend'.1, hend'.2, hg, hq⟩ _ _ (by ((repeat (refine Abs.Keep.set2 ?_ (by omega) (by omega) hwf)); exact Abs.Keep.grow hk9 (by omega))) ((hown8.mono fun b w hb hw => get_old (k9.old b _ hw) (by rintro rfl; rw [hres8] at hw; cases hw)).files hlen) (fun c hc => hown8.lo c (hown8.room c hc))
        · rw [show (encV ⟨fl, nx, sq, lg⟩ == l) = false by simp [hq]]
          (try first | refine EvO.nx ?_ | refine EvA.nx ?_); repeat' (first | refine Abs.goH (Abs.cc g2 (hres9)) ?_ | with_reducible refine Abs.fork (fun hb => ?_) (fun hb => ?_))
          exact hF (fun h => hq h.2.2.2) _ (by ((repeat (refine Abs.Keep.set2 ?_ (by omega) (by omega) hwf)); exact Abs.Keep.grow hk9 (by omega)))
theorem decode_ev (hs : Sm 18 = none) (he : Sm 17 = none) (hn : NoBin Sm) {s : St} (hwf : s.wf) {bv : Value} {l : List UInt8} (hv : BytesC s bv l) (hl : l.length ≤ 35184372088832) (hF : ¬ DecOk l → ∀ s', Keep s s' → Q (.val (.tuple #[verV (.slice none 0 0) ⟨[], 0, 0, 0⟩, .int .i64 14]) s'))
    (hT : DecOk l → ∀ fv s', Keep s s' → FilesAt s' fv (decV l).1.files → Q (.val (.tuple #[verV fv (decV l).1, .int .i64 0]) s')) :
    Ev Tryz.prog Sm (.inv (.fn (.func 18) #[]) [bv] s) Q := decode2_ev hs he hn hwf hv hl hF fun h fv s' k f _ => hT h fv s' k f
end
end Go.Proofs.YtbakhdgiimjnkaaGreatDoor
