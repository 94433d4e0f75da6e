/-
  The law SimnetPlays at the evaluator: it says true.
-/
import Derived.Test.YtpbadpkleiogoaaSIs
import Derived.Test.YtpbadpkleiogoaaEvB
import Derived.Test.YtpbadpkleiogoaaWRec
import Derived.Test.YtpbadpkleiogoaaEvSet
set_option linter.unusedVariables false
set_option linter.unusedSimpArgs false
namespace Go.Proofs.Ytpbadpkleiogoaa
open Abs
set_option maxHeartbeats 16000000
set_option maxRecDepth 20000
set_option linter.unusedSimpArgs false
attribute [local irreducible] Abs.Ev Abs.EvF Abs.EvO Abs.EvA Abs.Seq Abs.Blk Abs.Body Abs.Scp Abs.EvG Abs.EvAg Abs.Nx
attribute [local go_sem] Try.underlying2 Ty.sz2 Ty.by2 Ty.ag2 Ty.ze2 Try.underlying3 Ty.sz3 Ty.by3 Ty.ag3 Ty.ze3 Try.underlying4 Ty.sz4 Ty.by4 Ty.ag4 Ty.ze4 Try.underlying5 Ty.sz5 Ty.by5 Ty.ag5 Ty.ze5 Try.underlying9 Ty.sz9 Ty.by9 Ty.ag9 Ty.ze9 Try.underlying29 Ty.sz29 Ty.by29 Ty.ag29 Ty.ze29 Try.underlying45 Ty.sz45 Ty.by45 Ty.ag45 Ty.ze45 Try.underlying53 Ty.sz53 Ty.by53 Ty.ag53 Ty.ze53 Try.underlying55 Ty.sz55 Ty.by55 Ty.ag55 Ty.ze55 Try.underlying57 Ty.sz57 Ty.by57 Ty.ag57 Ty.ze57 Try.underlying58 Ty.sz58 Ty.by58 Ty.ag58 Ty.ze58 Try.underlying60 Ty.sz60 Ty.by60 Ty.ag60 Ty.ze60 Try.underlying62 Ty.sz62 Ty.by62 Ty.ag62 Ty.ze62 Try.underlying67 Ty.sz67 Ty.by67 Ty.ag67 Ty.ze67 Try.underlying84 Ty.sz84 Ty.by84 Ty.ag84 Ty.ze84 Try.underlying85 Ty.sz85 Ty.by85 Ty.ag85 Ty.ze85 Try.underlying87 Ty.sz87 Ty.by87 Ty.ag87 Ty.ze87 Try.underlying90 Ty.sz90 Ty.by90 Ty.ag90 Ty.ze90
section
variable {Sm : Summ} {Q : Ans → Prop}
theorem Mv.keep {O O' : Nat → Prop} {s0 s s' : St} (h : Mv O O' s s') (k : Keep s0 s) (ho : ∀ c, O c → s0.next ≤ c) (hw : s0.wf) : Keep s0 s' :=
  ⟨h.wf, Nat.le_trans k.next h.next, fun c x hx => h.old c x (fun hc => by have := ho c hc; have := hw c x hx; omega) (k.old c x hx)⟩
theorem bytes_cases {s : St} {x : Value} {l : List UInt8} {C : Prop} (h : BytesB s x l) (k1 : ∀ c, l = [] → x = .slice none 0 c → C)
    (k2 : ∀ b o c w e sz op fz, x = .slice (some ⟨b, o, none⟩) l.length c → s.heap.get b = some (.cells w e sz op fz) → (cutN w o l.length).bind cellBytes = some l → C)
    (k3 : ∀ b o c w e, x = .slice (some ⟨b, o, none⟩) l.length c → s.heap.get b = some (.const w e) → (cutN w o l.length).bind cellBytes = some l → C) : C := by
  obtain ⟨⟨a, c, rfl⟩, h2⟩ := h
  cases a with
  | none =>
    have e : (0, ([] : List Value)) = (l.length, byteCells l) := Rs.ok.inj h2
    have e1 : l = [] := List.eq_nil_of_length_eq_zero (congrArg Prod.fst e).symm
    subst e1
    exact k1 c rfl rfl
  | some q =>
    obtain ⟨b, o, sp⟩ := q
    cases sp with
    | some _ => cases h2
    | none =>
      obtain ⟨w, h3, h4, h5⟩ := src_parts h2
      rw [Nat.mul_one] at h4 h5
      have hc : (cutN w o l.length).bind cellBytes = some l := by
        rw [cutN_eq, if_pos h5, h4]
        exact cellBytes_byteCells l
      cases hg : s.heap.get b with
      | none => rw [hg] at h3; cases h3
      | some y =>
        rw [hg] at h3
        cases y with
        | cells w' e sz op fz =>
          obtain rfl : w' = w := Rs.ok.inj h3
          exact k2 b o c w' e sz op fz rfl hg hc
        | const w' e =>
          obtain rfl : w' = w := Rs.ok.inj h3
          exact k3 b o c w' e rfl hg hc
        | _ => cases h3
theorem bytes_conv (d : List UInt8) : aBytes Try.prog .string (.slice 5) (.string ⟨⟨d⟩⟩) = .ok (.cells (byteCells d) 5 1 true (open_, open_), fun n => .slice (some ⟨n, 0, none⟩) d.length open_) := by
  have hu : undT Try.prog 5 = .ok (.int .u8) := by rw [undT_eq, Try.underlying5]; rfl
  simp only [aBytes, hu, bind_ok, lenN_eq]
theorem conv_bytes {s : St} {v : Value} {l : List UInt8} (h : BytesB s v l) : pConvS Try.prog s.heap (.slice 5) v = .ok (.string ⟨⟨l⟩⟩) := by
  have hu : undT Try.prog 5 = .ok (.int .u8) := by rw [undT_eq, Try.underlying5]; rfl
  refine bytes_cases h (fun c hl hx => ?_) (fun b o c w e sz op fz hx hg hc => ?_) (fun b o c w e hx hg hc => ?_)
  · subst hl
    subst hx
    simp only [pConvS, hu, bind_ok]
    rfl
  · subst hx
    simp only [pConvS, hu, bind_ok, hg, hc, of_some]
    rfl
  · subst hx
    simp only [pConvS, hu, bind_ok, hg, hc, of_some]
    rfl
/-- a call as it lies -/
structure SX where
  op : Int
  a : Int
  b : Int
  d : List UInt8
def SX.cells (x : SX) : List Value := [.int .i64 x.op, .int .i64 x.a, .int .i64 x.b, .string ⟨⟨x.d⟩⟩]
structure SActs (s : St) (v : Value) (l : List SX) : Prop where
  is : ∃ a c, v = .slice a l.length c
  src : 0 < l.length → ∃ cs, srcCells s.heap 4 v = .ok (l.length, cs) ∧ ∀ i (h : i < l.length), (cs.drop (i * 4)).take 4 = l[i].cells
theorem SActs.cut {s : St} {v : Value} {l : List SX} (h : SActs s v l) {i : Nat} (hi : i < l.length) : ∃ (b o c : Nat) (w : List Value), v = .slice (some ⟨b, o, none⟩) l.length c ∧ objCells (s.heap.get b) = .ok w ∧ ∀ i (h : i < l.length), cutN w (o + i * 4) 4 = some l[i].cells := by
  obtain ⟨⟨a, c, rfl⟩, h⟩ := h
  obtain ⟨cs, h1, h2⟩ := h (by omega)
  cases a with
  | none =>
    exfalso
    have e : (0 : Nat) = l.length := congrArg (fun r => match r with | .ok (n, _) => n | _ => 0) h1
    omega
  | some q =>
    obtain ⟨b, o, sp⟩ := q
    cases sp with
    | some _ => cases h1
    | none =>
      obtain ⟨w, hw, hcut, hlen⟩ := src_parts h1
      refine ⟨b, o, c, w, rfl, hw, fun j hj => ?_⟩
      rw [cutN_eq, if_pos (by omega), ← h2 j hj, ← hcut, List.drop_take, List.take_take, List.drop_drop, Nat.min_eq_left (by omega)]
/-- what stands at the loop's head -/
structure SInv (s s' : St) (nb wb i : Nat) : Prop where
  ex : ∃ (O1 O2 : Nat → Prop) (L1 L2 : Pks) (sent : Nat) (now : Int) (fed : List Nat) (z : Nat), SN s' O1 nb L1 sent now fed z ∧ RN s' O2 wb L2 sent now fed z ∧ (∀ c, O1 c → ¬ O2 c) ∧ L1.map (·.2) = L2.map (·.2) ∧ L1.length ≤ i ∧ sent ≤ i ∧ 0 ≤ now ∧ now ≤ 1152921504606846976 ∧ fed.length ≤ i ∧ (∀ e ∈ L1, e.2.b.length ≤ 140737488351232) ∧ Keep s s' ∧ ∀ c, O1 c ∨ O2 c → s.next ≤ c
attribute [local go_sem] u8_lit1 bytes_conv Nat.sub_zero List.set_cons_zero List.set_cons_succ u64_lit1
set_option maxRecDepth 20000 in
theorem simnetPlays_ev (n : NoNet Sm) (m : NoRef Sm) (hI : Sm 37 = none) (hF : Sm 9 = none) {g : List Value → St → Rs (Value × St)} (hA : Sm 22 = some g) {s : St} (hg : ∀ s', Keep s s' → g [] s' = .ok (.bool true, s')) (hwf : s.wf) {lv : Value} {xs : List SX} (hl : SActs s lv xs) (hxa : ∀ x ∈ xs, -9223372036854775808 ≤ x.a ∧ x.a ≤ 9223372036854775807) (hxd : ∀ x ∈ xs, x.d.length ≤ 140737488351232) :
    Ev Try.prog Sm (.inv (.fn (.func 9) #[]) [lv] s) fun r => ∃ s', r = .val (.bool true) s' := by
  refine Ev.func hF Try.func9 rfl (m := 274) rfl ?_
  simp only [Array.toList_empty, List.append_nil, ofList_cons, ofList_nil]
  obtain ⟨⟨la, lc, rfl⟩, _⟩ := id hl
  (try first | refine EvO.nx ?_ | refine EvA.nx ?_); repeat' (first | refine Abs.go ?_ | with_reducible refine Abs.fork (fun hb => ?_) (fun hb => ?_))
  refine Ev.summ hA (hg s (Keep.refl hwf)) ⟨_, _, rfl, ?_⟩
  by_cases hc : xs.length ≤ 80
  · (try first | refine EvO.nx ?_ | refine EvA.nx ?_); repeat' (first | refine Abs.go ?_ | with_reducible refine Abs.fork (fun hb => ?_) (fun hb => ?_))
    refine nnew_ev n hwf fun s1 O1 nb k1 lo1 h1 => ⟨_, _, rfl, ?_⟩
    (try first | refine EvO.nx ?_ | refine EvA.nx ?_); repeat' (first | refine Abs.go ?_ | with_reducible refine Abs.fork (fun hb => ?_) (fun hb => ?_))
    have kw := (Keep.refl k1.wf).new (.cells [.slice none 0 0, .int .i64 0, .int .i64 0, .slice none 0 0, .int .u64 0] 60 0 false (0, 0))
    have hinv0 : SInv s ⟨s1.heap.set s1.next (.cells [.slice none 0 0, .int .i64 0, .int .i64 0, .slice none 0 0, .int .u64 0] 60 0 false (0, 0)), s1.next + 1⟩ nb s1.next 0 :=
      ⟨O1, (fun c => c = s1.next), [], [], 0, 0, [], 0, h1.old kw, ⟨⟨_, _, get_same _ _ _, .nil, .vec .nil fun h => absurd rfl h, KB.nil _ _ _ _ _, KB.nil _ _ _ _ _, fun h => absurd rfl h⟩, fun e he => (by cases he), rfl, fun c hc => by subst hc; exact Nat.lt_succ_self _⟩, fun c hc e => by have := h1.lt c hc; omega, rfl, Nat.le_refl _, Nat.le_refl _, Int.le_refl _, by decide, Nat.le_refl _, fun e he => (by cases he), k1.trans kw, fun c hc => hc.elim (lo1 c) fun e => by have := k1.next; omega⟩
    refine Ev.loop (fun k a' s' => ∃ T, ∃ i : Nat, a' = ⟨T, 274, []⟩ ∧ T.get 0 = some (.slice la xs.length lc) ∧ T.get 3 = some (.pointer (some ⟨nb, 0, none⟩)) ∧ T.get 4 = some (.pointer (some ⟨s1.next, 0, none⟩)) ∧ T.get 5 = some (.int .i64 ((i : Nat) : Int)) ∧ i ≤ xs.length ∧ k = xs.length - i ∧ SInv s s' nb s1.next i) (k := xs.length) ⟨_, 0, rfl, ?t0, ?t3, ?t4, ?t5, Nat.zero_le _, rfl, hinv0⟩ ?_
    case t0 => simp (disch := first | omega | assumption) only [go_sem, ]
    case t3 => simp (disch := first | omega | assumption) only [go_sem, ]
    case t4 => simp (disch := first | omega | assumption) only [go_sem, ]
    case t5 => simp (disch := first | omega | assumption) only [go_sem, ]; try rfl
    clear hinv0 h1 lo1
    generalize s1.next = wb
    rintro k a' s2 ⟨T, i, rfl, t0, t3, t4, t5, hi, rfl, ⟨O1, O2, L1, L2, sent, now, fed, z, h1, h2, hdis, he, b1, b2, b3, b4, b5, hlen, k2, hge⟩⟩
    by_cases hil : i < xs.length
    · obtain ⟨xb, xo, xc, w, e, hw, hcut⟩ := hl.cut hil
      cases e
      have hci := hcut i hil
      have hai := hxa xs[i] (List.getElem_mem hil)
      have hdi := hxd xs[i] (List.getElem_mem hil)
      generalize xs[i] = x at *
      obtain ⟨op, a, b, d⟩ := x
      unfold SX.cells at hci
      simp only at hci hai hdi
      have hwf2 := k2.wf
      have hw' := obj_old k2.old hw
      have hc0 : w[xo + i * 4]? = some (.int .i64 op) := cut_at hci (i := 0) rfl
      have hl12 : L2.length = L1.length := by
        have := congrArg List.length he
        rw [List.length_map, List.length_map] at this
        exact this.symm
      by_cases o0 : op = 0
      · subst o0
        (try first | refine EvO.nx ?_ | refine EvA.nx ?_); repeat' (first | refine Abs.goH (Abs.cc t0 (Abs.cc t3 (Abs.cc t4 (Abs.cc t5 (Abs.cc hw' (Abs.cc hci (hc0))))))) ?_ | with_reducible refine Abs.fork (fun hb => ?_) (fun hb => ?_))
        have kb := (Keep.refl hwf2).newR hwf2 (.cells [.int .i64 0, .int .i64 0, .int .i64 0, .string ⟨⟨[]⟩⟩] 62 0 false (0, 0)) (.cells [.int .i64 0, .int .i64 a, .int .i64 b, .string ⟨⟨d⟩⟩] 62 0 false (0, 0))
        have hact : (⟨(s2.heap.set s2.next (.cells [.int .i64 0, .int .i64 0, .int .i64 0, .string ⟨⟨[]⟩⟩] 62 0 false (0, 0))).set s2.next (.cells [.int .i64 0, .int .i64 a, .int .i64 b, .string ⟨⟨d⟩⟩] 62 0 false (0, 0)), s2.next + 1⟩ : St).heap.get s2.next = some (.cells [.int .i64 0, .int .i64 a, .int .i64 b, .string ⟨⟨d⟩⟩] 62 0 false (0, 0)) := get_same _ _ _
        generalize (⟨(s2.heap.set s2.next (.cells [.int .i64 0, .int .i64 0, .int .i64 0, .string ⟨⟨[]⟩⟩] 62 0 false (0, 0))).set s2.next (.cells [.int .i64 0, .int .i64 a, .int .i64 b, .string ⟨⟨d⟩⟩] 62 0 false (0, 0)), s2.next + 1⟩ : St) = s4 at kb hact ⊢
        generalize hab : s2.next = ab at hact ⊢
        have hn1 : ¬ O1 ab := fun h => by have := h1.lt ab h; omega
        have hn2 : ¬ O2 ab := fun h => by have := h2.lt ab h; omega
        have h1b := h1.old kb
        have h2b := h2.old kb
        have hwf4 := kb.wf
        have kn := kb.next
        refine rplace_ev m h2b a (by omega) ⟨_, _, rfl, ?_⟩
        have hpe : posP (L2.map (·.2)) a 0 = posP (L1.map (·.2)) a 0 := by rw [he]
        rw [hpe]
        (try first | refine EvO.nx ?_ | refine EvA.nx ?_); repeat' (first | refine Abs.goH (Abs.cc t0 (Abs.cc t3 (Abs.cc t4 (Abs.cc t5 (hact))))) ?_ | with_reducible refine Abs.fork (fun hb => ?_) (fun hb => ?_))
        have hbl := byteCells_len d
        have ka := (Keep.refl hwf4).new (.cells (byteCells d) 5 1 true (open_, open_))
        have kb2 := ka.new (.cells [.int .u8 7] 5 0 false (0, 0))
        have hgs : srcCells ((s4.heap.set s4.next (.cells (byteCells d) 5 1 true (open_, open_))).set (s4.next + 1) (.cells [.int .u8 7] 5 0 false (0, 0))) 1 (.slice (some ⟨s4.next + 1, 0, none⟩) 1 1) = .ok (1, [.int .u8 7]) := src_cells (get_same _ _ _) rfl
        have hba : ((s4.heap.set s4.next (.cells (byteCells d) 5 1 true (open_, open_))).set (s4.next + 1) (.cells [.int .u8 7] 5 0 false (0, 0))).get s4.next = some (.cells (byteCells d) 5 1 true (open_, open_)) := (get_other _ _ _ _ (by omega : s4.next ≠ s4.next + 1)).trans (get_same _ _ _)
        (try first | refine EvO.nx ?_ | refine EvA.nx ?_); repeat' (first | refine Abs.goH (Abs.cc t0 (Abs.cc t3 (Abs.cc t4 (Abs.cc t5 (hact))))) ?_ | with_reducible refine Abs.fork (fun hb => ?_) (fun hb => ?_))
        refine EvO.appendF (m := 1) (nw := [.int .u8 7]) kb2.wf Try.underlying45 Ty.sz5 Ty.by5 Ty.ze5 rfl hba (.inr rfl) (by omega) (List.take_of_length_le (by omega)) ((appSrc_slice Try.underlying45).trans hgs) rfl rfl (by decide) (by omega) (by omega) fun bb s5 l' q1 q2 q3 q4 q5 q6 q7 => ?_
        have hn5 : s4.next + 2 ≤ s5.next := q6
        have k5 : Keep s4 s5 := ⟨q5, by omega, fun c y hy => q7 c y (kb2.old c y hy) (by have := hwf4 c y hy; omega)⟩
        have hbb5 : s4.next ≤ bb ∧ bb < s5.next := ⟨by have q4 : bb = s4.next + 2 ∨ bb = s4.next := q4; omega, q5 _ _ q1⟩
        have hact5 := k5.old _ _ hact
        have hop : d.length + 1 < open_ := by unfold open_; omega
        have htk : l'.take d.length = byteCells d := by
          have e : (l'.take (d.length + 1)).take d.length = (byteCells d ++ [Value.int .u8 7]).take d.length := by rw [q2]
          rw [List.take_take, Nat.min_eq_left (by omega)] at e
          rw [e, ← hbl, List.take_left]
        (try first | refine EvO.nx ?_ | refine EvA.nx ?_); repeat' (first | refine Abs.goH (Abs.cc t0 (Abs.cc t3 (Abs.cc t4 (Abs.cc t5 (Abs.cc hact5 (q1)))))) ?_ | with_reducible refine Abs.fork (fun hb => ?_) (fun hb => ?_))
        refine Abs.Ev.regionD (n := 21) (l := [.go 0, .go 1, .go 2, .go 3, .go 4, .go 5, .go 6, .go 7, .go 8, .go 9, .go 11, .go 12, .go 13, .go 14, .go 15, .go 16, .go 17, .go 10, .again 13, .again 15, .again 17, .new 18 18, .go 19, .go 20]) (by kernel_rfl) ?_
        (try first | refine EvO.nx ?_ | refine EvA.nx ?_); repeat' (first | refine Abs.goH (Abs.cc t0 (Abs.cc t3 (Abs.cc t4 (Abs.cc t5 (Abs.cc hact5 (q1)))))) ?_ | with_reducible refine Abs.fork (fun hb => ?_) (fun hb => ?_))
        have k5g := (Keep.refl q5).grow (Nat.le_add_right s5.next 21)
        have hbd : BytesB ⟨s5.heap, s5.next + 21⟩ (.slice (some ⟨bb, 0, none⟩) d.length open_) d := by
          refine ⟨⟨_, _, rfl⟩, ?_⟩
          show (match s5.heap.get bb with
            | some (.cells l _ _ _ _) => (Rs.of 75 (cutN l 0 (d.length * 1))).bind fun cs => Rs.ok (d.length, cs)
            | some (.const l _) => (Rs.of 75 (cutN l 0 (d.length * 1))).bind fun cs => Rs.ok (d.length, cs)
            | _ => .no 75 "") = _
          rw [q1]
          show (Rs.of 75 (cutN l' 0 (d.length * 1))).bind _ = _
          rw [Nat.mul_one, cutN_eq, if_pos (by omega), List.drop_zero, htk]
          rfl
        have hob1 : ¬ O1 bb := fun h => by have := h1b.lt bb h; omega
        have hob2 : ¬ O2 bb := fun h => by have := h2b.lt bb h; omega
        refine nsend_ev n k5g.wf ((h1b.old k5).old k5g) hbd (fun c hc e => ?_) (by omega) a b (by omega) (by omega) fun s6 O6 v6 mv6 h16 => ⟨_, _, rfl, ?_⟩
        · obtain ⟨_, _, _, e2⟩ := hc
          cases e2
          exact hob1 (by rw [e]; exact h1b.own)
        have hact6 := mv6.old _ _ hn1 hact5
        have q16 := mv6.old _ _ hob1 q1
        have hn6 : s5.next + 21 ≤ s6.next := mv6.next
        have hO6 : ∀ c, O6 c → O1 c ∨ s5.next + 21 ≤ c := mv6.new
        (try first | refine EvO.nx ?_ | refine EvA.nx ?_); repeat' (first | refine Abs.goH (Abs.cc t0 (Abs.cc t3 (Abs.cc t4 (Abs.cc t5 (hact6))))) ?_ | with_reducible refine Abs.fork (fun hb => ?_) (fun hb => ?_))
        have hxb : (⟨s6.heap.set (s5.next + 18) (.cells (byteCells d) 5 1 true (open_, open_)), s6.next⟩ : St).heap.get (s5.next + 18) = some (.cells (byteCells d) 5 1 true (open_, open_)) := get_same _ _ _
        have mvx : Mv O1 O6 ⟨s5.heap, s5.next + 21⟩ ⟨s6.heap.set (s5.next + 18) (.cells (byteCells d) 5 1 true (open_, open_)), s6.next⟩ := ⟨fun c y hy => by
            have hy : (s6.heap.set (s5.next + 18) (.cells (byteCells d) 5 1 true (open_, open_))).get c = some y := hy
            rcases Tr.get_set hy with ⟨rfl, _⟩ | ⟨_, hy⟩
            · exact (by omega : s5.next + 18 < s6.next)
            · exact mv6.wf _ _ hy, mv6.next, fun c y hc hy => (get_other _ _ _ _ (by have := q5 c y hy; omega : c ≠ s5.next + 18)).trans (mv6.old c y hc hy), mv6.new⟩
        have hne6 : ∀ c, O6 c → c ≠ s5.next + 18 := fun c hc => (hO6 c hc).elim (fun h => by have := h1b.lt c h; omega) fun h => by omega
        have h16x := h16.mono (s' := ⟨s6.heap.set (s5.next + 18) (.cells (byteCells d) 5 1 true (open_, open_)), s6.next⟩) (fun c y hc hy => (get_other _ _ _ _ (hne6 c hc)).trans hy) (Nat.le_refl _)
        have h26x := ((h2b.old k5).old k5g).apart mvx fun c hc hc1 => hdis c hc1 hc
        have hact6x := mvx.old _ _ hn1 hact5
        have q1x := mvx.old _ _ hob1 q1
        have hd6 : ∀ c, O6 c → ¬ O2 c := fun c hc hc2 => (hO6 c hc).elim (fun h => hdis c h hc2) fun h => by have := h2b.lt c hc2; omega
        refine rsend_ev m mvx.wf h26x ⟨⟨_, _, rfl⟩, src_cells hxb (by rw [hbl, Nat.mul_one])⟩ (fun c hc e => ?_) hdi a b (by omega) (by omega) fun s7 O7 v7 mv7 h27 => ⟨_, _, rfl, ?_⟩
        · obtain ⟨_, _, _, e2⟩ := hc
          cases e2
          have := h2b.lt wb h2b.own
          omega
        have h17 := h16x.apart mv7 hd6
        have q17 := mv7.old _ _ hob2 q1x
        have k4 := k2.trans (kb.trans k5)
        have kk6 := Mv.keep mvx (k4.trans k5g) (fun c hc => hge c (.inl hc)) hwf
        have kk7 := Mv.keep mv7 kk6 (fun c hc => hge c (.inr hc)) hwf
        have hn7 : s6.next ≤ s7.next := mv7.next
        (try first | refine EvO.nx ?_ | refine EvA.nx ?_); repeat' (first | refine Abs.goH (Abs.cc t0 (Abs.cc t3 (Abs.cc t4 (t5)))) ?_ | with_reducible refine Abs.fork (fun hb => ?_) (fun hb => ?_))
        refine Ev.loop (fun q a' s' => ∃ T, ∃ j : Nat, ∃ w, a' = ⟨T, 274, []⟩ ∧ T.get 0 = some (.slice (some ⟨xb, xo, none⟩) xs.length lc) ∧ T.get 3 = some (.pointer (some ⟨nb, 0, none⟩)) ∧ T.get 4 = some (.pointer (some ⟨wb, 0, none⟩)) ∧ T.get 5 = some (.int .i64 ((i : Nat) : Int)) ∧ T.get 8 = some (.slice (some ⟨bb, 0, none⟩) (d.length + 1) open_) ∧ T.get 9 = some (.int .i64 ((j : Nat) : Int)) ∧ j ≤ d.length + 1 ∧ q = d.length + 1 - j ∧ s'.heap.get bb = some (.cells w 5 1 true (open_, open_)) ∧ w.length = l'.length ∧ s'.next = s7.next ∧ s'.wf ∧ ∀ c, c ≠ bb → s'.heap.get c = s7.heap.get c) (k := d.length + 1) ⟨_, 0, l', rfl, ?u0, ?u3, ?u4, ?u5, ?u8, ?u9, Nat.zero_le _, rfl, q17, rfl, rfl, kk7.wf, fun _ _ => rfl⟩ ?_
        case u0 => simp (disch := first | omega | assumption) only [go_sem, t0]
        case u3 => simp (disch := first | omega | assumption) only [go_sem, t3]
        case u4 => simp (disch := first | omega | assumption) only [go_sem, t4]
        case u5 => simp (disch := first | omega | assumption) only [go_sem, t5]
        case u8 => simp (disch := first | omega | assumption) only [go_sem, ]
        case u9 => simp (disch := first | omega | assumption) only [go_sem, ]; try rfl
        clear t0 t3 t4 t5
        rintro q a' s8 ⟨T, j, w8, rfl, t0, t3, t4, t5, t8, t9, hj, rfl, hw8, hwl, hn8, hwf8, hold8⟩
        by_cases hjl : j < d.length + 1
        · have hjo : j + 1 ≤ open_ := by omega
          (try first | refine EvO.nx ?_ | refine EvA.nx ?_); repeat' (first | refine Abs.goH (Abs.cc t0 (Abs.cc t3 (Abs.cc t4 (Abs.cc t5 (Abs.cc t8 (Abs.cc t9 (hw8))))))) ?_ | with_reducible refine Abs.fork (fun hb => ?_) (fun hb => ?_))
          refine ⟨d.length + 1 - (j + 1), by omega, _, j + 1, _, rfl, ?_, ?_, ?_, ?_, ?_, ?_, by omega, rfl, get_same _ _ _, by rw [List.length_set, hwl], hn8, fun c y hy => ?_, fun c hc => (get_other _ _ _ _ hc).trans (hold8 c hc)⟩
          · simp (disch := first | omega | assumption) only [go_sem, t0]
          · simp (disch := first | omega | assumption) only [go_sem, t3]
          · simp (disch := first | omega | assumption) only [go_sem, t4]
          · simp (disch := first | omega | assumption) only [go_sem, t5]
          · simp (disch := first | omega | assumption) only [go_sem, t8]
          · simp (disch := first | omega | assumption) only [go_sem, t9, Int.natCast_add, Int.natCast_one]
          · rcases Tr.get_set hy with ⟨rfl, _⟩ | ⟨_, hy⟩
            · exact hwf8 _ _ hw8
            · exact hwf8 _ _ hy
        · obtain rfl : j = d.length + 1 := by omega
          have hb67 : ∀ c, O6 c ∨ O7 c → c ≠ bb := fun c hc e => by
            subst e
            rcases hc with hc | hc
            · rcases hO6 _ hc with h | h
              · exact hob1 h
              · omega
            · rcases mv7.new _ hc with h | h
              · exact hob2 h
              · have h : s6.next ≤ c := h
                omega
          have h18 := h17.mono (s' := s8) (fun c y hc hy => (hold8 c (hb67 c (.inl hc))).trans hy) (Nat.le_of_eq hn8.symm)
          have h28 := h27.mono (s' := s8) (fun c y hc hy => (hold8 c (hb67 c (.inr hc))).trans hy) (Nat.le_of_eq hn8.symm)
          have hbs : s.next ≤ bb := by have := k2.next; have := kb.next; omega
          have kk8 : Keep s s8 := ⟨hwf8, by rw [hn8]; exact kk7.next, fun c y hy => (hold8 c (by have := hwf c y hy; omega)).trans (kk7.old c y hy)⟩
          have hei : (L1 ++ [(v6, (⟨((sent + 1 : Nat) : Int), a, b, d⟩ : PK))]).map (·.2) = (L2 ++ [(v7, (⟨((sent + 1 : Nat) : Int), a, b, d⟩ : PK))]).map (·.2) := by rw [List.map_append, List.map_append, he]; rfl
          have hlen' : ∀ e ∈ L1 ++ [(v6, (⟨((sent + 1 : Nat) : Int), a, b, d⟩ : PK))], e.2.b.length ≤ 140737488351232 := fun e he' => (List.mem_append.1 he').elim (hlen e) fun h => by rw [List.mem_singleton] at h; subst h; exact hdi
          have hel : (L1 ++ [(v6, (⟨((sent + 1 : Nat) : Int), a, b, d⟩ : PK))]).length = L1.length + 1 := by rw [List.length_append]; rfl
          (try first | refine EvO.nx ?_ | refine EvA.nx ?_); repeat' (first | refine Abs.goH (Abs.cc t0 (Abs.cc t3 (Abs.cc t4 (Abs.cc t5 (Abs.cc t8 (t9)))))) ?_ | with_reducible refine Abs.fork (fun hb => ?_) (fun hb => ?_))
          refine is_ev n hI hwf8 h18 h28 hei (by omega) hlen' fun s9 k9 => ⟨_, _, rfl, ?_⟩
          (try first | refine EvO.nx ?_ | refine EvA.nx ?_); repeat' (first | refine Abs.goH (Abs.cc t0 (Abs.cc t3 (Abs.cc t4 (t5)))) ?_ | with_reducible refine Abs.fork (fun hb => ?_) (fun hb => ?_))
          refine ⟨xs.length - (i + 1), by omega, _, i + 1, rfl, ?_, ?_, ?_, ?_, by omega, rfl, ⟨O6, O7, _, _, sent + 1, now, fed, z, h18.old k9, h28.old k9, fun c hc hc7 => (mv7.new c hc7).elim (hd6 c hc) fun h => by have := h16x.lt c hc; omega, hei, by omega, by omega, b3, b4, by omega, hlen', kk8.trans k9, fun c hc => hc.elim (fun h => (hO6 c h).elim (fun h => hge c (.inl h)) fun h => by have := k4.next; omega) fun h => (mv7.new c h).elim (fun h => hge c (.inr h)) fun h => by have := kk6.next; omega⟩⟩
          · simp (disch := first | omega | assumption) only [go_sem, t0]
          · simp (disch := first | omega | assumption) only [go_sem, t3]
          · simp (disch := first | omega | assumption) only [go_sem, t4]
          · simp (disch := first | omega | assumption) only [go_sem, t5, Int.natCast_add, Int.natCast_one]
      by_cases o1 : op = 1
      · subst o1
        (try first | refine EvO.nx ?_ | refine EvA.nx ?_); repeat' (first | refine Abs.goH (Abs.cc t0 (Abs.cc t3 (Abs.cc t4 (Abs.cc t5 (Abs.cc hw' (Abs.cc hci (hc0))))))) ?_ | with_reducible refine Abs.fork (fun hb => ?_) (fun hb => ?_))
        have kb := (Keep.refl hwf2).newR hwf2 (.cells [.int .i64 0, .int .i64 0, .int .i64 0, .string ⟨⟨[]⟩⟩] 62 0 false (0, 0)) (.cells [.int .i64 1, .int .i64 a, .int .i64 b, .string ⟨⟨d⟩⟩] 62 0 false (0, 0))
        have hact : (⟨(s2.heap.set s2.next (.cells [.int .i64 0, .int .i64 0, .int .i64 0, .string ⟨⟨[]⟩⟩] 62 0 false (0, 0))).set s2.next (.cells [.int .i64 1, .int .i64 a, .int .i64 b, .string ⟨⟨d⟩⟩] 62 0 false (0, 0)), s2.next + 1⟩ : St).heap.get s2.next = some (.cells [.int .i64 1, .int .i64 a, .int .i64 b, .string ⟨⟨d⟩⟩] 62 0 false (0, 0)) := get_same _ _ _
        generalize (⟨(s2.heap.set s2.next (.cells [.int .i64 0, .int .i64 0, .int .i64 0, .string ⟨⟨[]⟩⟩] 62 0 false (0, 0))).set s2.next (.cells [.int .i64 1, .int .i64 a, .int .i64 b, .string ⟨⟨d⟩⟩] 62 0 false (0, 0)), s2.next + 1⟩ : St) = s4 at kb hact ⊢
        generalize hab : s2.next = ab at hact ⊢
        have hn1 : ¬ O1 ab := fun h => by have := h1.lt ab h; omega
        have hn2 : ¬ O2 ab := fun h => by have := h2.lt ab h; omega
        have h1b := h1.old kb
        have h2b := h2.old kb
        have hwf4 := kb.wf
        have kn := kb.next
        refine rplace_ev m h2b a (by omega) ⟨_, _, rfl, ?_⟩
        have hpe : posP (L2.map (·.2)) a 0 = posP (L1.map (·.2)) a 0 := by rw [he]
        rw [hpe]
        (try first | refine EvO.nx ?_ | refine EvA.nx ?_); repeat' (first | refine Abs.goH (Abs.cc t0 (Abs.cc t3 (Abs.cc t4 (Abs.cc t5 (hact))))) ?_ | with_reducible refine Abs.fork (fun hb => ?_) (fun hb => ?_))
        refine ndeliver_ev n hwf4 h1b a b (by omega) hlen (fun hp s5 k5 => ⟨_, _, rfl, ?_⟩) fun j hjl hj s5 bv mv5 h15 hbv hbo => ⟨_, _, rfl, ?_⟩
        · (try first | refine EvO.nx ?_ | refine EvA.nx ?_); repeat' (first | refine Abs.goH (Abs.cc t0 (Abs.cc t3 (Abs.cc t4 (t5)))) ?_ | with_reducible refine Abs.fork (fun hb => ?_) (fun hb => ?_))
          refine is_ev n hI k5.wf (h1b.old k5) (h2b.old k5) he (by omega) hlen fun s9 k9 => ⟨_, _, rfl, ?_⟩
          (try first | refine EvO.nx ?_ | refine EvA.nx ?_); repeat' (first | refine Abs.goH (Abs.cc t0 (Abs.cc t3 (Abs.cc t4 (t5)))) ?_ | with_reducible refine Abs.fork (fun hb => ?_) (fun hb => ?_))
          refine ⟨xs.length - (i + 1), by omega, _, i + 1, rfl, ?_, ?_, ?_, ?_, by omega, rfl, ⟨O1, O2, L1, L2, sent, now, fed, z, (h1b.old k5).old k9, (h2b.old k5).old k9, hdis, he, by omega, by omega, b3, b4, by omega, hlen, (k2.trans (kb.trans k5)).trans k9, hge⟩⟩
          · simp (disch := first | omega | assumption) only [go_sem, t0]
          · simp (disch := first | omega | assumption) only [go_sem, t3]
          · simp (disch := first | omega | assumption) only [go_sem, t4]
          · simp (disch := first | omega | assumption) only [go_sem, t5, Int.natCast_add, Int.natCast_one]
        · have hpj : ¬ posP (L1.map (·.2)) a 0 < 0 := by omega
          have h2c := h2b.apart mv5 fun c hc hc1 => hdis c hc1 hc
          have hl2 : j < L2.length := by omega
          have hact5 := mv5.old _ _ hn1 hact
          have hlq : L1[j].2 = L2[j].2 := by
            have e1 : (L1.map (·.2))[j]? = (L2.map (·.2))[j]? := by rw [he]
            rw [List.getElem?_map, List.getElem?_map, List.getElem?_eq_getElem hjl, List.getElem?_eq_getElem hl2] at e1
            exact Option.some.inj e1
          have hlj := hlen L1[j] (List.getElem_mem hjl)
          have hei : (L1.eraseIdx j).map (·.2) = (L2.eraseIdx j).map (·.2) := by simp only [List.eraseIdx_eq_take_drop_succ, List.map_append, List.map_take, List.map_drop, he]
          have hel : (L1.eraseIdx j).length = L1.length - 1 := List.length_eraseIdx_of_lt hjl
          rw [hj] at hpj ⊢
          obtain ⟨⟨ua, uc, rfl⟩, _⟩ := id hbv
          (try first | refine EvO.nx ?_ | refine EvA.nx ?_); repeat' (first | refine Abs.goH (Abs.cc t0 (Abs.cc t3 (Abs.cc t4 (t5)))) ?_ | with_reducible refine Abs.fork (fun hb => ?_) (fun hb => ?_))
          refine rtake_ev m mv5.wf h2c (by omega) hl2 fun s6 O6 mv6 h26 htx htO => ⟨_, _, rfl, ?_⟩
          rw [hlq] at hbv hbo hlj ⊢
          generalize L2[j] = e at *
          obtain ⟨tv, q⟩ := e
          simp only at hbv hbo hlj htx htO ⊢
          obtain ⟨⟨ta, tc, rfl⟩, _⟩ := id htx.bytes
          unfold pkC
          have h16 := h15.apart mv6 fun c hc => hdis c hc
          have k4 := k2.trans kb
          have hact6 := mv6.old _ _ hn2 hact5
          have hbv6 : BytesB s6 (.slice ua (wantB q.b b).length uc) (wantB q.b b) := ⟨hbv.1, src_mono (fun c x hc hx => mv6.old c x (hdis c (hbo c hc)) hx) hbv.2⟩
          have kk : Keep s s6 := Mv.keep mv6 (Mv.keep mv5 k4 (fun c hc => hge c (.inl hc)) hwf) (fun c hc => hge c (.inr hc)) hwf
          have kc := (Keep.refl mv6.wf).newR mv6.wf (.cells [.int .i64 0, .int .i64 0, .int .i64 0, .slice none 0 0] 67 0 false (0, 0)) (.cells [.int .i64 q.id, .int .i64 q.from_, .int .i64 q.to, .slice ta q.b.length tc] 67 0 false (0, 0))
          have hact7 := kc.old _ _ hact6
          by_cases hmost : 0 ≤ b ∧ b < (q.b.length : Int)
          · obtain ⟨hb0, hbl⟩ := hmost
            obtain ⟨mm, rfl⟩ : ∃ mm : Nat, b = (mm : Int) := ⟨b.toNat, by omega⟩
            have hul : wantB q.b (mm : Int) = q.b.take mm := by unfold wantB; rw [if_pos ⟨hb0, hbl⟩, Int.toNat_natCast]
            have hul2 : (q.b.take mm).length = mm := by rw [List.length_take, Nat.min_eq_left (by omega)]
            rw [hul, hul2] at hbv6
            rw [hul, hul2]
            obtain ⟨tb, e, htb⟩ := htx.own_of fun e => by rw [e] at hbl; simp only [List.length_nil] at hbl; omega
            cases e
            have hblen := byteCells_len q.b
            have hop : mm < open_ := by unfold open_; omega
            have htb7 := kc.old _ _ htb
            have cv1 := conv_bytes (hbv6.mono kc.old)
            have cv2 := conv_bytes (txt_take htb7 (by omega : mm ≤ q.b.length) open_)
            simp (disch := first | omega | assumption) only [go_sem] at cv1
            simp (disch := first | omega | assumption) only [go_sem, htb7, Nat.sub_zero] at cv2
            (try first | refine EvO.nx ?_ | refine EvA.nx ?_); repeat' (first | refine Abs.goH (Abs.cc t0 (Abs.cc t3 (Abs.cc t4 (Abs.cc t5 (Abs.cc hact7 (Abs.cc htb7 (Abs.cc hblen (Abs.cc cv1 (cv2))))))))) ?_ | with_reducible refine Abs.fork (fun hb => ?_) (fun hb => ?_))
            refine is_ev n hI kc.wf (h16.old kc) (h26.old kc) hei (by omega) (fun e he' => hlen e (List.mem_of_mem_eraseIdx he')) fun s9 k9 => ⟨_, _, rfl, ?_⟩
            (try first | refine EvO.nx ?_ | refine EvA.nx ?_); repeat' (first | refine Abs.goH (Abs.cc t0 (Abs.cc t3 (Abs.cc t4 (t5)))) ?_ | with_reducible refine Abs.fork (fun hb => ?_) (fun hb => ?_))
            refine ⟨xs.length - (i + 1), by omega, _, i + 1, rfl, ?_, ?_, ?_, ?_, by omega, rfl, ⟨O1, O6, _, _, sent, now, fed, z, (h16.old kc).old k9, (h26.old kc).old k9, fun c hc hc6 => (mv6.new c hc6).elim (hdis c hc) fun h => by have := h15.lt c hc; omega, hei, by omega, by omega, b3, b4, by omega, fun e he' => hlen e (List.mem_of_mem_eraseIdx he'), (kk.trans kc).trans k9, fun c hc => hc.elim (fun h => hge c (.inl h)) fun h => (mv6.new c h).elim (fun h => hge c (.inr h)) fun h => by have := k4.next; have := mv5.next; omega⟩⟩
            · simp (disch := first | omega | assumption) only [go_sem, t0]
            · simp (disch := first | omega | assumption) only [go_sem, t3]
            · simp (disch := first | omega | assumption) only [go_sem, t4]
            · simp (disch := first | omega | assumption) only [go_sem, t5, Int.natCast_add, Int.natCast_one]
          · have hul : wantB q.b b = q.b := by unfold wantB; rw [if_neg hmost]
            rw [hul] at hbv6
            rw [hul]
            have cv1 := conv_bytes (hbv6.mono kc.old)
            have cv2 := conv_bytes (htx.bytes.mono kc.old)
            simp (disch := first | omega | assumption) only [go_sem] at cv1 cv2
            by_cases hb0 : 0 ≤ b
            · have hbl : ¬ b < (q.b.length : Int) := fun h => hmost ⟨hb0, h⟩
              (try first | refine EvO.nx ?_ | refine EvA.nx ?_); repeat' (first | refine Abs.goH (Abs.cc t0 (Abs.cc t3 (Abs.cc t4 (Abs.cc t5 (Abs.cc hact7 (Abs.cc cv1 (cv2))))))) ?_ | with_reducible refine Abs.fork (fun hb => ?_) (fun hb => ?_))
              refine is_ev n hI kc.wf (h16.old kc) (h26.old kc) hei (by omega) (fun e he' => hlen e (List.mem_of_mem_eraseIdx he')) fun s9 k9 => ⟨_, _, rfl, ?_⟩
              (try first | refine EvO.nx ?_ | refine EvA.nx ?_); repeat' (first | refine Abs.goH (Abs.cc t0 (Abs.cc t3 (Abs.cc t4 (t5)))) ?_ | with_reducible refine Abs.fork (fun hb => ?_) (fun hb => ?_))
              refine ⟨xs.length - (i + 1), by omega, _, i + 1, rfl, ?_, ?_, ?_, ?_, by omega, rfl, ⟨O1, O6, _, _, sent, now, fed, z, (h16.old kc).old k9, (h26.old kc).old k9, fun c hc hc6 => (mv6.new c hc6).elim (hdis c hc) fun h => by have := h15.lt c hc; omega, hei, by omega, by omega, b3, b4, by omega, fun e he' => hlen e (List.mem_of_mem_eraseIdx he'), (kk.trans kc).trans k9, fun c hc => hc.elim (fun h => hge c (.inl h)) fun h => (mv6.new c h).elim (fun h => hge c (.inr h)) fun h => by have := k4.next; have := mv5.next; omega⟩⟩
              · simp (disch := first | omega | assumption) only [go_sem, t0]
              · simp (disch := first | omega | assumption) only [go_sem, t3]
              · simp (disch := first | omega | assumption) only [go_sem, t4]
              · simp (disch := first | omega | assumption) only [go_sem, t5, Int.natCast_add, Int.natCast_one]
            · (try first | refine EvO.nx ?_ | refine EvA.nx ?_); repeat' (first | refine Abs.goH (Abs.cc t0 (Abs.cc t3 (Abs.cc t4 (Abs.cc t5 (Abs.cc hact7 (Abs.cc cv1 (cv2))))))) ?_ | with_reducible refine Abs.fork (fun hb => ?_) (fun hb => ?_))
              refine is_ev n hI kc.wf (h16.old kc) (h26.old kc) hei (by omega) (fun e he' => hlen e (List.mem_of_mem_eraseIdx he')) fun s9 k9 => ⟨_, _, rfl, ?_⟩
              (try first | refine EvO.nx ?_ | refine EvA.nx ?_); repeat' (first | refine Abs.goH (Abs.cc t0 (Abs.cc t3 (Abs.cc t4 (t5)))) ?_ | with_reducible refine Abs.fork (fun hb => ?_) (fun hb => ?_))
              refine ⟨xs.length - (i + 1), by omega, _, i + 1, rfl, ?_, ?_, ?_, ?_, by omega, rfl, ⟨O1, O6, _, _, sent, now, fed, z, (h16.old kc).old k9, (h26.old kc).old k9, fun c hc hc6 => (mv6.new c hc6).elim (hdis c hc) fun h => by have := h15.lt c hc; omega, hei, by omega, by omega, b3, b4, by omega, fun e he' => hlen e (List.mem_of_mem_eraseIdx he'), (kk.trans kc).trans k9, fun c hc => hc.elim (fun h => hge c (.inl h)) fun h => (mv6.new c h).elim (fun h => hge c (.inr h)) fun h => by have := k4.next; have := mv5.next; omega⟩⟩
              · simp (disch := first | omega | assumption) only [go_sem, t0]
              · simp (disch := first | omega | assumption) only [go_sem, t3]
              · simp (disch := first | omega | assumption) only [go_sem, t4]
              · simp (disch := first | omega | assumption) only [go_sem, t5, Int.natCast_add, Int.natCast_one]
      by_cases o2 : op = 2
      · subst o2
        (try first | refine EvO.nx ?_ | refine EvA.nx ?_); repeat' (first | refine Abs.goH (Abs.cc t0 (Abs.cc t3 (Abs.cc t4 (Abs.cc t5 (Abs.cc hw' (Abs.cc hci (hc0))))))) ?_ | with_reducible refine Abs.fork (fun hb => ?_) (fun hb => ?_))
        have kb := (Keep.refl hwf2).newR hwf2 (.cells [.int .i64 0, .int .i64 0, .int .i64 0, .string ⟨⟨[]⟩⟩] 62 0 false (0, 0)) (.cells [.int .i64 2, .int .i64 a, .int .i64 b, .string ⟨⟨d⟩⟩] 62 0 false (0, 0))
        have hact : (⟨(s2.heap.set s2.next (.cells [.int .i64 0, .int .i64 0, .int .i64 0, .string ⟨⟨[]⟩⟩] 62 0 false (0, 0))).set s2.next (.cells [.int .i64 2, .int .i64 a, .int .i64 b, .string ⟨⟨d⟩⟩] 62 0 false (0, 0)), s2.next + 1⟩ : St).heap.get s2.next = some (.cells [.int .i64 2, .int .i64 a, .int .i64 b, .string ⟨⟨d⟩⟩] 62 0 false (0, 0)) := get_same _ _ _
        generalize (⟨(s2.heap.set s2.next (.cells [.int .i64 0, .int .i64 0, .int .i64 0, .string ⟨⟨[]⟩⟩] 62 0 false (0, 0))).set s2.next (.cells [.int .i64 2, .int .i64 a, .int .i64 b, .string ⟨⟨d⟩⟩] 62 0 false (0, 0)), s2.next + 1⟩ : St) = s4 at kb hact ⊢
        generalize hab : s2.next = ab at hact ⊢
        have hn1 : ¬ O1 ab := fun h => by have := h1.lt ab h; omega
        have hn2 : ¬ O2 ab := fun h => by have := h2.lt ab h; omega
        have h1b := h1.old kb
        have h2b := h2.old kb
        have hwf4 := kb.wf
        have kn := kb.next
        refine rplace_ev m h2b a (by omega) ⟨_, _, rfl, ?_⟩
        have hpe : posP (L2.map (·.2)) a 0 = posP (L1.map (·.2)) a 0 := by rw [he]
        rw [hpe]
        (try first | refine EvO.nx ?_ | refine EvA.nx ?_); repeat' (first | refine Abs.goH (Abs.cc t0 (Abs.cc t3 (Abs.cc t4 (Abs.cc t5 (hact))))) ?_ | with_reducible refine Abs.fork (fun hb => ?_) (fun hb => ?_))
        refine ndouble_ev n hwf4 h1b a (by omega) (by omega) hlen (fun hp s5 k5 => ⟨_, _, rfl, ?_⟩) fun j hjl hj s5 O5 v5 mv5 h15 => ⟨_, _, rfl, ?_⟩
        · (try first | refine EvO.nx ?_ | refine EvA.nx ?_); repeat' (first | refine Abs.goH (Abs.cc t0 (Abs.cc t3 (Abs.cc t4 (t5)))) ?_ | with_reducible refine Abs.fork (fun hb => ?_) (fun hb => ?_))
          refine is_ev n hI k5.wf (h1b.old k5) (h2b.old k5) he (by omega) hlen fun s9 k9 => ⟨_, _, rfl, ?_⟩
          (try first | refine EvO.nx ?_ | refine EvA.nx ?_); repeat' (first | refine Abs.goH (Abs.cc t0 (Abs.cc t3 (Abs.cc t4 (t5)))) ?_ | with_reducible refine Abs.fork (fun hb => ?_) (fun hb => ?_))
          refine ⟨xs.length - (i + 1), by omega, _, i + 1, rfl, ?_, ?_, ?_, ?_, by omega, rfl, ⟨O1, O2, L1, L2, sent, now, fed, z, (h1b.old k5).old k9, (h2b.old k5).old k9, hdis, he, by omega, by omega, b3, b4, by omega, hlen, (k2.trans (kb.trans k5)).trans k9, hge⟩⟩
          · simp (disch := first | omega | assumption) only [go_sem, t0]
          · simp (disch := first | omega | assumption) only [go_sem, t3]
          · simp (disch := first | omega | assumption) only [go_sem, t4]
          · simp (disch := first | omega | assumption) only [go_sem, t5, Int.natCast_add, Int.natCast_one]
        · have hpj : ¬ posP (L1.map (·.2)) a 0 < 0 := by omega
          have h2c := h2b.apart mv5 fun c hc hc1 => hdis c hc1 hc
          have hl2 : j < L2.length := by omega
          have k4 := k2.trans kb
          have hg5 : ∀ c, O5 c → s.next ≤ c := fun c hc => (mv5.new c hc).elim (fun h => hge c (.inl h)) fun h => by have := k4.next; omega
          have k5 := Mv.keep mv5 k4 (fun c hc => hge c (.inl hc)) hwf
          have hlq : L1[j].2 = L2[j].2 := by
            have e1 : (L1.map (·.2))[j]? = (L2.map (·.2))[j]? := by rw [he]
            rw [List.getElem?_map, List.getElem?_map, List.getElem?_eq_getElem hjl, List.getElem?_eq_getElem hl2] at e1
            exact Option.some.inj e1
          have hlj := hlen L1[j] (List.getElem_mem hjl)
          obtain ⟨pv, fv, r1, r2, r3, r4, r5, r6⟩ := h2c.ex
          obtain ⟨rsrc, pa, pc, rfl⟩ := r2.src
          obtain ⟨yb, yo, yc, wy, e, hwy, hcuty⟩ := pks_at rsrc rfl ⟨_, _, rfl⟩ hl2
          cases e
          have hcy := hcuty j hl2
          have hmem := h2c.bytes L2[j] (List.getElem_mem hl2)
          rw [hlq] at h15 hlj
          generalize L2[j] = e at *
          obtain ⟨bv, q⟩ := e
          unfold pkC at hcy
          simp only at hcy hmem h15 hlj
          obtain ⟨⟨ba, bc, rfl⟩, _⟩ := hmem.1.bytes
          have kc := (Keep.refl mv5.wf).newR mv5.wf (.cells [.int .i64 0, .int .i64 0, .int .i64 0, .slice none 0 0] 67 0 false (0, 0)) (.cells [.int .i64 q.id, .int .i64 q.from_, .int .i64 q.to, .slice ba q.b.length bc] 67 0 false (0, 0))
          rw [hj] at hpj ⊢
          (try first | refine EvO.nx ?_ | refine EvA.nx ?_); repeat' (first | refine Abs.goH (Abs.cc t0 (Abs.cc t3 (Abs.cc t4 (Abs.cc t5 (Abs.cc r1 (Abs.cc hwy (hcy))))))) ?_ | with_reducible refine Abs.fork (fun hb => ?_) (fun hb => ?_))
          refine rsend_ev m kc.wf (h2c.old kc) ((hmem.1.keep fun c x _ hx => kc.old c x hx).bytes) (fun c hc e => ?_) hlj q.from_ q.to (by omega) (by omega) fun s6 O6 v6 mv6 h26 => ⟨_, _, rfl, ?_⟩
          · obtain ⟨_, w', sz, op, q2⟩ := hmem.2 c hc
            rw [e, r1] at q2
            cases q2
          have hd5 : ∀ c, O5 c → ¬ O2 c := fun c hc hc2 => (mv5.new c hc).elim (fun h => hdis c h hc2) fun h => by have := h2b.lt c hc2; omega
          have h16 := (h15.old kc).apart mv6 hd5
          have hei : (L1 ++ [(v5, (⟨((sent + 1 : Nat) : Int), q.from_, q.to, q.b⟩ : PK))]).map (·.2) = (L2 ++ [(v6, (⟨((sent + 1 : Nat) : Int), q.from_, q.to, q.b⟩ : PK))]).map (·.2) := by rw [List.map_append, List.map_append, he]; rfl
          have kk := Mv.keep mv6 (k5.trans kc) (fun c hc => hge c (.inr hc)) hwf
          have hlen' : ∀ e ∈ L1 ++ [(v5, (⟨((sent + 1 : Nat) : Int), q.from_, q.to, q.b⟩ : PK))], e.2.b.length ≤ 140737488351232 := fun e he' => (List.mem_append.1 he').elim (hlen e) fun h => by rw [List.mem_singleton] at h; subst h; exact hlj
          have hel : (L1 ++ [(v5, (⟨((sent + 1 : Nat) : Int), q.from_, q.to, q.b⟩ : PK))]).length = L1.length + 1 := by rw [List.length_append]; rfl
          (try first | refine EvO.nx ?_ | refine EvA.nx ?_); repeat' (first | refine Abs.goH (Abs.cc t0 (Abs.cc t3 (Abs.cc t4 (t5)))) ?_ | with_reducible refine Abs.fork (fun hb => ?_) (fun hb => ?_))
          refine is_ev n hI mv6.wf h16 h26 hei (by omega) hlen' fun s9 k9 => ⟨_, _, rfl, ?_⟩
          (try first | refine EvO.nx ?_ | refine EvA.nx ?_); repeat' (first | refine Abs.goH (Abs.cc t0 (Abs.cc t3 (Abs.cc t4 (t5)))) ?_ | with_reducible refine Abs.fork (fun hb => ?_) (fun hb => ?_))
          refine ⟨xs.length - (i + 1), by omega, _, i + 1, rfl, ?_, ?_, ?_, ?_, by omega, rfl, ⟨O5, O6, _, _, sent + 1, now, fed, z, h16.old k9, h26.old k9, fun c hc hc6 => (mv6.new c hc6).elim (hd5 c hc) fun h => by have := h15.lt c hc; have := kc.next; omega, hei, by omega, by omega, b3, b4, by omega, hlen', kk.trans k9, fun c hc => hc.elim (hg5 c) fun h => (mv6.new c h).elim (fun h => hge c (.inr h)) fun h => by have := k5.next; have := kc.next; omega⟩⟩
          · simp (disch := first | omega | assumption) only [go_sem, t0]
          · simp (disch := first | omega | assumption) only [go_sem, t3]
          · simp (disch := first | omega | assumption) only [go_sem, t4]
          · simp (disch := first | omega | assumption) only [go_sem, t5, Int.natCast_add, Int.natCast_one]
      by_cases o3 : op = 3
      · subst o3
        (try first | refine EvO.nx ?_ | refine EvA.nx ?_); repeat' (first | refine Abs.goH (Abs.cc t0 (Abs.cc t3 (Abs.cc t4 (Abs.cc t5 (Abs.cc hw' (Abs.cc hci (hc0))))))) ?_ | with_reducible refine Abs.fork (fun hb => ?_) (fun hb => ?_))
        have kb := (Keep.refl hwf2).newR hwf2 (.cells [.int .i64 0, .int .i64 0, .int .i64 0, .string ⟨⟨[]⟩⟩] 62 0 false (0, 0)) (.cells [.int .i64 3, .int .i64 a, .int .i64 b, .string ⟨⟨d⟩⟩] 62 0 false (0, 0))
        have hact : (⟨(s2.heap.set s2.next (.cells [.int .i64 0, .int .i64 0, .int .i64 0, .string ⟨⟨[]⟩⟩] 62 0 false (0, 0))).set s2.next (.cells [.int .i64 3, .int .i64 a, .int .i64 b, .string ⟨⟨d⟩⟩] 62 0 false (0, 0)), s2.next + 1⟩ : St).heap.get s2.next = some (.cells [.int .i64 3, .int .i64 a, .int .i64 b, .string ⟨⟨d⟩⟩] 62 0 false (0, 0)) := get_same _ _ _
        generalize (⟨(s2.heap.set s2.next (.cells [.int .i64 0, .int .i64 0, .int .i64 0, .string ⟨⟨[]⟩⟩] 62 0 false (0, 0))).set s2.next (.cells [.int .i64 3, .int .i64 a, .int .i64 b, .string ⟨⟨d⟩⟩] 62 0 false (0, 0)), s2.next + 1⟩ : St) = s4 at kb hact ⊢
        generalize hab : s2.next = ab at hact ⊢
        have hn1 : ¬ O1 ab := fun h => by have := h1.lt ab h; omega
        have hn2 : ¬ O2 ab := fun h => by have := h2.lt ab h; omega
        have h1b := h1.old kb
        have h2b := h2.old kb
        have hwf4 := kb.wf
        have kn := kb.next
        refine rplace_ev m h2b a (by omega) ⟨_, _, rfl, ?_⟩
        have hpe : posP (L2.map (·.2)) a 0 = posP (L1.map (·.2)) a 0 := by rw [he]
        rw [hpe]
        (try first | refine EvO.nx ?_ | refine EvA.nx ?_); repeat' (first | refine Abs.goH (Abs.cc t0 (Abs.cc t3 (Abs.cc t4 (Abs.cc t5 (hact))))) ?_ | with_reducible refine Abs.fork (fun hb => ?_) (fun hb => ?_))
        refine ndrop_ev n hwf4 h1b a (by omega) (fun hp s5 k5 => ⟨_, _, rfl, ?_⟩) fun j hj hjl s5 mv5 h15 => ⟨_, _, rfl, ?_⟩
        · have e1 : decide (0 ≤ posP (L1.map (·.2)) a 0) = false := decide_eq_false (by omega)
          have e2 : decide ((4 : Int) = 0) = false := rfl
          have e3 : decide ((4 : Int) ≠ 4) = false := rfl
          (try first | refine EvO.nx ?_ | refine EvA.nx ?_); repeat' (first | refine Abs.goH (Abs.cc t0 (Abs.cc t3 (Abs.cc t4 (Abs.cc t5 (Abs.cc e1 (Abs.cc e2 (e3))))))) ?_ | with_reducible refine Abs.fork (fun hb => ?_) (fun hb => ?_))
          refine is_ev n hI k5.wf (h1b.old k5) (h2b.old k5) he (by omega) hlen fun s9 k9 => ⟨_, _, rfl, ?_⟩
          (try first | refine EvO.nx ?_ | refine EvA.nx ?_); repeat' (first | refine Abs.goH (Abs.cc t0 (Abs.cc t3 (Abs.cc t4 (t5)))) ?_ | with_reducible refine Abs.fork (fun hb => ?_) (fun hb => ?_))
          refine ⟨xs.length - (i + 1), by omega, _, i + 1, rfl, ?_, ?_, ?_, ?_, by omega, rfl, ⟨O1, O2, L1, L2, sent, now, fed, z, (h1b.old k5).old k9, (h2b.old k5).old k9, hdis, he, by omega, by omega, b3, b4, by omega, hlen, (k2.trans (kb.trans k5)).trans k9, hge⟩⟩
          · simp (disch := first | omega | assumption) only [go_sem, t0]
          · simp (disch := first | omega | assumption) only [go_sem, t3]
          · simp (disch := first | omega | assumption) only [go_sem, t4]
          · simp (disch := first | omega | assumption) only [go_sem, t5, Int.natCast_add, Int.natCast_one]
        · have hpj : ¬ posP (L1.map (·.2)) a 0 < 0 := by omega
          have h2c := h2b.apart mv5 fun c hc hc1 => hdis c hc1 hc
          have hl2 : j < L2.length := by omega
          rw [hj] at hpj ⊢
          have e1 : decide (0 ≤ (j : Int)) = true := decide_eq_true (by omega)
          have e2 : decide ((0 : Int) = 0) = true := rfl
          have e3 : decide ((j : Int) < 0) = false := decide_eq_false (by omega)
          have e4 : (!(decide True == true)) = false := rfl
          (try first | refine EvO.nx ?_ | refine EvA.nx ?_); repeat' (first | refine Abs.goH (Abs.cc t0 (Abs.cc t3 (Abs.cc t4 (Abs.cc t5 (Abs.cc e1 (Abs.cc e2 (Abs.cc e3 (e4)))))))) ?_ | with_reducible refine Abs.fork (fun hb => ?_) (fun hb => ?_))
          refine rtake_ev m mv5.wf h2c (by omega) hl2 fun s6 O6 mv6 h26 _ _ => ⟨_, _, rfl, ?_⟩
          have h16 := h15.apart mv6 fun c hc => hdis c hc
          have hei : (L1.eraseIdx j).map (·.2) = (L2.eraseIdx j).map (·.2) := by simp only [List.eraseIdx_eq_take_drop_succ, List.map_append, List.map_take, List.map_drop, he]
          have hel : (L1.eraseIdx j).length = L1.length - 1 := List.length_eraseIdx_of_lt hjl
          have k4 := k2.trans kb
          have kk : Keep s s6 := (Mv.keep mv6 (Mv.keep mv5 k4 (fun c hc => hge c (.inl hc)) hwf) (fun c hc => hge c (.inr hc)) hwf)
          (try first | refine EvO.nx ?_ | refine EvA.nx ?_); repeat' (first | refine Abs.goH (Abs.cc t0 (Abs.cc t3 (Abs.cc t4 (t5)))) ?_ | with_reducible refine Abs.fork (fun hb => ?_) (fun hb => ?_))
          refine is_ev n hI mv6.wf h16 h26 hei (by omega) (fun e he' => hlen e (List.mem_of_mem_eraseIdx he')) fun s9 k9 => ⟨_, _, rfl, ?_⟩
          (try first | refine EvO.nx ?_ | refine EvA.nx ?_); repeat' (first | refine Abs.goH (Abs.cc t0 (Abs.cc t3 (Abs.cc t4 (t5)))) ?_ | with_reducible refine Abs.fork (fun hb => ?_) (fun hb => ?_))
          refine ⟨xs.length - (i + 1), by omega, _, i + 1, rfl, ?_, ?_, ?_, ?_, by omega, rfl, ⟨O1, O6, _, _, sent, now, fed, z, h16.old k9, h26.old k9, fun c hc hc6 => (mv6.new c hc6).elim (hdis c hc) fun h => by have := h15.lt c hc; omega, hei, by omega, by omega, b3, b4, by omega, fun e he' => hlen e (List.mem_of_mem_eraseIdx he'), kk.trans k9, fun c hc => hc.elim (fun h => hge c (.inl h)) fun h => (mv6.new c h).elim (fun h => hge c (.inr h)) fun h => by have := k4.next; have := mv5.next; omega⟩⟩
          · simp (disch := first | omega | assumption) only [go_sem, t0]
          · simp (disch := first | omega | assumption) only [go_sem, t3]
          · simp (disch := first | omega | assumption) only [go_sem, t4]
          · simp (disch := first | omega | assumption) only [go_sem, t5, Int.natCast_add, Int.natCast_one]
      by_cases o4 : op = 4
      · subst o4
        (try first | refine EvO.nx ?_ | refine EvA.nx ?_); repeat' (first | refine Abs.goH (Abs.cc t0 (Abs.cc t3 (Abs.cc t4 (Abs.cc t5 (Abs.cc hw' (Abs.cc hci (hc0))))))) ?_ | with_reducible refine Abs.fork (fun hb => ?_) (fun hb => ?_))
        have kb := (Keep.refl hwf2).newR hwf2 (.cells [.int .i64 0, .int .i64 0, .int .i64 0, .string ⟨⟨[]⟩⟩] 62 0 false (0, 0)) (.cells [.int .i64 4, .int .i64 a, .int .i64 b, .string ⟨⟨d⟩⟩] 62 0 false (0, 0))
        have hact : (⟨(s2.heap.set s2.next (.cells [.int .i64 0, .int .i64 0, .int .i64 0, .string ⟨⟨[]⟩⟩] 62 0 false (0, 0))).set s2.next (.cells [.int .i64 4, .int .i64 a, .int .i64 b, .string ⟨⟨d⟩⟩] 62 0 false (0, 0)), s2.next + 1⟩ : St).heap.get s2.next = some (.cells [.int .i64 4, .int .i64 a, .int .i64 b, .string ⟨⟨d⟩⟩] 62 0 false (0, 0)) := get_same _ _ _
        generalize (⟨(s2.heap.set s2.next (.cells [.int .i64 0, .int .i64 0, .int .i64 0, .string ⟨⟨[]⟩⟩] 62 0 false (0, 0))).set s2.next (.cells [.int .i64 4, .int .i64 a, .int .i64 b, .string ⟨⟨d⟩⟩] 62 0 false (0, 0)), s2.next + 1⟩ : St) = s4 at kb hact ⊢
        generalize hab : s2.next = ab at hact ⊢
        have hn1 : ¬ O1 ab := fun h => by have := h1.lt ab h; omega
        have hn2 : ¬ O2 ab := fun h => by have := h2.lt ab h; omega
        have h1b := h1.old kb
        have h2b := h2.old kb
        have hwf4 := kb.wf
        have kn := kb.next
        refine rplace_ev m h2b a (by omega) ⟨_, _, rfl, ?_⟩
        have hpe : posP (L2.map (·.2)) a 0 = posP (L1.map (·.2)) a 0 := by rw [he]
        rw [hpe]
        obtain ⟨pv2, fv2, q1, q2, q3, q4, q5, q6⟩ := h2b.ex
        (try first | refine EvO.nx ?_ | refine EvA.nx ?_); repeat' (first | refine Abs.goH (Abs.cc t0 (Abs.cc t3 (Abs.cc t4 (Abs.cc t5 (hact))))) ?_ | with_reducible refine Abs.fork (fun hb => ?_) (fun hb => ?_))
        refine ntick_ev n hwf4 h1b a ⟨b3, b4⟩ (fun hbad => ⟨_, _, rfl, ?_⟩) fun ha0 hab2 s5 mv5 h15 => ⟨_, _, rfl, ?_⟩
        · by_cases ha0 : a < 0
          · (try first | refine EvO.nx ?_ | refine EvA.nx ?_); repeat' (first | refine Abs.goH (Abs.cc t0 (Abs.cc t3 (Abs.cc t4 (Abs.cc t5 (q1))))) ?_ | with_reducible refine Abs.fork (fun hb => ?_) (fun hb => ?_))
            refine is_ev n hI hwf4 h1b h2b he (by omega) hlen fun s9 k9 => ⟨_, _, rfl, ?_⟩
            (try first | refine EvO.nx ?_ | refine EvA.nx ?_); repeat' (first | refine Abs.goH (Abs.cc t0 (Abs.cc t3 (Abs.cc t4 (t5)))) ?_ | with_reducible refine Abs.fork (fun hb => ?_) (fun hb => ?_))
            refine ⟨xs.length - (i + 1), by omega, _, i + 1, rfl, ?_, ?_, ?_, ?_, by omega, rfl, ⟨O1, O2, L1, L2, sent, now, fed, z, h1b.old k9, h2b.old k9, hdis, he, by omega, by omega, b3, b4, by omega, hlen, (k2.trans kb).trans k9, hge⟩⟩
            · simp (disch := first | omega | assumption) only [go_sem, t0]
            · simp (disch := first | omega | assumption) only [go_sem, t3]
            · simp (disch := first | omega | assumption) only [go_sem, t4]
            · simp (disch := first | omega | assumption) only [go_sem, t5, Int.natCast_add, Int.natCast_one]
          · have hbad : 1152921504606846976 - now < a := by omega
            (try first | refine EvO.nx ?_ | refine EvA.nx ?_); repeat' (first | refine Abs.goH (Abs.cc t0 (Abs.cc t3 (Abs.cc t4 (Abs.cc t5 (q1))))) ?_ | with_reducible refine Abs.fork (fun hb => ?_) (fun hb => ?_))
            refine is_ev n hI hwf4 h1b h2b he (by omega) hlen fun s9 k9 => ⟨_, _, rfl, ?_⟩
            (try first | refine EvO.nx ?_ | refine EvA.nx ?_); repeat' (first | refine Abs.goH (Abs.cc t0 (Abs.cc t3 (Abs.cc t4 (t5)))) ?_ | with_reducible refine Abs.fork (fun hb => ?_) (fun hb => ?_))
            refine ⟨xs.length - (i + 1), by omega, _, i + 1, rfl, ?_, ?_, ?_, ?_, by omega, rfl, ⟨O1, O2, L1, L2, sent, now, fed, z, h1b.old k9, h2b.old k9, hdis, he, by omega, by omega, b3, b4, by omega, hlen, (k2.trans kb).trans k9, hge⟩⟩
            · simp (disch := first | omega | assumption) only [go_sem, t0]
            · simp (disch := first | omega | assumption) only [go_sem, t3]
            · simp (disch := first | omega | assumption) only [go_sem, t4]
            · simp (disch := first | omega | assumption) only [go_sem, t5, Int.natCast_add, Int.natCast_one]
        · have h2c := h2b.apart mv5 fun c hc hc1 => hdis c hc1 hc
          obtain ⟨pv3, fv3, r1, r2, r3, r4, r5, r6⟩ := h2c.ex
          have h2d : RN ⟨s5.heap.set wb (.cells [pv3, .int .i64 ((sent : Nat) : Int), .int .i64 (now + a), fv3, .int .u64 ((z : Nat) : Int)] 60 0 false (0, 0)), s5.next⟩ O2 wb L2 sent (now + a) fed z := NetAt.put kdR ⟨_, r1⟩ r2 r3 r4 r5 r6 h2c.bytes h2c.own h2c.lt
          have mv6 : Mv O2 O2 s5 ⟨s5.heap.set wb (.cells [pv3, .int .i64 ((sent : Nat) : Int), .int .i64 (now + a), fv3, .int .u64 ((z : Nat) : Int)] 60 0 false (0, 0)), s5.next⟩ := Mv.set mv5.wf r1 h2c.own
          have h1d := h15.apart mv6 hdis
          have kk := Mv.keep mv6 (Mv.keep mv5 (k2.trans kb) (fun c hc => hge c (.inl hc)) hwf) (fun c hc => hge c (.inr hc)) hwf
          (try first | refine EvO.nx ?_ | refine EvA.nx ?_); repeat' (first | refine Abs.goH (Abs.cc t0 (Abs.cc t3 (Abs.cc t4 (Abs.cc t5 (r1))))) ?_ | with_reducible refine Abs.fork (fun hb => ?_) (fun hb => ?_))
          refine is_ev n hI mv6.wf h1d h2d he (by omega) hlen fun s9 k9 => ⟨_, _, rfl, ?_⟩
          (try first | refine EvO.nx ?_ | refine EvA.nx ?_); repeat' (first | refine Abs.goH (Abs.cc t0 (Abs.cc t3 (Abs.cc t4 (t5)))) ?_ | with_reducible refine Abs.fork (fun hb => ?_) (fun hb => ?_))
          refine ⟨xs.length - (i + 1), by omega, _, i + 1, rfl, ?_, ?_, ?_, ?_, by omega, rfl, ⟨O1, O2, L1, L2, sent, now + a, fed, z, h1d.old k9, h2d.old k9, hdis, he, by omega, by omega, by omega, by omega, by omega, hlen, kk.trans k9, hge⟩⟩
          · simp (disch := first | omega | assumption) only [go_sem, t0]
          · simp (disch := first | omega | assumption) only [go_sem, t3]
          · simp (disch := first | omega | assumption) only [go_sem, t4]
          · simp (disch := first | omega | assumption) only [go_sem, t5, Int.natCast_add, Int.natCast_one]
      by_cases o5 : op = 5
      · subst o5
        (try first | refine EvO.nx ?_ | refine EvA.nx ?_); repeat' (first | refine Abs.goH (Abs.cc t0 (Abs.cc t3 (Abs.cc t4 (Abs.cc t5 (Abs.cc hw' (Abs.cc hci (hc0))))))) ?_ | with_reducible refine Abs.fork (fun hb => ?_) (fun hb => ?_))
        have kb := (Keep.refl hwf2).newR hwf2 (.cells [.int .i64 0, .int .i64 0, .int .i64 0, .string ⟨⟨[]⟩⟩] 62 0 false (0, 0)) (.cells [.int .i64 5, .int .i64 a, .int .i64 b, .string ⟨⟨d⟩⟩] 62 0 false (0, 0))
        have hact : (⟨(s2.heap.set s2.next (.cells [.int .i64 0, .int .i64 0, .int .i64 0, .string ⟨⟨[]⟩⟩] 62 0 false (0, 0))).set s2.next (.cells [.int .i64 5, .int .i64 a, .int .i64 b, .string ⟨⟨d⟩⟩] 62 0 false (0, 0)), s2.next + 1⟩ : St).heap.get s2.next = some (.cells [.int .i64 5, .int .i64 a, .int .i64 b, .string ⟨⟨d⟩⟩] 62 0 false (0, 0)) := get_same _ _ _
        generalize (⟨(s2.heap.set s2.next (.cells [.int .i64 0, .int .i64 0, .int .i64 0, .string ⟨⟨[]⟩⟩] 62 0 false (0, 0))).set s2.next (.cells [.int .i64 5, .int .i64 a, .int .i64 b, .string ⟨⟨d⟩⟩] 62 0 false (0, 0)), s2.next + 1⟩ : St) = s4 at kb hact ⊢
        generalize hab : s2.next = ab at hact ⊢
        have hn1 : ¬ O1 ab := fun h => by have := h1.lt ab h; omega
        have hn2 : ¬ O2 ab := fun h => by have := h2.lt ab h; omega
        have h1b := h1.old kb
        have h2b := h2.old kb
        have hwf4 := kb.wf
        have kn := kb.next
        refine rplace_ev m h2b a (by omega) ⟨_, _, rfl, ?_⟩
        have hpe : posP (L2.map (·.2)) a 0 = posP (L1.map (·.2)) a 0 := by rw [he]
        rw [hpe]
        obtain ⟨ux, hu, hux⟩ : ∃ ux : Nat, IntKind.u64.wrap a = ((ux : Nat) : Int) ∧ ux < 18446744073709551616 := by
          refine ⟨(a % 18446744073709551616).toNat, ?_, by omega⟩
          rw [Int.toNat_of_nonneg (by omega)]
          simp only [IntKind.wrap, IntKind.bits, IntKind.signed, Bool.false_and]
          simp
        (try first | refine EvO.nx ?_ | refine EvA.nx ?_); repeat' (first | refine Abs.goH (Abs.cc t0 (Abs.cc t3 (Abs.cc t4 (Abs.cc t5 (Abs.cc hact (hu)))))) ?_ | with_reducible refine Abs.fork (fun hb => ?_) (fun hb => ?_))
        refine nfeed_ev n hwf4 h1b (by omega) ux fun s5 O5 mv5 h15 => ⟨_, _, rfl, ?_⟩
        have h2c := h2b.apart mv5 fun c hc hc1 => hdis c hc1 hc
        have hact5 := mv5.old _ _ hn1 hact
        obtain ⟨pv, fv, r1, r2, r3, r4, r5, r6⟩ := h2c.ex
        obtain ⟨fa, fc, rfl⟩ := r3.len
        (try first | refine EvO.nx ?_ | refine EvA.nx ?_); repeat' (first | refine Abs.goH (Abs.cc t0 (Abs.cc t3 (Abs.cc t4 (t5)))) ?_ | with_reducible refine Abs.fork (fun hb => ?_) (fun hb => ?_))
        refine Abs.Ev.regionD (n := 13) (l := [.go 0, .go 1, .go 2, .go 3, .go 4, .go 5, .go 6, .go 7, .new 8 8, .go 9, .go 10, .go 11, .go 12]) (by kernel_rfl) ?_
        (try first | refine EvO.nx ?_ | refine EvA.nx ?_); repeat' (first | refine Abs.goH (Abs.cc t0 (Abs.cc t3 (Abs.cc t4 (Abs.cc t5 (Abs.cc hact5 (Abs.cc r1 (hu))))))) ?_ | with_reducible refine Abs.fork (fun hb => ?_) (fun hb => ?_))
        have kf := Keep.set2 ((Keep.refl mv5.wf).grow (Nat.le_add_right s5.next 13)) (b := s5.next + 8) (x := .cells [.int .u64 ((ux : Nat) : Int)] 29 0 false (0, 0)) (by omega) (by omega) mv5.wf
        have r1f := kf.old _ _ r1
        have hgs : srcCells (s5.heap.set (s5.next + 8) (.cells [.int .u64 ((ux : Nat) : Int)] 29 0 false (0, 0))) 1 (.slice (some ⟨s5.next + 8, 0, none⟩) 1 1) = .ok (1, [.int .u64 ((ux : Nat) : Int)]) := src_cells (get_same _ _ _) rfl
        refine EvO.feed kf.wf (r3.mono fun c x _ hx => kf.old c x hx) (r5.mono (fun _ h => h) fun c x _ hx => kf.old c x hx) (by omega) hgs fun v7 s7 f1 f2 f3 f4 _ f6 f7 => ?_
        have hn7 : s5.next + 13 ≤ s7.next := f4
        have r1g := f6 _ _ r1f fun l e => by cases e
        obtain ⟨wa, wc, rfl⟩ := f1.len
        have h2d : RN ⟨s7.heap.set wb (.cells [pv, .int .i64 ((sent : Nat) : Int), .int .i64 now, .slice wa (fed ++ [ux]).length wc, .int .u64 ((z : Nat) : Int)] 60 0 false (0, 0)), s7.next⟩ (fun c => O2 c ∨ s5.next ≤ c ∧ c < s7.next) wb L2 sent now (fed ++ [ux]) z :=
          NetAt.fed (st := ⟨s5.heap.set (s5.next + 8) (.cells [.int .u64 ((ux : Nat) : Int)] 29 0 false (0, 0)), s5.next + 13⟩) (lo := s5.next) kdR ⟨_, r1f⟩ (Vec.mono (s := s5) (fun c x _ hx => kf.old c x hx) r2) (r4.mono (fun _ h => h) fun c x _ hx => kf.old c x hx) r6 (fun e he => ⟨(h2c.bytes e he).1.keep fun c x _ hx => kf.old c x hx, (h2c.bytes e he).2.mono (fun _ h => h) fun c x _ hx => kf.old c x hx⟩) h2c.own (fun c hc => (by have := h2c.lt c hc; omega : c < s5.next + 13)) f1 f2 f3 f4 f6 (by show s5.next ≤ s5.next + 13; omega)
        have mv6 : Mv O2 (fun c => O2 c ∨ s5.next ≤ c ∧ c < s7.next) s5 ⟨s7.heap.set wb (.cells [pv, .int .i64 ((sent : Nat) : Int), .int .i64 now, .slice wa (fed ++ [ux]).length wc, .int .u64 ((z : Nat) : Int)] 60 0 false (0, 0)), s7.next⟩ := by
          refine ⟨fun c y hy => ?_, (by omega : s5.next ≤ s7.next), fun c y hc hy => ?_, fun c hc => hc.imp id fun h => h.1⟩
          · rcases Tr.get_set hy with ⟨rfl, _⟩ | ⟨_, hy⟩
            · exact f3 _ _ r1g
            · exact f3 _ _ hy
          · exact (get_other _ _ _ _ fun e => hc (by rw [e]; exact h2c.own)).trans (f7 c y (kf.old c y hy) hc)
        have hd5 : ∀ c, O5 c → ¬ O2 c := fun c hc hc2 => (mv5.new c hc).elim (fun h => hdis c h hc2) fun h => by have := h2b.lt c hc2; omega
        have h1d := h15.apart mv6 hd5
        have k4 := k2.trans kb
        have k5 := Mv.keep mv5 k4 (fun c hc => hge c (.inl hc)) hwf
        have kk := Mv.keep mv6 k5 (fun c hc => hge c (.inr hc)) hwf
        have hfl : (fed ++ [ux]).length = fed.length + 1 := by rw [List.length_append]; rfl
        (try first | refine EvO.nx ?_ | refine EvA.nx ?_); repeat' (first | refine Abs.goH (Abs.cc t0 (Abs.cc t3 (Abs.cc t4 (Abs.cc t5 (r1g))))) ?_ | with_reducible refine Abs.fork (fun hb => ?_) (fun hb => ?_))
        refine is_ev n hI mv6.wf h1d h2d he (by omega) hlen fun s9 k9 => ⟨_, _, rfl, ?_⟩
        (try first | refine EvO.nx ?_ | refine EvA.nx ?_); repeat' (first | refine Abs.goH (Abs.cc t0 (Abs.cc t3 (Abs.cc t4 (t5)))) ?_ | with_reducible refine Abs.fork (fun hb => ?_) (fun hb => ?_))
        refine ⟨xs.length - (i + 1), by omega, _, i + 1, rfl, ?_, ?_, ?_, ?_, by omega, rfl, ⟨O5, _, L1, L2, sent, now, fed ++ [ux], z, h1d.old k9, h2d.old k9, fun c hc hc6 => hc6.elim (hd5 c hc) fun h => by have := h15.lt c hc; omega, he, by omega, by omega, b3, b4, by omega, hlen, kk.trans k9, fun c hc => hc.elim (fun h => (mv5.new c h).elim (fun h => hge c (.inl h)) fun h => by have := k4.next; omega) fun h => h.elim (fun h => hge c (.inr h)) fun h => by have := k5.next; omega⟩⟩
        · simp (disch := first | omega | assumption) only [go_sem, t0]
        · simp (disch := first | omega | assumption) only [go_sem, t3]
        · simp (disch := first | omega | assumption) only [go_sem, t4]
        · simp (disch := first | omega | assumption) only [go_sem, t5, Int.natCast_add, Int.natCast_one]
      (try first | refine EvO.nx ?_ | refine EvA.nx ?_); repeat' (first | refine Abs.goH (Abs.cc t0 (Abs.cc t3 (Abs.cc t4 (Abs.cc t5 (Abs.cc hw' (Abs.cc hci (hc0))))))) ?_ | with_reducible refine Abs.fork (fun hb => ?_) (fun hb => ?_))
      have kb := (Keep.refl hwf2).newR hwf2 (.cells [.int .i64 0, .int .i64 0, .int .i64 0, .string ⟨⟨[]⟩⟩] 62 0 false (0, 0)) (.cells [.int .i64 op, .int .i64 a, .int .i64 b, .string ⟨⟨d⟩⟩] 62 0 false (0, 0))
      have hact : (⟨(s2.heap.set s2.next (.cells [.int .i64 0, .int .i64 0, .int .i64 0, .string ⟨⟨[]⟩⟩] 62 0 false (0, 0))).set s2.next (.cells [.int .i64 op, .int .i64 a, .int .i64 b, .string ⟨⟨d⟩⟩] 62 0 false (0, 0)), s2.next + 1⟩ : St).heap.get s2.next = some (.cells [.int .i64 op, .int .i64 a, .int .i64 b, .string ⟨⟨d⟩⟩] 62 0 false (0, 0)) := get_same _ _ _
      generalize (⟨(s2.heap.set s2.next (.cells [.int .i64 0, .int .i64 0, .int .i64 0, .string ⟨⟨[]⟩⟩] 62 0 false (0, 0))).set s2.next (.cells [.int .i64 op, .int .i64 a, .int .i64 b, .string ⟨⟨d⟩⟩] 62 0 false (0, 0)), s2.next + 1⟩ : St) = s4 at kb hact ⊢
      generalize hab : s2.next = ab at hact ⊢
      have hn1 : ¬ O1 ab := fun h => by have := h1.lt ab h; omega
      have hn2 : ¬ O2 ab := fun h => by have := h2.lt ab h; omega
      have h1b := h1.old kb
      have h2b := h2.old kb
      have hwf4 := kb.wf
      have kn := kb.next
      refine rplace_ev m h2b a (by omega) ⟨_, _, rfl, ?_⟩
      have hpe : posP (L2.map (·.2)) a 0 = posP (L1.map (·.2)) a 0 := by rw [he]
      rw [hpe]
      (try first | refine EvO.nx ?_ | refine EvA.nx ?_); repeat' (first | refine Abs.goH (Abs.cc t0 (Abs.cc t3 (Abs.cc t4 (Abs.cc t5 (hact))))) ?_ | with_reducible refine Abs.fork (fun hb => ?_) (fun hb => ?_))
      refine nrand_ev n hwf4 h1b (by omega) (fun hf s5 mv5 h15 => ⟨_, _, rfl, ?_⟩) fun x r hf s5 mv5 h15 => ⟨_, _, rfl, ?_⟩
      · subst hf
        have h2c := h2b.apart mv5 fun c hc hc1 => hdis c hc1 hc
        (try first | refine EvO.nx ?_ | refine EvA.nx ?_); repeat' (first | refine Abs.goH (Abs.cc t0 (Abs.cc t3 (Abs.cc t4 (t5)))) ?_ | with_reducible refine Abs.fork (fun hb => ?_) (fun hb => ?_))
        refine rrand_ev m mv5.wf h2c (by simp) (fun _ s6 mv6 h26 => ⟨_, _, rfl, ?_⟩) fun x r hf => by cases hf
        have h16 := h15.apart mv6 hdis
        have kk := Mv.keep mv6 (Mv.keep mv5 (k2.trans kb) (fun c hc => hge c (.inl hc)) hwf) (fun c hc => hge c (.inr hc)) hwf
        (try first | refine EvO.nx ?_ | refine EvA.nx ?_); repeat' (first | refine Abs.goH (Abs.cc t0 (Abs.cc t3 (Abs.cc t4 (t5)))) ?_ | with_reducible refine Abs.fork (fun hb => ?_) (fun hb => ?_))
        refine is_ev n hI mv6.wf h16 h26 he (by omega) hlen fun s9 k9 => ⟨_, _, rfl, ?_⟩
        (try first | refine EvO.nx ?_ | refine EvA.nx ?_); repeat' (first | refine Abs.goH (Abs.cc t0 (Abs.cc t3 (Abs.cc t4 (t5)))) ?_ | with_reducible refine Abs.fork (fun hb => ?_) (fun hb => ?_))
        refine ⟨xs.length - (i + 1), by omega, _, i + 1, rfl, ?_, ?_, ?_, ?_, by omega, rfl, ⟨O1, O2, L1, L2, sent, now, [], _, h16.old k9, h26.old k9, hdis, he, by omega, by omega, b3, b4, by simp, hlen, kk.trans k9, hge⟩⟩
        · simp (disch := first | omega | assumption) only [go_sem, t0]
        · simp (disch := first | omega | assumption) only [go_sem, t3]
        · simp (disch := first | omega | assumption) only [go_sem, t4]
        · simp (disch := first | omega | assumption) only [go_sem, t5, Int.natCast_add, Int.natCast_one]
      · subst hf
        have h2c := h2b.apart mv5 fun c hc hc1 => hdis c hc1 hc
        (try first | refine EvO.nx ?_ | refine EvA.nx ?_); repeat' (first | refine Abs.goH (Abs.cc t0 (Abs.cc t3 (Abs.cc t4 (t5)))) ?_ | with_reducible refine Abs.fork (fun hb => ?_) (fun hb => ?_))
        refine rrand_ev m mv5.wf h2c (by omega) (fun hf => by cases hf) fun x' r' hf s6 O6 mv6 h26 => ⟨_, _, rfl, ?_⟩
        cases hf
        have h16 := h15.apart mv6 hdis
        have k4 := k2.trans kb
        have kk := Mv.keep mv6 (Mv.keep mv5 k4 (fun c hc => hge c (.inl hc)) hwf) (fun c hc => hge c (.inr hc)) hwf
        simp only [List.length_cons] at b5
        (try first | refine EvO.nx ?_ | refine EvA.nx ?_); repeat' (first | refine Abs.goH (Abs.cc t0 (Abs.cc t3 (Abs.cc t4 (t5)))) ?_ | with_reducible refine Abs.fork (fun hb => ?_) (fun hb => ?_))
        refine is_ev n hI mv6.wf h16 h26 he (by omega) hlen fun s9 k9 => ⟨_, _, rfl, ?_⟩
        (try first | refine EvO.nx ?_ | refine EvA.nx ?_); repeat' (first | refine Abs.goH (Abs.cc t0 (Abs.cc t3 (Abs.cc t4 (t5)))) ?_ | with_reducible refine Abs.fork (fun hb => ?_) (fun hb => ?_))
        refine ⟨xs.length - (i + 1), by omega, _, i + 1, rfl, ?_, ?_, ?_, ?_, by omega, rfl, ⟨O1, O6, L1, L2, sent, now, r, z, h16.old k9, h26.old k9, fun c hc hc6 => (mv6.new c hc6).elim (hdis c hc) fun h => by have := h15.lt c hc; omega, he, by omega, by omega, b3, b4, by omega, hlen, kk.trans k9, fun c hc => hc.elim (fun h => hge c (.inl h)) fun h => (mv6.new c h).elim (fun h => hge c (.inr h)) fun h => by have := k4.next; have := mv5.next; omega⟩⟩
        · simp (disch := first | omega | assumption) only [go_sem, t0]
        · simp (disch := first | omega | assumption) only [go_sem, t3]
        · simp (disch := first | omega | assumption) only [go_sem, t4]
        · simp (disch := first | omega | assumption) only [go_sem, t5, Int.natCast_add, Int.natCast_one]
    · obtain rfl : i = xs.length := by omega
      (try first | refine EvO.nx ?_ | refine EvA.nx ?_); repeat' (first | refine Abs.goH (Abs.cc t0 (Abs.cc t3 (Abs.cc t4 (t5)))) ?_ | with_reducible refine Abs.fork (fun hb => ?_) (fun hb => ?_))
      exact ⟨_, rfl⟩
  · (try first | refine EvO.nx ?_ | refine EvA.nx ?_); repeat' (first | refine Abs.go ?_ | with_reducible refine Abs.fork (fun hb => ?_) (fun hb => ?_))
    all_goals exact ⟨_, rfl⟩
end
end Go.Proofs.Ytpbadpkleiogoaa
