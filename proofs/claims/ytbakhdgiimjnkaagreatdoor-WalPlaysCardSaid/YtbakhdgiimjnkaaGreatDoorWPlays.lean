/-
  The law WalPlays at the evaluator: it says true.
-/
import Derived.Test.YtbakhdgiimjnkaaGreatDoorWlE
import Derived.Test.YtbakhdgiimjnkaaGreatDoorWlC
import Derived.Test.YtbakhdgiimjnkaaGreatDoorEvSet
set_option linter.unusedVariables false
set_option linter.unusedSimpArgs false
namespace Go.Proofs.YtbakhdgiimjnkaaGreatDoor
open Abs
set_option maxHeartbeats 16000000
set_option maxRecDepth 20000
set_option linter.unusedSimpArgs false
attribute [local irreducible] Abs.Ev Abs.EvF Abs.EvO Abs.EvA Abs.Seq Abs.Blk Abs.Body Abs.Scp Abs.EvG Abs.EvAg Abs.Nx
attribute [local go_sem] Tryz.underlying3 Ty.sz3 Ty.by3 Ty.ag3 Ty.ze3 Tryz.underlying4 Ty.sz4 Ty.by4 Ty.ag4 Ty.ze4 Tryz.underlying5 Ty.sz5 Ty.by5 Ty.ag5 Ty.ze5 Tryz.underlying9 Ty.sz9 Ty.by9 Ty.ag9 Ty.ze9 Tryz.underlying28 Ty.sz28 Ty.by28 Ty.ag28 Ty.ze28 Tryz.underlying45 Ty.sz45 Ty.by45 Ty.ag45 Ty.ze45 Tryz.underlying59 Ty.sz59 Ty.by59 Ty.ag59 Ty.ze59 Tryz.underlying76 Ty.sz76 Ty.by76 Ty.ag76 Ty.ze76 Tryz.underlying78 Ty.sz78 Ty.by78 Ty.ag78 Ty.ze78 Tryz.underlying96 Ty.sz96 Ty.by96 Ty.ag96 Ty.ze96 Tryz.underlying117 Ty.sz117 Ty.by117 Ty.ag117 Ty.ze117
section
variable {Sm : Summ} {Q : Ans → Prop}
/-- a call as it lies -/
structure AX where
  op : Int
  nn : Int
  d : List UInt8
  pk : Value
  picks : List Int
def AX.cells (x : AX) : List Value := [.int .i64 x.op, .int .i64 x.nn, .string ⟨⟨x.d⟩⟩, x.pk]
structure ActsAt (s : St) (v : Value) (l : List AX) : Prop where
  is : ∃ a c, v = .slice a l.length c
  src : ∃ cs, srcCells s.heap 4 v = .ok (l.length, cs) ∧ ∀ i (h : i < l.length), (cs.drop (i * 4)).take 4 = l[i].cells ∧ IntsB s l[i].pk l[i].picks
theorem ActsAt.cut {s : St} {v : Value} {l : List AX} (h : ActsAt s v l) {i : Nat} (hi : i < l.length) : ∃ (b o c : Nat) (w : List Value), v = .slice (some ⟨b, o, none⟩) l.length c ∧ objCells (s.heap.get b) = .ok w ∧ ∀ i (h : i < l.length), cutN w (o + i * 4) 4 = some l[i].cells ∧ IntsB s l[i].pk l[i].picks := by
  obtain ⟨⟨a, c, rfl⟩, cs, h1, h2⟩ := h
  cases a with
  | none =>
    exfalso
    have : (0 : Nat) = l.length := by
      have e : srcCells s.heap 4 (.slice none l.length c) = .ok (0, []) := rfl
      rw [e] at h1
      exact congrArg (fun r => match r with | .ok (n, _) => n | _ => 0) h1
    omega
  | some q =>
    obtain ⟨b, o, sp⟩ := q
    cases sp with
    | some _ => cases h1
    | none =>
      obtain ⟨w, hw, hcut, hlen⟩ := src_parts h1
      refine ⟨b, o, c, w, rfl, hw, fun j hj => ⟨?_, (h2 j hj).2⟩⟩
      rw [cutN_eq, if_pos (by omega), ← (h2 j hj).1, ← hcut, List.drop_take, List.take_take, List.drop_drop, Nat.min_eq_left (by omega)]
theorem RecsO.app {st : St} {O : Nat → Prop} {v x : Value} {ps : List Rec} {l : List UInt8} {K : Value → St → Prop} (hwf : st.wf) (h : RecsO st O v ps) (hO : ∀ c, O c → c < st.next) (hx : BytesB st x l) (hxO : ∀ c, inBlk x c → ¬ O c ∧ ∃ y, st.heap.get c = some y ∧ ∀ l, y ≠ .cells l 28 1 true (0, 0)) {y : Value} (hy : srcCells st.heap 1 y = .ok (1, [x])) (hn : ps.length ≤ 1000000)
    (k : ∀ v' st', RecsO st' O v' (ps ++ [l]) → (∃ a c, v' = .slice a (ps.length + 1) c) → st'.wf → st.next ≤ st'.next → SameBut 28 1 st st' → (∀ b z, st.heap.get b = some z → ¬ inRoom v b → st'.heap.get b = some z) → K v' st') :
    EvO (fun _ k => aAppend Tryz.prog st (59 :: [59]) v y fun v s => k v [] s) K := by
  obtain ⟨vs, h1, h2, h3⟩ := h.ex
  have hone : [x].all oneB = true := by obtain ⟨a, c, rfl⟩ := hx.1; rfl
  refine EvO.appendV (m := 1) (nw := [x]) hwf Tryz.underlying59 Ty.sz28 Ty.by28 Ty.ze28 rfl (by decide) h1 (by unfold open_; omega) ((appSrc_slice Tryz.underlying59).trans hy) rfl hone (by decide) (by omega) (by omega) fun v' st' k1 k2 k3 k4 k5 k6 => ?_
  obtain ⟨b, o, rfl, hb⟩ := k2
  have low : ∀ {w : Value} {l : List UInt8}, BytesB st w l → (∀ c, inBlk w c → ¬ O c ∧ ∃ y, st.heap.get c = some y ∧ ∀ l, y ≠ .cells l 28 1 true (0, 0)) → BytesB st' w l := fun hw hc => hw.src fun c z h5 hz => by
    obtain ⟨_, y, hy, hn⟩ := hc c h5
    rw [hz] at hy
    cases hy
    exact k5 c z hz hn
  have kind : ∀ {w : Value}, (∀ c, inBlk w c → ¬ O c ∧ ∃ y, st.heap.get c = some y ∧ ∀ l, y ≠ .cells l 28 1 true (0, 0)) → ∀ c, inBlk w c → ¬ O c ∧ ∃ y, st'.heap.get c = some y ∧ ∀ l, y ≠ .cells l 28 1 true (0, 0) := fun hc c h5 => by
    obtain ⟨q1, y, hy, hn⟩ := hc c h5
    exact ⟨q1, y, k5 c y hy hn, hn⟩
  refine k _ st' ⟨⟨vs ++ [x], by rw [List.length_append]; exact k1, ⟨by simp [h2.1], fun i w l' e1 e2 => ?_⟩, fun w hw c hc => ?_⟩, fun c hc => ?_, by rw [List.length_append, List.length_singleton]; unfold open_; omega⟩ ⟨_, _, rfl⟩ k3 k4 k5 k6
  · by_cases hi : i < vs.length
    · rw [List.getElem?_append_left hi] at e1
      rw [List.getElem?_append_left (by rw [← h2.1]; exact hi)] at e2
      exact low (h2.2 i w l' e1 e2) (h3 w (List.mem_of_getElem? e1))
    · have h4 := (List.getElem?_eq_some_iff.1 e1).1
      rw [List.length_append, List.length_singleton] at h4
      obtain rfl : i = vs.length := by omega
      rw [List.getElem?_append_right (Nat.le_refl _), Nat.sub_self] at e1
      rw [h2.1, List.getElem?_append_right (Nat.le_refl _), Nat.sub_self] at e2
      cases e1
      cases e2
      exact low hx hxO
  · rcases List.mem_append.1 hw with hw | hw
    · exact kind (h3 w hw) c hc
    · rw [List.mem_singleton] at hw
      subst hw
      exact kind hxO c hc
  · obtain ⟨o', n', c', e⟩ := hc
    cases e
    rcases hb with rfl | hb
    · exact ⟨⟨_, _, rfl⟩, fun ho => by have := hO _ ho; omega⟩
    · exact ⟨⟨_, _, rfl⟩, (h.room _ hb.blk).2⟩
theorem RecsO.nil (s : St) (O : Nat → Prop) : RecsO s O (.slice none 0 0) [] :=
  ⟨⟨[], .nil, ⟨rfl, fun i w l e => by simp at e⟩, fun w hw => by cases hw⟩, (fun c hc => by obtain ⟨_, _, _, e⟩ := hc; cases e), (by decide : (0 : Nat) < open_)⟩
theorem Lg.frame2 {s0 s s' : St} {O : Nat → Prop} {lb b : Nat} {p : Nm} {most first last by_ rec : Nat} {q : Int} {V : Vw} {t n c : Nat} (h : Lg s0 s O lb b p most first last by_ rec q V t n c) (hw : s'.wf) (hn : s.next ≤ s'.next) (hk : ∀ x y, (O x ∨ x = lb) → s.heap.get x = some y → s'.heap.get x = some y) (h0 : ∀ x y, s0.heap.get x = some y → s'.heap.get x = some y) : Lg s0 s' O lb b p most first last by_ rec q V t n c :=
  ⟨h.dk.frame (fun x y hx hy => hk x y (.inl hx) hy) ⟨hw, Nat.le_trans h.dk.keep.next hn, h0⟩ hn, hk _ _ (.inr rfl) h.at_, h.off, h.lo⟩
theorem Dk.tot {s0 s : St} {O : Nat → Prop} {b : Nat} {q : Int} {V : Vw} {t n c : Nat} (h : Dk s0 s O b q V t n c) : t ≤ 1073741824 := by
  obtain ⟨d, F, I, h1, h2, h3, h4, h5⟩ := h.at_
  exact h4.tot_le fun e he => (h3 e.2 (h1.inN e he)).2
theorem Abs.Keep.new2 {s s' : St} (h : Keep s s') (hwf : s.wf) (x y : AObj) : Keep s ⟨(s'.heap.set s'.next x).set s'.next y, s'.next + 1⟩ := Keep.set (h.new x) h.next (Nat.lt_succ_self _) hwf y
theorem syn_full {a last : Nat} (h : a ≤ last) (R : Nat → List Rec) : syn a last R (R last).length = (recsR a last R).length := by
  unfold syn
  rw [recsR_top h, List.length_append]
theorem act_veq {op nn : Int} {d : List UInt8} {v : Value} (h : vEq v v = true) : vEq2 (.agg ⟨[.int .i64 op, .int .i64 nn, .string ⟨⟨d⟩⟩, v]⟩) (.agg ⟨[.int .i64 op, .int .i64 nn, .string ⟨⟨d⟩⟩, v]⟩) = true := by
  have e1 : vEq (.int .i64 op) (.int .i64 op) = true := by simp [vEq]
  have e2 : vEq (.int .i64 nn) (.int .i64 nn) = true := by simp [vEq]
  have e3 : vEq (.string ⟨⟨d⟩⟩) (.string ⟨⟨d⟩⟩) = true := by simp [vEq, bEq_eq]
  show (Nat.beq 4 4 && (vEq (.int .i64 op) (.int .i64 op) && (vEq (.int .i64 nn) (.int .i64 nn) && (vEq (.string ⟨⟨d⟩⟩) (.string ⟨⟨d⟩⟩) && (vEq v v && true))))) = true
  rw [e1, e2, e3, h]
  rfl
theorem ints_veq {s : St} {v : Value} {l : List Int} (h : IntsB s v l) : vEq v v = true := by
  obtain ⟨⟨a, c, rfl⟩, h2⟩ := h
  cases a with
  | none => simp [vEq]
  | some q =>
    obtain ⟨b, o, sp⟩ := q
    cases sp with
    | some _ => cases h2
    | none => simp [vEq]
/-- what stands at the loop's head of the law -/
structure PlInv (s s' : St) (M b lb i safe : Nat) (allv : Value) (allp : List Rec) : Prop where
  ex : ∃ (O : Nat → Prop) (V : Vw) (tt m last by_ : Nat) (R : Nat → List Rec) (j rec : Nat) (q : Int), Lg s s' O lb b preW M 1 last by_ rec q V tt m 0 ∧ Lw V preW 1 last by_ R j ∧ RecsO s' (fun c => O c ∨ c = lb) allv allp ∧ recsR 1 last R = allp ∧ safe ≤ syn 1 last R j ∧ allp.length ≤ i ∧ last ≤ 1 + i ∧ m ≤ last ∧ rec ≤ i ∧ 0 ≤ q ∧ q ≤ 9223372036854775807
attribute [local go_sem] List.length_nil
set_option maxRecDepth 20000 in
theorem walPlays_ev (hn : NoWO Sm) (hF : Sm 14 = none) (hS : Sm 42 = none) (hR : Sm 44 = none) {g : List Value → St → Rs (Value × St)} (hA : Sm 31 = some g) {s : St} (hg : ∀ s', Keep s s' → g [] s' = .ok (.bool true, s')) (hwf : s.wf) (hT : P10At s) (hk0 : ∀ c y, s.heap.get c = some y → ∀ l, y ≠ .cells l 28 1 true (0, 0)) {lv : Value} {xs : List AX} (hl : ActsAt s lv xs) (hnn : ∀ x ∈ xs, x.nn ≤ 9223372036854775807) (quota most : Int) :
    Ev Tryz.prog Sm (.inv (.fn (.func 14) #[]) [.int .i64 quota, .int .i64 most, lv] s) fun r => ∃ s', r = .val (.bool true) s' := by
  refine Ev.func hF Tryz.func14 rfl (m := 183) rfl ?_
  simp only [Array.toList_empty, List.append_nil, ofList_cons, ofList_nil]
  obtain ⟨⟨la, lc, rfl⟩, _⟩ := id hl
  (try first | refine EvO.nx ?_ | refine EvA.nx ?_); repeat' (first | refine Abs.go ?_ | with_reducible refine Abs.fork (fun hb => ?_) (fun hb => ?_))
  refine Ev.summ hA (hg s (Keep.refl hwf)) ⟨_, _, rfl, ?_⟩
  by_cases hc : 0 ≤ quota ∧ quota ≤ 100000 ∧ 64 ≤ most ∧ most ≤ 1000 ∧ xs.length ≤ 50
  · obtain ⟨c1, c2, c3, c4, c5⟩ := hc
    obtain ⟨M, rfl⟩ : ∃ M : Nat, most = (M : Int) := ⟨most.toNat, by omega⟩
    (try first | refine EvO.nx ?_ | refine EvA.nx ?_); repeat' (first | refine Abs.go ?_ | with_reducible refine Abs.fork (fun hb => ?_) (fun hb => ?_))
    refine vnew_ev hn.wl.wn.disk hwf c1 fun s1 O1 b dk1 => ⟨_, _, rfl, ?_⟩
    (try first | refine EvO.nx ?_ | refine EvA.nx ?_); repeat' (first | refine Abs.go ?_ | with_reducible refine Abs.fork (fun hb => ?_) (fun hb => ?_))
    refine ropen_ev hn hwf hT dk1 preW_ok ⟨by omega, by omega⟩ (a := 1) (.inl ⟨rfl, rfl, rfl, rfl, fun _ _ _ => rfl⟩) (by decide) (by decide) fun lb rv s3 O3 V3 t3 m3 last3 by3 R3 j3 mv hlb hl3 hw3 hre3 hla3 ht3 hm3 hsy hoff hro => ⟨_, _, rfl, ?_⟩
    rw [show recsR 1 0 (fun _ => []) = [] from rfl] at hre3 hro
    obtain ⟨_, ra, rc, rfl⟩ := hro.ex.choose_spec.1.src
    (try first | refine EvO.nx ?_ | refine EvA.nx ?_); repeat' (first | refine Abs.go ?_ | with_reducible refine Abs.fork (fun hb => ?_) (fun hb => ?_))
    refine Ev.loop (fun k a' s' => ∃ T, ∃ i lb safe : Nat, ∃ allv allp, a' = ⟨T, 183, []⟩ ∧ T.get 1 = some (.int .i64 (M : Int)) ∧ T.get 2 = some (.slice la xs.length lc) ∧ T.get 7 = some (.pointer (some ⟨b, 0, none⟩)) ∧ T.get 9 = some (.pointer (some ⟨lb, 0, none⟩)) ∧ T.get 12 = some allv ∧ T.get 13 = some (.int .i64 ((safe : Nat) : Int)) ∧ T.get 14 = some (.int .i64 ((i : Nat) : Int)) ∧ i ≤ xs.length ∧ k = xs.length - i ∧ PlInv s s' M b lb i safe allv allp) (k := xs.length)
      ⟨_, 0, lb, 0, .slice none 0 0, [], rfl, ?g1, ?g2, ?g7, ?g9, ?g12, ?g13, ?g14, Nat.zero_le _, rfl, ⟨O3, V3, t3, m3, last3, by3, R3, j3, 0, quota, hl3, hw3, RecsO.nil _ _, hre3, Nat.zero_le _, Nat.zero_le _, by omega, by omega, Nat.zero_le _, c1, by omega⟩⟩ ?_
    case g1 => simp (disch := first | omega | assumption) only [go_sem, ]
    case g2 => simp (disch := first | omega | assumption) only [go_sem, ]
    case g7 => simp (disch := first | omega | assumption) only [go_sem, ]
    case g9 => simp (disch := first | omega | assumption) only [go_sem, ]
    case g12 => simp (disch := first | omega | assumption) only [go_sem, ]
    case g13 => simp (disch := first | omega | assumption) only [go_sem, ]; try rfl
    case g14 => simp (disch := first | omega | assumption) only [go_sem, ]; try rfl
    rintro k a' s2 ⟨T, i, lb, safe, allv, allp, rfl, g1, g2, g7, g9, g12, g13, g14, hi, rfl, ⟨O, V, tt, m, last, by_, R, j, rec, q, hl2, hw2, hro2, hre, b1, b2, b3, b4, b5, b6, b7⟩⟩
    by_cases hil : i < xs.length
    · obtain ⟨xb, xo, xc', w, e, hw, hcut⟩ := hl.cut hil
      cases e
      obtain ⟨hci, hpi⟩ := hcut i hil
      have hni := hnn xs[i] (List.getElem_mem hil)
      generalize xs[i] = x at *
      obtain ⟨op, nn, d, pk, picks⟩ := x
      unfold AX.cells at hci
      simp only at hci hpi hni
      have hwf2 := hl2.dk.keep.wf
      have hw' := keep_obj hl2.dk.keep.old hw
      have hc0 : w[xo + i * 4]? = some (.int .i64 op) := cut_at hci (i := 0) rfl
      obtain ⟨⟨pa, pc, rfl⟩, _⟩ := id hpi
      obtain ⟨_, aa, ac, rfl⟩ := hro2.ex.choose_spec.1.src
      have htot := hl2.dk.tot
      have hO2 : ∀ c, (O c ∨ c = lb) → c < s2.next := fun c hc => hc.elim (fun h => hl2.dk.lt h) fun e => e ▸ hl2.at_.lt hwf2
      have hle2 := hw2.lt.le
      have hv2 : V (segN preW (last + 1)) = none := by
        have h1 := hw2.lt.segs (last + 1) (by omega) (by omega)
        cases e : V (segN preW (last + 1)) with
        | none => rfl
        | some y =>
          have := h1.1 (by rw [e]; simp)
          omega
      by_cases o0 : op = 0
      · subst o0
        by_cases h4 : 4000 < d.length
        · (try first | refine EvO.nx ?_ | refine EvA.nx ?_); repeat' (first | refine Abs.goH (Abs.cc g1 (Abs.cc g2 (Abs.cc g7 (Abs.cc g9 (Abs.cc g12 (Abs.cc g13 (Abs.cc g14 (Abs.cc hw' (Abs.cc hci (hc0)))))))))) ?_ | with_reducible refine Abs.fork (fun hb => ?_) (fun hb => ?_))
          all_goals exact ⟨_, rfl⟩
        · (try first | refine EvO.nx ?_ | refine EvA.nx ?_); repeat' (first | refine Abs.goH (Abs.cc g1 (Abs.cc g2 (Abs.cc g7 (Abs.cc g9 (Abs.cc g12 (Abs.cc g13 (Abs.cc g14 (Abs.cc hw' (Abs.cc hci (hc0)))))))))) ?_ | with_reducible refine Abs.fork (fun hb => ?_) (fun hb => ?_))
          have kb := (Keep.refl hwf2).new2 hwf2 (.cells [.int .i64 0, .int .i64 0, .string ⟨⟨[]⟩⟩, .slice none 0 0] 78 0 false (0, 0)) (.cells [.int .i64 0, .int .i64 nn, .string ⟨⟨d⟩⟩, .slice pa picks.length pc] 78 0 false (0, 0))
          have hact : (⟨(s2.heap.set s2.next (.cells [.int .i64 0, .int .i64 0, .string ⟨⟨[]⟩⟩, .slice none 0 0] 78 0 false (0, 0))).set s2.next (.cells [.int .i64 0, .int .i64 nn, .string ⟨⟨d⟩⟩, .slice pa picks.length pc] 78 0 false (0, 0)), s2.next + 1⟩ : St).heap.get s2.next = some (.cells [.int .i64 0, .int .i64 nn, .string ⟨⟨d⟩⟩, .slice pa picks.length pc] 78 0 false (0, 0)) := get_same _ _ _
          generalize (⟨(s2.heap.set s2.next (.cells [.int .i64 0, .int .i64 0, .string ⟨⟨[]⟩⟩, .slice none 0 0] 78 0 false (0, 0))).set s2.next (.cells [.int .i64 0, .int .i64 nn, .string ⟨⟨d⟩⟩, .slice pa picks.length pc] 78 0 false (0, 0)), s2.next + 1⟩ : St) = s4 at kb hact ⊢
          generalize hab : s2.next = ab at hact ⊢
          have hnab : ¬ (O ab ∨ ab = lb) := fun h => by have := hO2 ab h; omega
          have hl4 := hl2.old kb
          have hro4 := hro2.mv hwf2 (Mv.ofKeep kb)
          have hwf4 := kb.wf
          refine vstat_ev hn.wl.wn.disk hl4.dk fun s5 y1 y2 y3 k5 => ⟨_, _, rfl, ?_⟩
          have hl5 := hl4.old k5
          have hro5 := hro4.mv hwf4 (Mv.ofKeep k5)
          have hact5 := k5.old _ _ hact
          (try first | refine EvO.nx ?_ | refine EvA.nx ?_); repeat' (first | refine Abs.goH (Abs.cc g1 (Abs.cc g2 (Abs.cc g7 (Abs.cc g9 (Abs.cc g12 (Abs.cc g13 (Abs.cc g14 (hact5)))))))) ?_ | with_reducible refine Abs.fork (fun hb => ?_) (fun hb => ?_))
          refine record_ev hR k5.wf (by omega) fun rv s6 k6 hrv hrk => ⟨_, _, rfl, ?_⟩
          have hl6 := hl5.old k6
          have hro6 := hro5.mv k5.wf (Mv.ofKeep k6)
          have hact6 := k6.old _ _ hact5
          have h15 := and15_lt nn
          have hrl : (recL d (and15 nn)).length ≤ 64000 := by
            rw [recL_len]
            exact Nat.le_trans (Nat.mul_le_mul (by omega : d.length ≤ 4000) (by omega : and15 nn + 1 ≤ 16)) (by decide)
          (try first | refine EvO.nx ?_ | refine EvA.nx ?_); repeat' (first | refine Abs.goH (Abs.cc g1 (Abs.cc g2 (Abs.cc g7 (Abs.cc g9 (Abs.cc g12 (Abs.cc g13 (Abs.cc g14 (hact6)))))))) ?_ | with_reducible refine Abs.fork (fun hb => ?_) (fun hb => ?_))
          refine rappend_ev hn.wl hwf hT hl6 hw2 preW_ok (by omega) (by omega) (by omega) ⟨by omega, b7⟩ hrv (by omega) (by omega) (fun hlt s7 O7 V7 last7 by7 R7 j7 m7 mw7 hl7 hw7 hre7 hla7 hm7 hsy7 _ => ⟨_, _, rfl, ?_⟩) fun hle s7 O7 V7 last7 by7 R7 j7 m7 mw7 hl7 hw7 hre7 hla7 hm7 hsy7 _ => ⟨_, _, rfl, ?_⟩
          · have hro7 := hro6.mv k6.wf mw7
            have hact7 := mw7.old _ _ hnab hact6
            (try first | refine EvO.nx ?_ | refine EvA.nx ?_); repeat' (first | refine Abs.goH (Abs.cc g1 (Abs.cc g2 (Abs.cc g7 (Abs.cc g9 (Abs.cc g12 (Abs.cc g13 (Abs.cc g14 (hact7)))))))) ?_ | with_reducible refine Abs.fork (fun hb => ?_) (fun hb => ?_))
            refine vstat_ev hn.wl.wn.disk hl7.dk fun s8 z1 z2 z3 k8 => ⟨_, _, rfl, ?_⟩
            have hl8 := hl7.old k8
            have hro8 := hro7.mv hl7.dk.keep.wf (Mv.ofKeep k8)
            (try first | refine EvO.nx ?_ | refine EvA.nx ?_); repeat' (first | refine Abs.goH (Abs.cc g1 (Abs.cc g2 (Abs.cc g7 (Abs.cc g9 (Abs.cc g12 (Abs.cc g13 (Abs.cc g14 (hact7)))))))) ?_ | with_reducible refine Abs.fork (fun hb => ?_) (fun hb => ?_))
            refine ⟨xs.length - (i + 1), by omega, _, i + 1, lb, safe, _, allp, rfl, ?_, ?_, ?_, ?_, ?_, ?_, ?_, by omega, rfl, ⟨O7, V7, tt, m7, last7, by7, R7, j7, rec, q, hl8, hw7, hro8, by rw [hre7, hre], by omega, by omega, by omega, by omega, by omega, b6, b7⟩⟩
            · simp (disch := first | omega | assumption) only [go_sem, g1]
            · simp (disch := first | omega | assumption) only [go_sem, g2]
            · simp (disch := first | omega | assumption) only [go_sem, g7]
            · simp (disch := first | omega | assumption) only [go_sem, g9]
            · simp (disch := first | omega | assumption) only [go_sem, g12]
            · simp (disch := first | omega | assumption) only [go_sem, g13]
            · simp (disch := first | omega | assumption) only [go_sem, g14, Int.natCast_add, Int.natCast_one]
          · have hro7 := hro6.mv k6.wf mw7
            have hact7 := mw7.old _ _ hnab hact6
            have hre7' := hre7 1 hw7.lt.le
            rw [if_pos hle2, hre] at hre7'
            generalize hrr : recL d (and15 nn) = rr at *
            (try first | refine EvO.nx ?_ | refine EvA.nx ?_); repeat' (first | refine Abs.goH (Abs.cc g1 (Abs.cc g2 (Abs.cc g7 (Abs.cc g9 (Abs.cc g12 (Abs.cc g13 (Abs.cc g14 (hact7)))))))) ?_ | with_reducible refine Abs.fork (fun hb => ?_) (fun hb => ?_))
            have hveq := act_veq (op := 0) (nn := nn) (d := d) (ints_veq hpi)
            have hcut4 : cutN [Value.int .i64 0, .int .i64 nn, .string ⟨⟨d⟩⟩, .slice pa picks.length pc] 0 4 = some [.int .i64 0, .int .i64 nn, .string ⟨⟨d⟩⟩, .slice pa picks.length pc] := rfl
            refine Abs.Ev.regionD (n := 0) (l := [.go 0, .go 3, .go 4, .go 5, .go 1, .go 2, .again 5, .go 6, .go 7, .go 8, .go 9]) (by kernel_rfl) ?_
            (try first | refine EvO.nx ?_ | refine EvA.nx ?_); repeat' (first | refine Abs.goH (Abs.cc g1 (Abs.cc g2 (Abs.cc g7 (Abs.cc g9 (Abs.cc g12 (Abs.cc g13 (Abs.cc g14 (Abs.cc hact7 (Abs.cc hveq (hcut4)))))))))) ?_ | with_reducible refine Abs.fork (fun hb => ?_) (fun hb => ?_))
            refine vstat_ev hn.wl.wn.disk hl7.dk fun s8 z1 z2 z3 k8 => ⟨_, _, rfl, ?_⟩
            have hl8 := hl7.old k8
            have hro8 := hro7.mv hl7.dk.keep.wf (Mv.ofKeep k8)
            have hact8 := k8.old _ _ hact7
            (try first | refine EvO.nx ?_ | refine EvA.nx ?_); repeat' (first | refine Abs.goH (Abs.cc g1 (Abs.cc g2 (Abs.cc g7 (Abs.cc g9 (Abs.cc g12 (Abs.cc g13 (Abs.cc g14 (Abs.cc hact8 (Abs.cc hveq (hcut4)))))))))) ?_ | with_reducible refine Abs.fork (fun hb => ?_) (fun hb => ?_))
            refine record_ev hR k8.wf (by omega) fun rv9 s9 k9 hrv9 hrk9 => ⟨_, _, rfl, ?_⟩
            rw [hrr] at hrv9
            have hl9 := hl8.old k9
            have hro9 := hro8.mv k8.wf (Mv.ofKeep k9)
            have hact9 := k9.old _ _ hact8
            obtain ⟨⟨wa, wc, rfl⟩, _⟩ := id hrv9
            (try first | refine EvO.nx ?_ | refine EvA.nx ?_); repeat' (first | refine Abs.goH (Abs.cc g1 (Abs.cc g2 (Abs.cc g7 (Abs.cc g9 (Abs.cc g12 (Abs.cc g13 (Abs.cc g14 (hact9)))))))) ?_ | with_reducible refine Abs.fork (fun hb => ?_) (fun hb => ?_))
            refine record_ev hR k9.wf (by omega) fun rv10 s10 k10 hrv10 hrk10 => ⟨_, _, rfl, ?_⟩
            rw [hrr] at hrv10
            have hl10 := hl9.old k10
            have hro10 := hro9.mv k9.wf (Mv.ofKeep k10)
            obtain ⟨⟨xa, xc2, rfl⟩, _⟩ := id hrv10
            (try first | refine EvO.nx ?_ | refine EvA.nx ?_); repeat' (first | refine Abs.goH (Abs.cc g1 (Abs.cc g2 (Abs.cc g7 (Abs.cc g9 (Abs.cc g12 (Abs.cc g13 (g14))))))) ?_ | with_reducible refine Abs.fork (fun hb => ?_) (fun hb => ?_))
            have kc := (Keep.refl k10.wf).new (.cells [.slice xa rr.length xc2] 28 0 false (0, 0))
            have hO10 : ∀ c, (O7 c ∨ c = lb) → c < s10.next := fun c hc => hc.elim (fun h => hl10.dk.lt h) fun e => e ▸ hl10.at_.lt k10.wf
            have hO9 : ∀ c, (O7 c ∨ c = lb) → c < s9.next := fun c hc => hc.elim (fun h => hl9.dk.lt h) fun e => e ▸ hl9.at_.lt k9.wf
            have hrob := hro10.mv k10.wf (Mv.ofKeep kc)
            refine RecsO.app kc.wf hrob (fun c hc => Nat.lt_succ_of_lt (hO10 c hc)) (hrv10.mono kc.old) (fun c hc => ?_) (src_cells (get_same _ _ _) rfl) (by omega) fun v11 s11 hro11 hv11 w11 n11 sb11 p11 => ?_
            · obtain ⟨q1, y, q2, q3⟩ := hrk10 c hc
              exact ⟨fun ho => by have := hO9 c ho; omega, y, kc.old _ _ q2, q3⟩
            have hlb := hl10.old kc
            have hl11 := hlb.frame2 w11 n11 (fun x y hx hy => p11 x y hy fun hr => (hrob.room x hr.blk).2 hx) fun x y hxy => sb11 x y (hlb.dk.keep.old x y hxy) (hk0 x y hxy)
            (try first | refine EvO.nx ?_ | refine EvA.nx ?_); repeat' (first | refine Abs.goH (Abs.cc g1 (Abs.cc g2 (Abs.cc g7 (Abs.cc g9 (Abs.cc g12 (Abs.cc g13 (g14))))))) ?_ | with_reducible refine Abs.fork (fun hb => ?_) (fun hb => ?_))
            refine ⟨xs.length - (i + 1), by omega, _, i + 1, lb, safe, v11, (allp ++ [rr]), rfl, ?_, ?_, ?_, ?_, ?_, ?_, ?_, by omega, rfl, ⟨O7, V7, _, m7, last7, by7, R7, j7, rec + 1, q, hl11, hw7, hro11, hre7', by omega, by rw [List.length_append, List.length_singleton]; omega, by omega, by omega, by omega, b6, b7⟩⟩
            · simp (disch := first | omega | assumption) only [go_sem, g1]
            · simp (disch := first | omega | assumption) only [go_sem, g2]
            · simp (disch := first | omega | assumption) only [go_sem, g7]
            · simp (disch := first | omega | assumption) only [go_sem, g9]
            · simp (disch := first | omega | assumption) only [go_sem, g12]
            · simp (disch := first | omega | assumption) only [go_sem, g13]
            · simp (disch := first | omega | assumption) only [go_sem, g14, Int.natCast_add, Int.natCast_one]
      by_cases o1 : op = 1
      · subst o1
        (try first | refine EvO.nx ?_ | refine EvA.nx ?_); repeat' (first | refine Abs.goH (Abs.cc g1 (Abs.cc g2 (Abs.cc g7 (Abs.cc g9 (Abs.cc g12 (Abs.cc g13 (Abs.cc g14 (Abs.cc hw' (Abs.cc hci (hc0)))))))))) ?_ | with_reducible refine Abs.fork (fun hb => ?_) (fun hb => ?_))
        have kb := (Keep.refl hwf2).new2 hwf2 (.cells [.int .i64 0, .int .i64 0, .string ⟨⟨[]⟩⟩, .slice none 0 0] 78 0 false (0, 0)) (.cells [.int .i64 1, .int .i64 nn, .string ⟨⟨d⟩⟩, .slice pa picks.length pc] 78 0 false (0, 0))
        have hact : (⟨(s2.heap.set s2.next (.cells [.int .i64 0, .int .i64 0, .string ⟨⟨[]⟩⟩, .slice none 0 0] 78 0 false (0, 0))).set s2.next (.cells [.int .i64 1, .int .i64 nn, .string ⟨⟨d⟩⟩, .slice pa picks.length pc] 78 0 false (0, 0)), s2.next + 1⟩ : St).heap.get s2.next = some (.cells [.int .i64 1, .int .i64 nn, .string ⟨⟨d⟩⟩, .slice pa picks.length pc] 78 0 false (0, 0)) := get_same _ _ _
        generalize (⟨(s2.heap.set s2.next (.cells [.int .i64 0, .int .i64 0, .string ⟨⟨[]⟩⟩, .slice none 0 0] 78 0 false (0, 0))).set s2.next (.cells [.int .i64 1, .int .i64 nn, .string ⟨⟨d⟩⟩, .slice pa picks.length pc] 78 0 false (0, 0)), s2.next + 1⟩ : St) = s4 at kb hact ⊢
        generalize hab : s2.next = ab at hact ⊢
        have hnab : ¬ (O ab ∨ ab = lb) := fun h => by have := hO2 ab h; omega
        have hl4 := hl2.old kb
        have hro4 := hro2.mv hwf2 (Mv.ofKeep kb)
        have hwf4 := kb.wf
        refine wsync_ev hn.wl hwf hT hl4 preW_ok (by omega) hw2.top fun s5 O5 mw5 hl5 => ⟨_, _, rfl, ?_⟩
        have hro5 := hro4.mv hwf4 mw5
        have hw5 := hw2.synced (by omega)
        have hsf := syn_full hle2 R
        rw [hre] at hsf
        (try first | refine EvO.nx ?_ | refine EvA.nx ?_); repeat' (first | refine Abs.goH (Abs.cc g1 (Abs.cc g2 (Abs.cc g7 (Abs.cc g9 (Abs.cc g12 (Abs.cc g13 (g14))))))) ?_ | with_reducible refine Abs.fork (fun hb => ?_) (fun hb => ?_))
        refine ⟨xs.length - (i + 1), by omega, _, i + 1, lb, allp.length, _, allp, rfl, ?_, ?_, ?_, ?_, ?_, ?_, ?_, by omega, rfl, ⟨O5, _, tt, m, last, by_, R, _, rec, q, hl5, hw5, hro5, hre, by omega, by omega, by omega, by omega, by omega, b6, b7⟩⟩
        · simp (disch := first | omega | assumption) only [go_sem, g1]
        · simp (disch := first | omega | assumption) only [go_sem, g2]
        · simp (disch := first | omega | assumption) only [go_sem, g7]
        · simp (disch := first | omega | assumption) only [go_sem, g9]
        · simp (disch := first | omega | assumption) only [go_sem, g12]
        · simp (disch := first | omega | assumption) only [go_sem, g13]
        · simp (disch := first | omega | assumption) only [go_sem, g14, Int.natCast_add, Int.natCast_one]
      by_cases o2 : op = 2
      · subst o2
        (try first | refine EvO.nx ?_ | refine EvA.nx ?_); repeat' (first | refine Abs.goH (Abs.cc g1 (Abs.cc g2 (Abs.cc g7 (Abs.cc g9 (Abs.cc g12 (Abs.cc g13 (Abs.cc g14 (Abs.cc hw' (Abs.cc hci (hc0)))))))))) ?_ | with_reducible refine Abs.fork (fun hb => ?_) (fun hb => ?_))
        have kb := (Keep.refl hwf2).new2 hwf2 (.cells [.int .i64 0, .int .i64 0, .string ⟨⟨[]⟩⟩, .slice none 0 0] 78 0 false (0, 0)) (.cells [.int .i64 2, .int .i64 nn, .string ⟨⟨d⟩⟩, .slice pa picks.length pc] 78 0 false (0, 0))
        have hact : (⟨(s2.heap.set s2.next (.cells [.int .i64 0, .int .i64 0, .string ⟨⟨[]⟩⟩, .slice none 0 0] 78 0 false (0, 0))).set s2.next (.cells [.int .i64 2, .int .i64 nn, .string ⟨⟨d⟩⟩, .slice pa picks.length pc] 78 0 false (0, 0)), s2.next + 1⟩ : St).heap.get s2.next = some (.cells [.int .i64 2, .int .i64 nn, .string ⟨⟨d⟩⟩, .slice pa picks.length pc] 78 0 false (0, 0)) := get_same _ _ _
        generalize (⟨(s2.heap.set s2.next (.cells [.int .i64 0, .int .i64 0, .string ⟨⟨[]⟩⟩, .slice none 0 0] 78 0 false (0, 0))).set s2.next (.cells [.int .i64 2, .int .i64 nn, .string ⟨⟨d⟩⟩, .slice pa picks.length pc] 78 0 false (0, 0)), s2.next + 1⟩ : St) = s4 at kb hact ⊢
        generalize hab : s2.next = ab at hact ⊢
        have hnab : ¬ (O ab ∨ ab = lb) := fun h => by have := hO2 ab h; omega
        have hl4 := hl2.old kb
        have hro4 := hro2.mv hwf2 (Mv.ofKeep kb)
        have hwf4 := kb.wf
        refine wrotate_ev hn.wl hwf hT hl4 preW_ok (by omega) (by omega) (by omega) (fun _ => by rw [hw2.top]; simp) hv2 fun s5 O5 mw5 hl5 => ⟨_, _, rfl, ?_⟩
        rw [if_neg (by decide)] at hl5
        have hro5 := hro4.mv hwf4 mw5
        have hw5 := hw2.lt.next (by omega)
        have hsf := syn_next (a := 1) (last := last) hle2 R
        have hre5 := recsR_next (n := 1) (last := last) (by omega) R
        rw [hre] at hsf hre5
        (try first | refine EvO.nx ?_ | refine EvA.nx ?_); repeat' (first | refine Abs.goH (Abs.cc g1 (Abs.cc g2 (Abs.cc g7 (Abs.cc g9 (Abs.cc g12 (Abs.cc g13 (g14))))))) ?_ | with_reducible refine Abs.fork (fun hb => ?_) (fun hb => ?_))
        refine ⟨xs.length - (i + 1), by omega, _, i + 1, lb, allp.length, _, allp, rfl, ?_, ?_, ?_, ?_, ?_, ?_, ?_, by omega, rfl, ⟨O5, _, tt, m + 1, last + 1, 0, _, 0, rec, q, hl5, hw5, hro5, hre5, by omega, by omega, by omega, by omega, by omega, b6, b7⟩⟩
        · simp (disch := first | omega | assumption) only [go_sem, g1]
        · simp (disch := first | omega | assumption) only [go_sem, g2]
        · simp (disch := first | omega | assumption) only [go_sem, g7]
        · simp (disch := first | omega | assumption) only [go_sem, g9]
        · simp (disch := first | omega | assumption) only [go_sem, g12]
        · simp (disch := first | omega | assumption) only [go_sem, g13]
        · simp (disch := first | omega | assumption) only [go_sem, g14, Int.natCast_add, Int.natCast_one]
      by_cases o5 : op = 5
      · subst o5
        (try first | refine EvO.nx ?_ | refine EvA.nx ?_); repeat' (first | refine Abs.goH (Abs.cc g1 (Abs.cc g2 (Abs.cc g7 (Abs.cc g9 (Abs.cc g12 (Abs.cc g13 (Abs.cc g14 (Abs.cc hw' (Abs.cc hci (hc0)))))))))) ?_ | with_reducible refine Abs.fork (fun hb => ?_) (fun hb => ?_))
        have kb := (Keep.refl hwf2).new2 hwf2 (.cells [.int .i64 0, .int .i64 0, .string ⟨⟨[]⟩⟩, .slice none 0 0] 78 0 false (0, 0)) (.cells [.int .i64 5, .int .i64 nn, .string ⟨⟨d⟩⟩, .slice pa picks.length pc] 78 0 false (0, 0))
        have hact : (⟨(s2.heap.set s2.next (.cells [.int .i64 0, .int .i64 0, .string ⟨⟨[]⟩⟩, .slice none 0 0] 78 0 false (0, 0))).set s2.next (.cells [.int .i64 5, .int .i64 nn, .string ⟨⟨d⟩⟩, .slice pa picks.length pc] 78 0 false (0, 0)), s2.next + 1⟩ : St).heap.get s2.next = some (.cells [.int .i64 5, .int .i64 nn, .string ⟨⟨d⟩⟩, .slice pa picks.length pc] 78 0 false (0, 0)) := get_same _ _ _
        generalize (⟨(s2.heap.set s2.next (.cells [.int .i64 0, .int .i64 0, .string ⟨⟨[]⟩⟩, .slice none 0 0] 78 0 false (0, 0))).set s2.next (.cells [.int .i64 5, .int .i64 nn, .string ⟨⟨d⟩⟩, .slice pa picks.length pc] 78 0 false (0, 0)), s2.next + 1⟩ : St) = s4 at kb hact ⊢
        generalize hab : s2.next = ab at hact ⊢
        have hnab : ¬ (O ab ∨ ab = lb) := fun h => by have := hO2 ab h; omega
        have hl4 := hl2.old kb
        have hro4 := hro2.mv hwf2 (Mv.ofKeep kb)
        have hwf4 := kb.wf
        refine vquota_ev hn.wl.wn.disk hwf hl4.dk nn fun s5 O5 mv5 dk5 => ⟨_, _, rfl, ?_⟩
        have hl5 := hl4.mv mv5 dk5
        have hro5 := hro4.mv hwf4 (Mw.of mv5)
        (try first | refine EvO.nx ?_ | refine EvA.nx ?_); repeat' (first | refine Abs.goH (Abs.cc g1 (Abs.cc g2 (Abs.cc g7 (Abs.cc g9 (Abs.cc g12 (Abs.cc g13 (g14))))))) ?_ | with_reducible refine Abs.fork (fun hb => ?_) (fun hb => ?_))
        refine ⟨xs.length - (i + 1), by omega, _, i + 1, lb, safe, _, allp, rfl, ?_, ?_, ?_, ?_, ?_, ?_, ?_, by omega, rfl, ⟨O5, V, tt, m, last, by_, R, j, rec, _, hl5, hw2, hro5, hre, by omega, by omega, by omega, by omega, by omega, by omega, by omega⟩⟩
        · simp (disch := first | omega | assumption) only [go_sem, g1]
        · simp (disch := first | omega | assumption) only [go_sem, g2]
        · simp (disch := first | omega | assumption) only [go_sem, g7]
        · simp (disch := first | omega | assumption) only [go_sem, g9]
        · simp (disch := first | omega | assumption) only [go_sem, g12]
        · simp (disch := first | omega | assumption) only [go_sem, g13]
        · simp (disch := first | omega | assumption) only [go_sem, g14, Int.natCast_add, Int.natCast_one]
      by_cases o4 : op = 4
      · subst o4
        (try first | refine EvO.nx ?_ | refine EvA.nx ?_); repeat' (first | refine Abs.goH (Abs.cc g1 (Abs.cc g2 (Abs.cc g7 (Abs.cc g9 (Abs.cc g12 (Abs.cc g13 (Abs.cc g14 (Abs.cc hw' (Abs.cc hci (hc0)))))))))) ?_ | with_reducible refine Abs.fork (fun hb => ?_) (fun hb => ?_))
        have kb := (Keep.refl hwf2).new2 hwf2 (.cells [.int .i64 0, .int .i64 0, .string ⟨⟨[]⟩⟩, .slice none 0 0] 78 0 false (0, 0)) (.cells [.int .i64 4, .int .i64 nn, .string ⟨⟨d⟩⟩, .slice pa picks.length pc] 78 0 false (0, 0))
        have hact : (⟨(s2.heap.set s2.next (.cells [.int .i64 0, .int .i64 0, .string ⟨⟨[]⟩⟩, .slice none 0 0] 78 0 false (0, 0))).set s2.next (.cells [.int .i64 4, .int .i64 nn, .string ⟨⟨d⟩⟩, .slice pa picks.length pc] 78 0 false (0, 0)), s2.next + 1⟩ : St).heap.get s2.next = some (.cells [.int .i64 4, .int .i64 nn, .string ⟨⟨d⟩⟩, .slice pa picks.length pc] 78 0 false (0, 0)) := get_same _ _ _
        generalize (⟨(s2.heap.set s2.next (.cells [.int .i64 0, .int .i64 0, .string ⟨⟨[]⟩⟩, .slice none 0 0] 78 0 false (0, 0))).set s2.next (.cells [.int .i64 4, .int .i64 nn, .string ⟨⟨d⟩⟩, .slice pa picks.length pc] 78 0 false (0, 0)), s2.next + 1⟩ : St) = s4 at kb hact ⊢
        generalize hab : s2.next = ab at hact ⊢
        have hnab : ¬ (O ab ∨ ab = lb) := fun h => by have := hO2 ab h; omega
        have hl4 := hl2.old kb
        have hro4 := hro2.mv hwf2 (Mv.ofKeep kb)
        have hwf4 := kb.wf
        refine vcrash_ev hn.wl.wn.disk hwf hl4.dk (hpi.mono fun c x _ hx => hl4.dk.keep.old c x hx) (fun c hc ho => by have := hl4.dk.ge ho; have := ints_lt hwf hpi hc; omega) fun s5 O5 V5 t5 mv5 dk5 hcut => ⟨_, _, rfl, ?_⟩
        obtain ⟨j5, ja5, jb5, lt5⟩ := hw2.crash hcut
        have hal5 : RecsO s5 O5 (.slice aa allp.length ac) allp := (hro4.less fun c hc => .inl hc).mv hwf4 mv5
        have hact5 := mv5.old _ _ (fun h => hnab (.inl h)) hact
        have hnab5 : ¬ O5 ab := fun h => (mv5.new ab h).elim (fun h => hnab (.inl h)) fun h => by have := hwf4 _ _ hact; omega
        have hpre : recsR 1 last (updR R last ((R last).take j5)) <+: allp := by
          rw [← hre, recsR_top hle2, recsR_top hle2, flat_upd _ _ _ _ _ (by omega), updR_at]
          exact (List.prefix_append_right_inj _).2 (List.take_prefix _ _)
        have hsf : syn 1 last (updR R last ((R last).take j5)) j5 = (recsR 1 last (updR R last ((R last).take j5))).length := by
          have := syn_full hle2 (updR R last ((R last).take j5))
          rw [updR_at, List.length_take, Nat.min_eq_left jb5] at this
          exact this
        have hsj : syn 1 last R j ≤ syn 1 last (updR R last ((R last).take j5)) j5 := by
          rw [syn_app]
          unfold syn
          omega
        have hpl := hpre.length_le
        generalize hrs : recsR 1 last (updR R last ((R last).take j5)) = rs at *
        (try first | refine EvO.nx ?_ | refine EvA.nx ?_); repeat' (first | refine Abs.goH (Abs.cc g1 (Abs.cc g2 (Abs.cc g7 (Abs.cc g9 (Abs.cc g12 (Abs.cc g13 (Abs.cc g14 (hact5)))))))) ?_ | with_reducible refine Abs.fork (fun hb => ?_) (fun hb => ?_))
        refine ropen_ev hn hwf hT dk5 preW_ok ⟨by omega, by omega⟩ (a := 1) (.inr lt5) (by omega) (by omega) fun lb6 rv s6 O6 V6 t6 m6 last6 by6 R6 j6 mv6 hlb6 hl6 hw6 hre6 hla6 ht6 hm6 hsy6 _ hro6 => ⟨_, _, rfl, ?_⟩
        have hal6 : RecsO s6 O6 (.slice aa allp.length ac) allp := hal5.mv dk5.keep.wf mv6
        have hact6 := mv6.old _ _ hnab5 hact5
        rw [hrs] at hre6 hro6
        obtain ⟨_, ra6, rc6, rfl⟩ := hro6.ex.choose_spec.1.src
        (try first | refine EvO.nx ?_ | refine EvA.nx ?_); repeat' (first | refine Abs.goH (Abs.cc g1 (Abs.cc g2 (Abs.cc g7 (Abs.cc g9 (Abs.cc g12 (Abs.cc g13 (Abs.cc g14 (hact6)))))))) ?_ | with_reducible refine Abs.fork (fun hb => ?_) (fun hb => ?_))
        refine wsame_ev hS hro6.texts hal6.texts hpre (by omega) ⟨_, _, rfl, ?_⟩
        (try first | refine EvO.nx ?_ | refine EvA.nx ?_); repeat' (first | refine Abs.goH (Abs.cc g1 (Abs.cc g2 (Abs.cc g7 (Abs.cc g9 (Abs.cc g12 (Abs.cc g13 (Abs.cc g14 (hact6)))))))) ?_ | with_reducible refine Abs.fork (fun hb => ?_) (fun hb => ?_))
        refine ⟨xs.length - (i + 1), by omega, _, i + 1, lb6, rs.length, _, rs, rfl, ?_, ?_, ?_, ?_, ?_, ?_, ?_, by omega, rfl, ⟨O6, V6, t6, m6, last6, by6, R6, j6, 0, q, hl6, hw6, hro6, hre6, by omega, by omega, by omega, by omega, by omega, b6, b7⟩⟩
        · simp (disch := first | omega | assumption) only [go_sem, g1]
        · simp (disch := first | omega | assumption) only [go_sem, g2]
        · simp (disch := first | omega | assumption) only [go_sem, g7]
        · simp (disch := first | omega | assumption) only [go_sem, g9]
        · simp (disch := first | omega | assumption) only [go_sem, g12]
        · simp (disch := first | omega | assumption) only [go_sem, g13]
        · simp (disch := first | omega | assumption) only [go_sem, g14, Int.natCast_add, Int.natCast_one]
      (try first | refine EvO.nx ?_ | refine EvA.nx ?_); repeat' (first | refine Abs.goH (Abs.cc g1 (Abs.cc g2 (Abs.cc g7 (Abs.cc g9 (Abs.cc g12 (Abs.cc g13 (Abs.cc g14 (Abs.cc hw' (Abs.cc hci (hc0)))))))))) ?_ | with_reducible refine Abs.fork (fun hb => ?_) (fun hb => ?_))
      have kb := (Keep.refl hwf2).new2 hwf2 (.cells [.int .i64 0, .int .i64 0, .string ⟨⟨[]⟩⟩, .slice none 0 0] 78 0 false (0, 0)) (.cells [.int .i64 op, .int .i64 nn, .string ⟨⟨d⟩⟩, .slice pa picks.length pc] 78 0 false (0, 0))
      have hact : (⟨(s2.heap.set s2.next (.cells [.int .i64 0, .int .i64 0, .string ⟨⟨[]⟩⟩, .slice none 0 0] 78 0 false (0, 0))).set s2.next (.cells [.int .i64 op, .int .i64 nn, .string ⟨⟨d⟩⟩, .slice pa picks.length pc] 78 0 false (0, 0)), s2.next + 1⟩ : St).heap.get s2.next = some (.cells [.int .i64 op, .int .i64 nn, .string ⟨⟨d⟩⟩, .slice pa picks.length pc] 78 0 false (0, 0)) := get_same _ _ _
      generalize (⟨(s2.heap.set s2.next (.cells [.int .i64 0, .int .i64 0, .string ⟨⟨[]⟩⟩, .slice none 0 0] 78 0 false (0, 0))).set s2.next (.cells [.int .i64 op, .int .i64 nn, .string ⟨⟨d⟩⟩, .slice pa picks.length pc] 78 0 false (0, 0)), s2.next + 1⟩ : St) = s4 at kb hact ⊢
      generalize hab : s2.next = ab at hact ⊢
      have hnab : ¬ (O ab ∨ ab = lb) := fun h => by have := hO2 ab h; omega
      have hl4 := hl2.old kb
      have hro4 := hro2.mv hwf2 (Mv.ofKeep kb)
      have hwf4 := kb.wf
      (try first | refine EvO.nx ?_ | refine EvA.nx ?_); repeat' (first | refine Abs.goH (Abs.cc g1 (Abs.cc g2 (Abs.cc g7 (Abs.cc g9 (Abs.cc g12 (Abs.cc g13 (Abs.cc g14 (hact)))))))) ?_ | with_reducible refine Abs.fork (fun hb => ?_) (fun hb => ?_))
      refine ropen_ev hn hwf hT hl4.dk preW_ok ⟨by omega, by omega⟩ (a := 1) (.inr hw2.lt) (by omega) (by omega) fun lb6 rv s6 O6 V6 t6 m6 last6 by6 R6 j6 mv6 hlb6 hl6 hw6 hre6 hla6 ht6 hm6 hsy6 _ hro6 => ⟨_, _, rfl, ?_⟩
      have hal6 : RecsO s6 O6 (.slice aa allp.length ac) allp := (hro4.less fun c hc => .inl hc).mv hwf4 mv6
      have hact6 := mv6.old _ _ (fun h => hnab (.inl h)) hact
      rw [hre] at hre6 hro6
      obtain ⟨_, ra6, rc6, rfl⟩ := hro6.ex.choose_spec.1.src
      have hsl := syn_le hle2 hw2.lt.jle
      rw [hre] at hsl
      (try first | refine EvO.nx ?_ | refine EvA.nx ?_); repeat' (first | refine Abs.goH (Abs.cc g1 (Abs.cc g2 (Abs.cc g7 (Abs.cc g9 (Abs.cc g12 (Abs.cc g13 (Abs.cc g14 (hact6)))))))) ?_ | with_reducible refine Abs.fork (fun hb => ?_) (fun hb => ?_))
      refine wsame_ev hS hro6.texts hal6.texts (List.prefix_refl _) (by omega) ⟨_, _, rfl, ?_⟩
      (try first | refine EvO.nx ?_ | refine EvA.nx ?_); repeat' (first | refine Abs.goH (Abs.cc g1 (Abs.cc g2 (Abs.cc g7 (Abs.cc g9 (Abs.cc g12 (Abs.cc g13 (Abs.cc g14 (hact6)))))))) ?_ | with_reducible refine Abs.fork (fun hb => ?_) (fun hb => ?_))
      refine ⟨xs.length - (i + 1), by omega, _, i + 1, lb6, safe, _, allp, rfl, ?_, ?_, ?_, ?_, ?_, ?_, ?_, by omega, rfl, ⟨O6, V6, t6, m6, last6, by6, R6, j6, 0, q, hl6, hw6, hro6, hre6, by omega, by omega, by omega, by omega, by omega, b6, b7⟩⟩
      · simp (disch := first | omega | assumption) only [go_sem, g1]
      · simp (disch := first | omega | assumption) only [go_sem, g2]
      · simp (disch := first | omega | assumption) only [go_sem, g7]
      · simp (disch := first | omega | assumption) only [go_sem, g9]
      · simp (disch := first | omega | assumption) only [go_sem, g12]
      · simp (disch := first | omega | assumption) only [go_sem, g13]
      · simp (disch := first | omega | assumption) only [go_sem, g14, Int.natCast_add, Int.natCast_one]
    · obtain rfl : i = xs.length := by omega
      (try first | refine EvO.nx ?_ | refine EvA.nx ?_); repeat' (first | refine Abs.goH (Abs.cc g1 (Abs.cc g2 (Abs.cc g7 (Abs.cc g9 (Abs.cc g12 (Abs.cc g13 (g14))))))) ?_ | with_reducible refine Abs.fork (fun hb => ?_) (fun hb => ?_))
      exact ⟨_, rfl⟩
  · (try first | refine EvO.nx ?_ | refine EvA.nx ?_); repeat' (first | refine Abs.go ?_ | with_reducible refine Abs.fork (fun hb => ?_) (fun hb => ?_))
    all_goals exact ⟨_, rfl⟩
end
end Go.Proofs.YtbakhdgiimjnkaaGreatDoor
