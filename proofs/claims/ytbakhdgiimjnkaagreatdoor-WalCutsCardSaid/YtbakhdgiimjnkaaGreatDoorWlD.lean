/-
  The evaluator and what is proved of it (several texts in one).
-/
import Derived.Test.YtbakhdgiimjnkaaGreatDoorWlC
import Derived.Test.YtbakhdgiimjnkaaGreatDoorGoV
import Derived.Test.YtbakhdgiimjnkaaGreatDoorEvSet
set_option linter.unusedVariables false
set_option linter.unusedSimpArgs false
/-
  wal: Cut, at the evaluator.
-/
namespace Go.Proofs.YtbakhdgiimjnkaaGreatDoor
open Abs
set_option maxHeartbeats 16000000
set_option maxRecDepth 20000
set_option linter.unusedSimpArgs false
attribute [local irreducible] Abs.Ev Abs.EvF Abs.EvO Abs.EvA Abs.Seq Abs.Blk Abs.Body Abs.Scp Abs.EvG Abs.EvAg Abs.Nx
attribute [local go_sem] Tryz.underlying3 Ty.sz3 Ty.by3 Ty.ag3 Ty.ze3 Tryz.underlying4 Ty.sz4 Ty.by4 Ty.ag4 Ty.ze4 Tryz.underlying5 Ty.sz5 Ty.by5 Ty.ag5 Ty.ze5 Tryz.underlying9 Ty.sz9 Ty.by9 Ty.ag9 Ty.ze9 Tryz.underlying28 Ty.sz28 Ty.by28 Ty.ag28 Ty.ze28 Tryz.underlying45 Ty.sz45 Ty.by45 Ty.ag45 Ty.ze45 Tryz.underlying59 Ty.sz59 Ty.by59 Ty.ag59 Ty.ze59 Tryz.underlying96 Ty.sz96 Ty.by96 Ty.ag96 Ty.ze96 Tryz.underlying117 Ty.sz117 Ty.by117 Ty.ag117 Ty.ze117
section
variable {Sm : Summ} {Q : Ans → Prop}
theorem Gone.stepR {V V1 : Vw} {p : Nm} {i j : Nat} (h : Gone V p i j V1) (hj : j < 1000000) (hi : i ≤ j) : Gone V p i (j + 1) (V1.set (segN p j) none) := by
  refine ⟨fun k h1 h2 => ?_, fun nm h1 => ?_⟩
  · by_cases e : k = j
    · subst e; exact Vw.at _ _ _
    · rw [Vw.off _ _ (seg_ne_seg (by omega) hj e)]
      exact h.1 k h1 (by omega)
  · rw [Vw.off _ _ (h1 j hi (by omega))]
    exact h.2 nm fun k a b => h1 k a (by omega)
attribute [local go_sem] List.set_cons_zero List.set_cons_succ
set_option maxRecDepth 20000 in
theorem wcut_ev (hn : NoWL Sm) {s0 s : St} (h0 : s0.wf) (hT : P10At s0) {O : Nat → Prop} {lb b : Nat} {p : Nm} {most first last by_ rec : Nat} {q : Int} {V : Vw} {t m : Nat} (hl : Lg s0 s O lb b p most first last by_ rec q V t m 0) (hp : PreOk p) (hla : last ≤ 990) (hfl : first ≤ last) (hs : ∀ k, first ≤ k → k ≤ last → V (segN p k) ≠ none) (n : Int)
    (h1 : (last : Int) < n → Q (.val (.int .i64 1) s))
    (h2 : n ≤ (last : Int) → ∀ s' O' V' t' m', Mw lb O O' s s' → Lg s0 s' O' lb b p most (max first n.toNat) last by_ rec q V' t' m' 0 → Gone V p first (max first n.toNat) V' → t' ≤ t ∧ m' ≤ m → Q (.val (.int .i64 0) s')) :
    Ev Tryz.prog Sm (.inv (.fn (.func 34) #[]) [.pointer (some ⟨lb, 0, none⟩), .int .i64 n] s) Q := by
  refine Ev.func hn.cut Tryz.func34 rfl (m := 43) rfl ?_
  simp only [Array.toList_empty, List.append_nil, ofList_cons, ofList_nil]
  have hb := hl.at_
  unfold LogAt at hb
  have hpl := hp.len
  have hwf := hl.dk.keep.wf
  by_cases hnl : (last : Int) < n
  · (try first | refine EvO.nx ?_ | refine EvA.nx ?_); repeat' (first | refine Abs.goH hb ?_ | with_reducible refine Abs.fork (fun hb => ?_) (fun hb => ?_))
    exact h1 hnl
  · have h2 := h2 (by omega)
    obtain ⟨N, hN⟩ : ∃ N, N = max first n.toNat := ⟨_, rfl⟩
    rw [← hN] at h2
    (try first | refine EvO.nx ?_ | refine EvA.nx ?_); repeat' (first | refine Abs.goH hb ?_ | with_reducible refine Abs.fork (fun hb => ?_) (fun hb => ?_))
    refine Ev.loop (fun k a' s' => ∃ T, ∃ f : Nat, ∃ ch O' V' t' m', a' = ⟨T, 43, []⟩ ∧ T.get 0 = some (.pointer (some ⟨lb, 0, none⟩)) ∧ T.get 1 = some (.int .i64 n) ∧ T.get 5 = some (.bool ch) ∧ first ≤ f ∧ f ≤ N ∧ k = N - f ∧ (ch = false → f = first) ∧
        Mw lb O O' s s' ∧ Lg s0 s' O' lb b p most f last by_ rec q V' t' m' (f - first) ∧ Gone V p first f V' ∧ t' ≤ t ∧ m' ≤ m) (k := N - first)
      ⟨_, first, false, O, V, t, m, rfl, ?g0, ?g1, ?g5, Nat.le_refl _, by omega, rfl, fun _ => rfl, Mw.of (Mv.refl hwf), by rw [Nat.sub_self]; exact hl, Gone.refl _ _ _, Nat.le_refl _, Nat.le_refl _⟩ ?_
    case g0 => simp (disch := first | omega | assumption) only [go_sem, ]
    case g1 => simp (disch := first | omega | assumption) only [go_sem, ]
    case g5 => simp (disch := first | omega | assumption) only [go_sem, ]
    rintro k a' s2 ⟨T, f, ch, O2, V2, t2, m2, rfl, g0, g1, g5, b1, b2, rfl, hch, mw2, hl2, hg2, ht2, hm2⟩
    have hb2 := hl2.at_
    unfold LogAt at hb2
    by_cases hf : f < N
    · have hfn : (f : Int) < n := by omega
      have hx2 : ∃ x, V2 (segN p f) = some x := by
        rw [hg2.2 _ fun k h1 h2 => seg_ne_seg (by omega) (by omega) (by omega)]
        cases e : V (segN p f) with
        | none => exact absurd e (hs f b1 (by omega))
        | some x => exact ⟨x, rfl⟩
      obtain ⟨x, hx2⟩ := hx2
      (try first | refine EvO.nx ?_ | refine EvA.nx ?_); repeat' (first | refine Abs.goH (Abs.cc g0 (Abs.cc g1 (Abs.cc g5 (hb2)))) ?_ | with_reducible refine Abs.fork (fun hb => ?_) (fun hb => ?_))
      refine Abs.Ev.regionD (n := 0) (l := [.go 0, .go 1, .go 2, .go 3, .go 4, .go 5, .go 6, .go 7, .go 8, .go 9, .again 3, .go 10, .go 11]) (by kernel_rfl) ?_
      (try first | refine EvO.nx ?_ | refine EvA.nx ?_); repeat' (first | refine Abs.goH (Abs.cc g0 (Abs.cc g1 (Abs.cc g5 (hb2)))) ?_ | with_reducible refine Abs.fork (fun hb => ?_) (fun hb => ?_))
      refine wname_ev hn.wn hl2.dk.keep.wf (hT.of hl2.dk.keep) hl2.at_ (by omega) (by omega) fun s3 k3 => ⟨_, _, rfl, ?_⟩
      have hl3 := hl2.old k3
      have hb3 := hl3.at_
      unfold LogAt at hb3
      (try first | refine EvO.nx ?_ | refine EvA.nx ?_); repeat' (first | refine Abs.goH (Abs.cc g0 (Abs.cc g1 (Abs.cc g5 (hb3)))) ?_ | with_reducible refine Abs.fork (fun hb => ?_) (fun hb => ?_))
      refine vremove_ev hn.wn.disk h0 hl3.dk (by omega) (seg_ne _ _) hx2 fun s4 O4 t4 m4 et em mv4 dk4 => ⟨_, _, rfl, ?_⟩
      have hl4 := hl3.mv mv4 dk4
      have hb4 := hl4.at_
      unfold LogAt at hb4
      rw [show f - first + 1 = f + 1 - first by omega] at hl4
      (try first | refine EvO.nx ?_ | refine EvA.nx ?_); repeat' (first | refine Abs.goH (Abs.cc g0 (Abs.cc g1 (Abs.cc g5 (hb4)))) ?_ | with_reducible refine Abs.fork (fun hb => ?_) (fun hb => ?_))
      refine Lg.fin h0 (f + 1) last by_ rec hl4 (fun hl5 mw5 => ⟨N - (f + 1), by omega, _, f + 1, true, O4, _, t4, m4, rfl, ?_, ?_, ?_, by omega, by omega, rfl, (fun e => by cases e), ((mw2.to (Mw.of (Mv.ofKeep k3)) hwf).to (Mw.of mv4) hwf).to mw5 hwf, hl5, hg2.stepR (by omega) b1, by omega, by omega⟩) ⟨rfl, fun c hc => by simp only [get_other _ _ _ _ hc]⟩ ?_
      · simp (disch := first | omega | assumption) only [go_sem, g0]
      · simp (disch := first | omega | assumption) only [go_sem, g1]
      · simp (disch := first | omega | assumption) only [go_sem, ]
      · unfold LogAt
        rw [get_same]
        simp only [Int.natCast_add, Int.natCast_one]
    · obtain rfl : f = N := by omega
      have hfn : ¬ ((f : Int) < n) := by omega
      (try first | refine EvO.nx ?_ | refine EvA.nx ?_); repeat' (first | refine Abs.goH (Abs.cc g0 (Abs.cc g1 (Abs.cc g5 (hb2)))) ?_ | with_reducible refine Abs.fork (fun hb => ?_) (fun hb => ?_))
      refine wsettled_ev hn h0 hl2 (fun e => by have := hch e; omega) fun s3 O3 mv3 hl3 => ⟨_, _, rfl, ?_⟩
      (try first | refine EvO.nx ?_ | refine EvA.nx ?_); repeat' (first | refine Abs.goH (Abs.cc g0 (Abs.cc g1 (g5))) ?_ | with_reducible refine Abs.fork (fun hb => ?_) (fun hb => ?_))
      exact h2 s3 O3 V2 t2 m2 (mw2.to (Mw.of mv3) hwf) hl3 hg2 ⟨ht2, hm2⟩
end
end Go.Proofs.YtbakhdgiimjnkaaGreatDoor

/-
  The law WalCuts at the evaluator: it says true.
-/
namespace Go.Proofs.YtbakhdgiimjnkaaGreatDoor
open Abs
set_option maxHeartbeats 16000000
set_option maxRecDepth 20000
set_option linter.unusedSimpArgs false
attribute [local irreducible] Abs.Ev Abs.EvF Abs.EvO Abs.EvA Abs.Seq Abs.Blk Abs.Body Abs.Scp Abs.EvG Abs.EvAg Abs.Nx
attribute [local go_sem] Tryz.underlying3 Ty.sz3 Ty.by3 Ty.ag3 Ty.ze3 Tryz.underlying4 Ty.sz4 Ty.by4 Ty.ag4 Ty.ze4 Tryz.underlying5 Ty.sz5 Ty.by5 Ty.ag5 Ty.ze5 Tryz.underlying9 Ty.sz9 Ty.by9 Ty.ag9 Ty.ze9 Tryz.underlying28 Ty.sz28 Ty.by28 Ty.ag28 Ty.ze28 Tryz.underlying45 Ty.sz45 Ty.by45 Ty.ag45 Ty.ze45 Tryz.underlying59 Ty.sz59 Ty.by59 Ty.ag59 Ty.ze59 Tryz.underlying96 Ty.sz96 Ty.by96 Ty.ag96 Ty.ze96 Tryz.underlying117 Ty.sz117 Ty.by117 Ty.ag117 Ty.ze117
section
variable {Sm : Summ} {Q : Ans → Prop}
/-- numbers that the law has put together apart from a disk -/
structure Nts (s0 s : St) (O : Nat → Prop) (v : Value) (ns : List Nat) : Prop where
  vec : Vec s 3 1 v ns.length (natsC ns)
  room : ∀ c, inBlk v c → inRoom v c ∧ ¬ O c ∧ s0.next ≤ c
theorem Nts.nil (s0 s : St) (O : Nat → Prop) : Nts s0 s O (.slice none 0 0) [] := ⟨.nil, fun c hc => by obtain ⟨_, _, _, e⟩ := hc; cases e⟩
theorem Nts.mv {s0 s s' : St} {O O' : Nat → Prop} {v : Value} {ns : List Nat} (h : Nts s0 s O v ns) (hwf : s.wf) (hn : ns.length < open_) (mv : Mv O O' s s') : Nts s0 s' O' v ns :=
  ⟨h.vec.mono fun b x hb hx => mv.old b x (h.room b hb).2.1 hx, fun c hc => ⟨(h.room c hc).1, by
    obtain ⟨l, hl⟩ := h.vec.kind (h.room c hc).1 hn
    exact mv.off hwf hl (h.room c hc).2.1, (h.room c hc).2.2⟩⟩
theorem Nts.app1 {s0 st : St} {O : Nat → Prop} {v : Value} {ns : List Nat} {n : Nat} {K : Value → St → Prop} (hwf : st.wf) (hn0 : s0.next ≤ st.next) (h : Nts s0 st O v ns) (hO : ∀ c, O c → c < st.next) {y : Value} (hy : srcCells st.heap 1 y = .ok (1, [.int .i64 (n : Int)])) (hn : ns.length ≤ 1000000)
    (k : ∀ v' st', Nts s0 st' O v' (ns ++ [n]) → (∃ a c, v' = .slice a (ns.length + 1) c) → st'.wf → st.next ≤ st'.next → (∀ b z, st.heap.get b = some z → ¬ inRoom v b → st'.heap.get b = some z) → K v' st') :
    EvO (fun _ k => aAppend Tryz.prog st (45 :: [45]) v y fun v s => k v [] s) K := by
  refine EvO.appendV (m := 1) (nw := [.int .i64 (n : Int)]) hwf Tryz.underlying45 Ty.sz3 Ty.by3 Ty.ze3 rfl (by decide) h.vec (by unfold open_; omega) ((appSrc_slice Tryz.underlying45).trans hy) rfl rfl (by decide) (by omega) (by omega) fun v' st' k1 k2 k3 k4 k5 k6 => ?_
  obtain ⟨b, o, rfl, hb⟩ := k2
  refine k _ st' ⟨by rw [List.length_append]; unfold natsC at k1 ⊢; rw [List.map_append]; exact k1, fun c hc => ?_⟩ ⟨_, _, rfl⟩ k3 k4 k6
  obtain ⟨o', n', c', e⟩ := hc
  cases e
  rcases hb with rfl | hb
  · exact ⟨⟨_, _, rfl⟩, fun ho => by have := hO _ ho; omega, hn0⟩
  · exact ⟨⟨_, _, rfl⟩, (h.room _ hb.blk).2⟩
/-- the records that stay when the segments below a number are cut away -/
def wantN (ps : List (Rec × Nat)) (n : Nat) : List Rec := (ps.filter fun p => decide (n ≤ p.2)).map (·.1)
theorem wantN_snoc (ps : List (Rec × Nat)) (r : Rec) (k n : Nat) : wantN (ps ++ [(r, k)]) n = wantN ps n ++ if n ≤ k then [r] else [] := by
  unfold wantN
  rw [List.filter_append, List.map_append]
  by_cases h : n ≤ k
  · rw [if_pos h, List.filter_cons_of_pos (by simpa using h)]; rfl
  · rw [if_neg h, List.filter_cons_of_neg (by simpa using h)]; rfl
theorem wantN_none {ps : List (Rec × Nat)} {n : Nat} (h : ∀ p ∈ ps, p.2 < n) : wantN ps n = [] := by
  unfold wantN
  rw [List.filter_eq_nil_iff.2 fun p hp => by have := h p hp; simp; omega]
  rfl
theorem Lt.cut {V V1 : Vw} {p : Nm} {last : Nat} {R : Nat → List Rec} {j N : Nat} (h : Lt V p 1 last R j) (hg : Gone V p 1 N V1) (h1 : 1 ≤ N) (h2 : N ≤ last) (h6 : last < 1000000) : Lt V1 p N last R j := by
  have off : ∀ k, N ≤ k → k < 1000000 → V1 (segN p k) = V (segN p k) := fun k hk h6 => hg.2 _ fun i a b => seg_ne_seg h6 (by omega) (by omega)
  refine ⟨h1, h2, h.jle, fun k k0 k6 => ?_, fun k a b => by rw [off k a (by omega)]; exact h.all k (by omega) b⟩
  by_cases hk : N ≤ k
  · rw [off k hk k6, h.segs k k0 k6]
    omega
  · rw [hg.1 k (by omega) (by omega)]
    exact ⟨fun e => absurd rfl e, fun e => by omega⟩
set_option maxRecDepth 20000 in
theorem walCuts_ev (hn : NoWO Sm) (hF : Sm 11 = none) (hS : Sm 42 = none) {g : List Value → St → Rs (Value × St)} (hA : Sm 31 = some g) {s : St} (hg : ∀ s', Keep s s' → g [] s' = .ok (.bool true, s')) (hwf : s.wf) (hT : P10At s) {lv : Value} {ls : List Rec} (hl : Texts s lv ls) (most n : Int) :
    Ev Tryz.prog Sm (.inv (.fn (.func 11) #[]) [lv, .int .i64 most, .int .i64 n] s) fun r => ∃ s', r = .val (.bool true) s' := by
  refine Ev.func hF Tryz.func11 rfl (m := 147) rfl ?_
  simp only [Array.toList_empty, List.append_nil, ofList_cons, ofList_nil]
  obtain ⟨vs, l1, ⟨la, lc, rfl⟩, l2⟩ := hl
  (try first | refine EvO.nx ?_ | refine EvA.nx ?_); repeat' (first | refine Abs.go ?_ | with_reducible refine Abs.fork (fun hb => ?_) (fun hb => ?_))
  refine Ev.summ hA (hg s (Keep.refl hwf)) ⟨_, _, rfl, ?_⟩
  by_cases hc : ls.length ≤ 40 ∧ 64 ≤ most ∧ most ≤ 1000
  · obtain ⟨c1, c2, c3⟩ := hc
    obtain ⟨M, rfl⟩ : ∃ M : Nat, most = (M : Int) := ⟨most.toNat, by omega⟩
    (try first | refine EvO.nx ?_ | refine EvA.nx ?_); repeat' (first | refine Abs.go ?_ | with_reducible refine Abs.fork (fun hb => ?_) (fun hb => ?_))
    refine vnew_ev hn.wl.wn.disk hwf (by decide) fun s1 O1 b dk1 => ⟨_, _, rfl, ?_⟩
    (try first | refine EvO.nx ?_ | refine EvA.nx ?_); repeat' (first | refine Abs.go ?_ | with_reducible refine Abs.fork (fun hb => ?_) (fun hb => ?_))
    refine ropen_ev hn hwf hT dk1 preW_ok ⟨by omega, by omega⟩ (a := 1) (.inl ⟨rfl, rfl, rfl, rfl, fun _ _ _ => rfl⟩) (by decide) (by decide) fun lb rv s2 O2 V2 t2 m2 last2 by2 R2 j2 mv2 hlb hl2 hw2 hre2 hla2 ht2 hm2 _ _ _ => ⟨_, _, rfl, ?_⟩
    have re0 : recsR 1 last2 R2 = [] := hre2
    (try first | refine EvO.nx ?_ | refine EvA.nx ?_); repeat' (first | refine Abs.go ?_ | with_reducible refine Abs.fork (fun hb => ?_) (fun hb => ?_))
    refine Ev.loop (fun k a' s' => ∃ T, ∃ i : Nat, ∃ iv ns O V, ∃ tt m last by_ : Nat, ∃ R j, a' = ⟨T, 147, []⟩ ∧ T.get 0 = some (.slice la ls.length lc) ∧ T.get 1 = some (.int .i64 (M : Int)) ∧ T.get 2 = some (.int .i64 n) ∧ T.get 7 = some (.pointer (some ⟨b, 0, none⟩)) ∧ T.get 9 = some (.pointer (some ⟨lb, 0, none⟩)) ∧ T.get 12 = some iv ∧ T.get 13 = some (.int .i64 ((i : Nat) : Int)) ∧ i ≤ ls.length ∧ k = ls.length - i ∧
        Lg s s' O lb b preW M 1 last by_ i 1048576 V tt m 0 ∧ Lw V preW 1 last by_ R j ∧ Nts s s' (fun c => O c ∨ c = lb) iv ns ∧ ns.length = i ∧ (∀ x ∈ ns, 1 ≤ x ∧ x ≤ last) ∧ (∀ n', 1 ≤ n' → n' ≤ last → recsR n' last R = wantN ((ls.take i).zip ns) n') ∧ last ≤ 1 + i ∧ m ≤ last ∧ tt ≤ 2008 * i) (k := ls.length)
      ⟨_, 0, .slice none 0 0, [], O2, V2, t2, m2, last2, by2, R2, j2, rfl, ?g0, ?g1, ?g2, ?g7, ?g9, ?g12, ?g13, Nat.zero_le _, rfl, hl2, hw2, Nts.nil _ _ _, rfl, fun x hx => (by cases hx), fun n' h1 h2 => ?hw, by omega, by omega, by omega⟩ ?_
    case g0 => simp (disch := first | omega | assumption) only [go_sem, ]
    case g1 => simp (disch := first | omega | assumption) only [go_sem, ]
    case g2 => simp (disch := first | omega | assumption) only [go_sem, ]
    case g7 => simp (disch := first | omega | assumption) only [go_sem, ]
    case g9 => simp (disch := first | omega | assumption) only [go_sem, ]
    case g12 => simp (disch := first | omega | assumption) only [go_sem, ]
    case g13 => simp (disch := first | omega | assumption) only [go_sem, ]; try rfl
    case hw =>
      obtain rfl : last2 = 1 := by have := hw2.lt.le; omega
      obtain rfl : n' = 1 := by omega
      exact re0
    clear hl2 hw2 hre2 hla2 ht2 hm2 re0
    rintro k a' s4 ⟨T, i, iv, ns, O, V, tt, m, last, by_, R, j, rfl, g0, g1, g2, g7, g9, g12, g13, hi, rfl, hl4, hw4, hN4, hnl, hns, hwant, b2, b3, b4⟩
    have hwf4 := hl4.dk.keep.wf
    have le4 := hw4.lt.le
    have hO4 : ∀ c, (O c ∨ c = lb) → s.next ≤ c := fun c hc => hc.elim (fun h => hl4.dk.ge h) fun e => e ▸ hl4.lo
    have hOl4 : ∀ c, (O c ∨ c = lb) → c < s4.next := fun c hc => hc.elim (fun h => hl4.dk.lt h) fun e => e ▸ hl4.at_.lt hwf4
    by_cases hil : i < ls.length
    · obtain ⟨xb, xo, xc', w, e, hw, hvl, hat⟩ := list_at l1 ⟨_, _, rfl⟩ (by omega)
      cases e
      have hx := hat i (by omega)
      have hxB := l2.2 i vs[i] ls[i] (List.getElem?_eq_getElem (by omega)) (List.getElem?_eq_getElem hil)
      have hw4' := keep_obj hl4.dk.keep.old hw
      have htk : ls.take (i + 1) = ls.take i ++ [ls[i]] := (List.take_append_getElem hil).symm
      have hzl : (ls.take i).length = ns.length := by rw [List.length_take]; omega
      generalize vs[i] = x at *
      generalize ls[i] = r at *
      obtain ⟨ya, yc, rfl⟩ := hxB.1
      by_cases h500 : 2000 < r.length
      · (try first | refine EvO.nx ?_ | refine EvA.nx ?_); repeat' (first | refine Abs.goH (Abs.cc g0 (Abs.cc g1 (Abs.cc g2 (Abs.cc g7 (Abs.cc g9 (Abs.cc g12 (Abs.cc g13 (Abs.cc hw4' (hx))))))))) ?_ | with_reducible refine Abs.fork (fun hb => ?_) (fun hb => ?_))
        all_goals exact ⟨_, by rw [decide_eq_true (by omega : (2000 : Int) < (r.length : Int))]⟩
      · have b9 : last ≤ 990 := by omega
        have b8 : m < 1000 := by omega
        (try first | refine EvO.nx ?_ | refine EvA.nx ?_); repeat' (first | refine Abs.goH (Abs.cc g0 (Abs.cc g1 (Abs.cc g2 (Abs.cc g7 (Abs.cc g9 (Abs.cc g12 (Abs.cc g13 (Abs.cc hw4' (hx))))))))) ?_ | with_reducible refine Abs.fork (fun hb => ?_) (fun hb => ?_))
        refine rappend_ev hn.wl hwf hT hl4 hw4 preW_ok (by omega) b9 b8 ⟨by decide, by decide⟩ (hxB.mono hl4.dk.keep.old) (by omega) (by omega) (fun hlt => absurd hlt (by omega)) fun hle s5 O5 V5 last5 by5 R5 j5 m5 mw hl5 hw5 hre5 hla5 hm5 _ _ => ⟨_, _, rfl, ?_⟩
        have hN5 := hN4.mv hwf4 (by unfold open_; omega) mw
        have le5 := hw5.lt.le
        have hwf5 := hl5.dk.keep.wf
        (try first | refine EvO.nx ?_ | refine EvA.nx ?_); repeat' (first | refine Abs.goH (Abs.cc g0 (Abs.cc g1 (Abs.cc g2 (Abs.cc g7 (Abs.cc g9 (Abs.cc g12 (g13))))))) ?_ | with_reducible refine Abs.fork (fun hb => ?_) (fun hb => ?_))
        refine wlast_ev hn.wl hl5.at_ ⟨_, _, rfl, ?_⟩
        (try first | refine EvO.nx ?_ | refine EvA.nx ?_); repeat' (first | refine Abs.goH (Abs.cc g0 (Abs.cc g1 (Abs.cc g2 (Abs.cc g7 (Abs.cc g9 (Abs.cc g12 (g13))))))) ?_ | with_reducible refine Abs.fork (fun hb => ?_) (fun hb => ?_))
        have kb := (Keep.refl hwf5).new (.cells [.int .i64 (last5 : Int)] 3 0 false (0, 0))
        have hOl5 : ∀ c, (O5 c ∨ c = lb) → c < s5.next := fun c hc => hc.elim (fun h => hl5.dk.lt h) fun e => e ▸ hl5.at_.lt hwf5
        have hNb := hN5.mv hwf5 (by unfold open_; omega) (Mv.ofKeep kb)
        refine Nts.app1 kb.wf (Nat.le_trans hl5.dk.keep.next (Nat.le_succ _)) hNb (fun c hc => Nat.lt_succ_of_lt (hOl5 c hc)) (src_cells (get_same _ _ _) rfl) (by omega) fun v6 s6 hN6 hv6 w6 n6 p6 => ?_
        have hl6 := (hl5.old kb).frame hwf w6 n6 fun x y hx hy => p6 x y hy fun hr => by
          have h7 := (hNb.room x hr.blk).2
          rcases hx with hx | hx | hx
          · exact h7.1 (.inl hx)
          · exact h7.1 (.inr hx)
          · have := h7.2
            omega
        (try first | refine EvO.nx ?_ | refine EvA.nx ?_); repeat' (first | refine Abs.goH (Abs.cc g0 (Abs.cc g1 (Abs.cc g2 (Abs.cc g7 (Abs.cc g9 (Abs.cc g12 (g13))))))) ?_ | with_reducible refine Abs.fork (fun hb => ?_) (fun hb => ?_))
        refine ⟨ls.length - (i + 1), by omega, _, i + 1, v6, ns ++ [last5], O5, V5, tt + (8 + r.length), m5, last5, by5, R5, j5, rfl, ?_, ?_, ?_, ?_, ?_, ?_, ?_, by omega, rfl, hl6, hw5, hN6, by rw [List.length_append, List.length_singleton, hnl], fun x hx => ?_, fun n' q1 q2 => ?_, by omega, by omega, by omega⟩
        · simp (disch := first | omega | assumption) only [go_sem, g0]
        · simp (disch := first | omega | assumption) only [go_sem, g1]
        · simp (disch := first | omega | assumption) only [go_sem, g2]
        · simp (disch := first | omega | assumption) only [go_sem, g7]
        · simp (disch := first | omega | assumption) only [go_sem, g9]
        · simp (disch := first | omega | assumption) only [go_sem, ]
        · simp (disch := first | omega | assumption) only [go_sem, Int.natCast_add, Int.natCast_one]
        · rcases List.mem_append.1 hx with hx | hx
          · have := hns x hx
            omega
          · rw [List.mem_singleton] at hx
            omega
        · rw [hre5 n' q2, htk, List.zip_append hzl, show [r].zip [last5] = [(r, last5)] from rfl, wantN_snoc, if_pos q2]
          split
          · rename_i h
            rw [hwant n' q1 h]
          · rw [wantN_none fun p hp => by
              have := (hns p.2 (List.of_mem_zip hp).2).2
              omega]
    · obtain rfl : i = ls.length := by omega
      rw [List.take_length] at hwant
      (try first | refine EvO.nx ?_ | refine EvA.nx ?_); repeat' (first | refine Abs.goH (Abs.cc g0 (Abs.cc g1 (Abs.cc g2 (Abs.cc g7 (Abs.cc g9 (Abs.cc g12 (g13))))))) ?_ | with_reducible refine Abs.fork (fun hb => ?_) (fun hb => ?_))
      refine wlast_ev hn.wl hl4.at_ ⟨_, _, rfl, ?_⟩
      (try first | refine EvO.nx ?_ | refine EvA.nx ?_); repeat' (first | refine Abs.goH (Abs.cc g0 (Abs.cc g1 (Abs.cc g2 (Abs.cc g7 (Abs.cc g9 (Abs.cc g12 (g13))))))) ?_ | with_reducible refine Abs.fork (fun hb => ?_) (fun hb => ?_))
      refine wcut_ev hn.wl hwf hT hl4 preW_ok (by omega) le4 (fun k q1 q2 => (hw4.lt.segs k (by omega) (by omega)).2 ⟨q1, q2⟩) n (fun hgt => ⟨_, _, rfl, ?_⟩) (fun hle s5 O5 V5 t5 m5 mw5 hl5 hg5 hb5 => ⟨_, _, rfl, ?_⟩)
      · (try first | refine EvO.nx ?_ | refine EvA.nx ?_); repeat' (first | refine Abs.goH (Abs.cc g0 (Abs.cc g1 (Abs.cc g2 (Abs.cc g7 (Abs.cc g9 (Abs.cc g12 (g13))))))) ?_ | with_reducible refine Abs.fork (fun hb => ?_) (fun hb => ?_))
        refine wfirst_ev hn.wl hl4.at_ ⟨_, _, rfl, ?_⟩
        (try first | refine EvO.nx ?_ | refine EvA.nx ?_); repeat' (first | refine Abs.goH (Abs.cc g0 (Abs.cc g1 (Abs.cc g2 (Abs.cc g7 (Abs.cc g9 (Abs.cc g12 (g13))))))) ?_ | with_reducible refine Abs.fork (fun hb => ?_) (fun hb => ?_))
        exact ⟨_, rfl⟩
      · obtain ⟨N, hN⟩ : ∃ N, N = max 1 n.toNat := ⟨_, rfl⟩
        rw [← hN] at hl5 hg5
        have hN1 : 1 ≤ N ∧ N ≤ last := by omega
        have hN5 := hN4.mv hwf4 (by unfold open_; omega) mw5
        have ltC := hw4.lt.cut hg5 hN1.1 hN1.2 (by omega)
        have hwN := hwant N hN1.1 hN1.2
        obtain ⟨_, ia, ic, rfl⟩ := hN5.vec.src
        (try first | refine EvO.nx ?_ | refine EvA.nx ?_); repeat' (first | refine Abs.goH (Abs.cc g0 (Abs.cc g1 (Abs.cc g2 (Abs.cc g7 (Abs.cc g9 (Abs.cc g12 (g13))))))) ?_ | with_reducible refine Abs.fork (fun hb => ?_) (fun hb => ?_))
        refine Ev.loop (fun k a' s' => ∃ T, ∃ i : Nat, ∃ wv, a' = ⟨T, 147, []⟩ ∧ T.get 0 = some (.slice la ls.length lc) ∧ T.get 1 = some (.int .i64 (M : Int)) ∧ T.get 2 = some (.int .i64 n) ∧ T.get 7 = some (.pointer (some ⟨b, 0, none⟩)) ∧ T.get 9 = some (.pointer (some ⟨lb, 0, none⟩)) ∧ T.get 12 = some (.slice ia ns.length ic) ∧ T.get 15 = some (.int .i64 0) ∧ T.get 16 = some wv ∧ T.get 17 = some (.int .i64 ((i : Nat) : Int)) ∧ i ≤ ls.length ∧ k = ls.length - i ∧
            Lg s s' O5 lb b preW M N last by_ ls.length 1048576 V5 t5 m5 0 ∧ Nts s s' (fun c => O5 c ∨ c = lb) (.slice ia ns.length ic) ns ∧ Lst s s' (fun c => O5 c ∨ c = lb) wv (wantN ((ls.take i).zip (ns.take i)) N)) (k := ls.length)
          ⟨_, 0, .slice none 0 0, rfl, ?h0, ?h1, ?h2, ?h7, ?h9, ?h12, ?h15, ?h16, ?h17, Nat.zero_le _, rfl, hl5, hN5, Lst.nil _ _ _⟩ ?_
        case h0 => simp (disch := first | omega | assumption) only [go_sem, g0]
        case h1 => simp (disch := first | omega | assumption) only [go_sem, g1]
        case h2 => simp (disch := first | omega | assumption) only [go_sem, g2]
        case h7 => simp (disch := first | omega | assumption) only [go_sem, g7]
        case h9 => simp (disch := first | omega | assumption) only [go_sem, g9]
        case h12 => simp (disch := first | omega | assumption) only [go_sem, g12]
        case h15 => simp (disch := first | omega | assumption) only [go_sem, ]
        case h16 => simp (disch := first | omega | assumption) only [go_sem, ]
        case h17 => simp (disch := first | omega | assumption) only [go_sem, ]; try rfl
        clear g0 g1 g2 g7 g9 g12 g13 hl5 hN5
        rintro k a' s6 ⟨T, i, wv, rfl, g0, g1, g2, g7, g9, g12, g15, g16, g17, hi2, rfl, hl6, hN6, hL6⟩
        have hwf6 := hl6.dk.keep.wf
        have hO6 : ∀ c, (O5 c ∨ c = lb) → s.next ≤ c := fun c hc => hc.elim (fun h => hl6.dk.ge h) fun e => e ▸ hl6.lo
        have hOl6 : ∀ c, (O5 c ∨ c = lb) → c < s6.next := fun c hc => hc.elim (fun h => hl6.dk.lt h) fun e => e ▸ hl6.at_.lt hwf6
        have hwl : (wantN ((ls.take i).zip (ns.take i)) N).length ≤ 1000 := by
          unfold wantN
          rw [List.length_map]
          refine Nat.le_trans (List.length_filter_le _ _) ?_
          rw [List.length_zip, List.length_take, List.length_take]
          omega
        by_cases hil : i < ls.length
        · obtain ⟨xb, xo, xc', w, e, hw, hvl, hat⟩ := list_at l1 ⟨_, _, rfl⟩ (by omega)
          obtain ⟨nb, no, nc, u, e', hu, hul, hatu⟩ := list_at hN6.vec.src.1 ⟨_, _, rfl⟩ (by omega)
          have g0' : T.get 0 = some (.slice (some ⟨xb, xo, none⟩) ls.length xc') := by rw [g0, e]
          have g12' : T.get 12 = some (.slice (some ⟨nb, no, none⟩) ns.length nc) := by rw [g12, e']
          have hx := hat i (by omega)
          have hin : i < ns.length := by omega
          have hni : u[no + i]? = some (.int .i64 ((ns[i] : Nat) : Int)) := by
            have h1 := hatu i (by omega)
            rw [h1]
            unfold natsC
            simp only [List.getElem_map]
          have hxB := l2.2 i vs[i] ls[i] (List.getElem?_eq_getElem (by omega)) (List.getElem?_eq_getElem hil)
          have hw' := keep_obj hl6.dk.keep.old hw
          have htk : (ls.take (i + 1)).zip (ns.take (i + 1)) = (ls.take i).zip (ns.take i) ++ [(ls[i], ns[i])] := by
            rw [← List.take_append_getElem hil, ← List.take_append_getElem hin, List.zip_append (by rw [List.length_take, List.length_take]; omega)]
            rfl
          have hnsi := hns ns[i] (List.getElem_mem hin)
          generalize vs[i] = x at *
          generalize ls[i] = r at *
          generalize ns[i] = z at *
          obtain ⟨ya, yc, rfl⟩ := hxB.1
          by_cases hge : n ≤ (z : Int)
          · have hNz : N ≤ z := by omega
            (try first | refine EvO.nx ?_ | refine EvA.nx ?_); repeat' (first | refine Abs.goH (Abs.cc g0' (Abs.cc g1 (Abs.cc g2 (Abs.cc g7 (Abs.cc g9 (Abs.cc g12' (Abs.cc g15 (Abs.cc g16 (Abs.cc g17 (Abs.cc hw' (Abs.cc hx (Abs.cc hu (hni))))))))))))) ?_ | with_reducible refine Abs.fork (fun hb => ?_) (fun hb => ?_))
            have kb := (Keep.refl hwf6).new (.cells [.slice ya r.length yc] 28 0 false (0, 0))
            have hLb := hL6.mv hwf6 hO6 (by unfold open_; omega) (Mv.ofKeep kb)
            have hNb := hN6.mv hwf6 (by unfold open_; omega) (Mv.ofKeep kb)
            have hxlo : ∀ c, inBlk (.slice ya r.length yc) c → c < s.next := fun c hc => by
              obtain ⟨y, hy⟩ := bytes_lt hwf hxB hc
              exact hwf _ _ hy
            refine Lst.app1 kb.wf (Nat.le_trans hl6.dk.keep.next (Nat.le_succ _)) hLb (fun c hc => Nat.lt_succ_of_lt (hOl6 c hc)) ((hxB.mono hl6.dk.keep.old).mono kb.old) hxlo (src_cells (get_same _ _ _) rfl) (by omega) fun v7 s7 hL7 hv7 w7 n7 p7 => ?_
            have hl7 := (hl6.old kb).frame hwf w7 n7 fun x y hx hy => p7 x y hy fun hr => by
              have h7 := (hLb.room x hr.blk).2
              rcases hx with hx | hx | hx
              · exact h7.1 (.inl hx)
              · exact h7.1 (.inr hx)
              · have := h7.2
                omega
            have hvN7 : Vec s7 3 1 (.slice ia ns.length ic) ns.length (natsC ns) := hNb.vec.mono fun c y hc hy => p7 c y hy fun hr => by
              obtain ⟨l', hl'⟩ := hNb.vec.kind (hNb.room c hc).1 (by unfold open_; omega)
              obtain ⟨vs', q1, _⟩ := hLb.ex
              obtain ⟨l'', hl''⟩ := q1.kind hr (by unfold open_; omega)
              rw [hl'] at hl''
              cases hl''
            have hN7 : Nts s s7 (fun c => O5 c ∨ c = lb) (.slice ia ns.length ic) ns := ⟨hvN7, hNb.room⟩
            (try first | refine EvO.nx ?_ | refine EvA.nx ?_); repeat' (first | refine Abs.goH (Abs.cc g0 (Abs.cc g1 (Abs.cc g2 (Abs.cc g7 (Abs.cc g9 (Abs.cc g12 (Abs.cc g15 (Abs.cc g16 (g17))))))))) ?_ | with_reducible refine Abs.fork (fun hb => ?_) (fun hb => ?_))
            refine ⟨ls.length - (i + 1), by omega, _, i + 1, v7, rfl, ?_, ?_, ?_, ?_, ?_, ?_, ?_, ?_, ?_, by omega, rfl, hl7, hN7, by rw [htk, wantN_snoc, if_pos hNz]; exact hL7⟩
            · simp (disch := first | omega | assumption) only [go_sem, g0]
            · simp (disch := first | omega | assumption) only [go_sem, g1]
            · simp (disch := first | omega | assumption) only [go_sem, g2]
            · simp (disch := first | omega | assumption) only [go_sem, g7]
            · simp (disch := first | omega | assumption) only [go_sem, g9]
            · simp (disch := first | omega | assumption) only [go_sem, g12]
            · simp (disch := first | omega | assumption) only [go_sem, g15]
            · simp (disch := first | omega | assumption) only [go_sem, ]
            · simp (disch := first | omega | assumption) only [go_sem, Int.natCast_add, Int.natCast_one]
          · have hNz : ¬ N ≤ z := by omega
            (try first | refine EvO.nx ?_ | refine EvA.nx ?_); repeat' (first | refine Abs.goH (Abs.cc g0' (Abs.cc g1 (Abs.cc g2 (Abs.cc g7 (Abs.cc g9 (Abs.cc g12' (Abs.cc g15 (Abs.cc g16 (Abs.cc g17 (Abs.cc hw' (Abs.cc hx (Abs.cc hu (hni))))))))))))) ?_ | with_reducible refine Abs.fork (fun hb => ?_) (fun hb => ?_))
            refine ⟨ls.length - (i + 1), by omega, _, i + 1, wv, rfl, ?_, ?_, ?_, ?_, ?_, ?_, ?_, ?_, ?_, by omega, rfl, hl6, hN6, by rw [htk, wantN_snoc, if_neg hNz, List.append_nil]; exact hL6⟩
            · simp (disch := first | omega | assumption) only [go_sem, g0]
            · simp (disch := first | omega | assumption) only [go_sem, g1]
            · simp (disch := first | omega | assumption) only [go_sem, g2]
            · simp (disch := first | omega | assumption) only [go_sem, g7]
            · simp (disch := first | omega | assumption) only [go_sem, g9]
            · simp (disch := first | omega | assumption) only [go_sem, g12]
            · simp (disch := first | omega | assumption) only [go_sem, g15]
            · simp (disch := first | omega | assumption) only [go_sem, g16]
            · simp (disch := first | omega | assumption) only [go_sem, Int.natCast_add, Int.natCast_one]
        · obtain rfl : i = ls.length := by omega
          rw [List.take_length, show ns.take ls.length = ns from List.take_of_length_le (by omega), ← hwN] at hL6
          rw [List.take_length, show ns.take ls.length = ns from List.take_of_length_le (by omega), ← hwN] at hwl
          (try first | refine EvO.nx ?_ | refine EvA.nx ?_); repeat' (first | refine Abs.goH (Abs.cc g0 (Abs.cc g1 (Abs.cc g2 (Abs.cc g7 (Abs.cc g9 (Abs.cc g12 (Abs.cc g15 (Abs.cc g16 (g17))))))))) ?_ | with_reducible refine Abs.fork (fun hb => ?_) (fun hb => ?_))
          refine ropen_ev hn hwf hT hl6.dk preW_ok ⟨by omega, by omega⟩ (a := N) (.inr ltC) (by omega) (by omega) fun lb7 rv7 s7 O7 V7 t7 m7 last7 by7 R7 j7 mv7 hlb7 hl7 hw7 hre7 hla7 ht7 hm7 _ _ hro7 => ⟨_, _, rfl, ?_⟩
          have hL7 := (hL6.less (O' := O5) fun c hc => .inl hc).mv hwf6 (fun c hc => hl6.dk.ge hc) (by unfold open_; omega) mv7
          have hat7 : LogAt s7 lb b preW M N last by_ ls.length := mv7.old _ _ hl6.off hl6.at_
          have htw := hL7.texts
          have htr := hro7.texts
          obtain ⟨_, _, ⟨wa, wc, rfl⟩, _⟩ := id htw
          obtain ⟨_, _, ⟨ra, rc, rfl⟩, _⟩ := id htr
          by_cases hn1 : 1 < n
          · have hNn : (N : Int) = n := by omega
            (try first | refine EvO.nx ?_ | refine EvA.nx ?_); repeat' (first | refine Abs.goH (Abs.cc g0 (Abs.cc g1 (Abs.cc g2 (Abs.cc g7 (Abs.cc g9 (Abs.cc g12 (Abs.cc g15 (Abs.cc g16 (g17))))))))) ?_ | with_reducible refine Abs.fork (fun hb => ?_) (fun hb => ?_))
            refine wsame_ev hS htr htw (List.prefix_refl _) (by omega) ⟨_, _, rfl, ?_⟩
            (try first | refine EvO.nx ?_ | refine EvA.nx ?_); repeat' (first | refine Abs.goH (Abs.cc g0 (Abs.cc g1 (Abs.cc g2 (Abs.cc g7 (Abs.cc g9 (Abs.cc g12 (Abs.cc g15 (Abs.cc g16 (g17))))))))) ?_ | with_reducible refine Abs.fork (fun hb => ?_) (fun hb => ?_))
            refine wfirst_ev hn.wl hat7 ⟨_, _, rfl, ?_⟩
            (try first | refine EvO.nx ?_ | refine EvA.nx ?_); repeat' (first | refine Abs.goH (Abs.cc g0 (Abs.cc g1 (Abs.cc g2 (Abs.cc g7 (Abs.cc g9 (Abs.cc g12 (Abs.cc g15 (Abs.cc g16 (g17))))))))) ?_ | with_reducible refine Abs.fork (fun hb => ?_) (fun hb => ?_))
            exact ⟨_, by rw [decide_eq_true hNn]⟩
          · have hNn : (N : Int) = 1 := by omega
            (try first | refine EvO.nx ?_ | refine EvA.nx ?_); repeat' (first | refine Abs.goH (Abs.cc g0 (Abs.cc g1 (Abs.cc g2 (Abs.cc g7 (Abs.cc g9 (Abs.cc g12 (Abs.cc g15 (Abs.cc g16 (g17))))))))) ?_ | with_reducible refine Abs.fork (fun hb => ?_) (fun hb => ?_))
            refine wsame_ev hS htr htw (List.prefix_refl _) (by omega) ⟨_, _, rfl, ?_⟩
            (try first | refine EvO.nx ?_ | refine EvA.nx ?_); repeat' (first | refine Abs.goH (Abs.cc g0 (Abs.cc g1 (Abs.cc g2 (Abs.cc g7 (Abs.cc g9 (Abs.cc g12 (Abs.cc g15 (Abs.cc g16 (g17))))))))) ?_ | with_reducible refine Abs.fork (fun hb => ?_) (fun hb => ?_))
            refine wfirst_ev hn.wl hat7 ⟨_, _, rfl, ?_⟩
            (try first | refine EvO.nx ?_ | refine EvA.nx ?_); repeat' (first | refine Abs.goH (Abs.cc g0 (Abs.cc g1 (Abs.cc g2 (Abs.cc g7 (Abs.cc g9 (Abs.cc g12 (Abs.cc g15 (Abs.cc g16 (g17))))))))) ?_ | with_reducible refine Abs.fork (fun hb => ?_) (fun hb => ?_))
            exact ⟨_, by rw [decide_eq_true hNn]⟩
  · (try first | refine EvO.nx ?_ | refine EvA.nx ?_); repeat' (first | refine Abs.go ?_ | with_reducible refine Abs.fork (fun hb => ?_) (fun hb => ?_))
    all_goals exact ⟨_, rfl⟩
end
end Go.Proofs.YtbakhdgiimjnkaaGreatDoor

