/-
  wal.Open, at the evaluator.
-/
import Derived.Test.YtbakhdgiimjnkaaGreatDoorWlB
import Derived.Test.YtbakhdgiimjnkaaGreatDoorEvSet
set_option linter.unusedVariables false
set_option linter.unusedSimpArgs false
namespace Go.Proofs.YtbakhdgiimjnkaaGreatDoor
open Abs
set_option maxHeartbeats 16000000
set_option maxRecDepth 20000
set_option linter.unusedSimpArgs false
attribute [local irreducible] Abs.Ev Abs.EvF Abs.EvO Abs.EvA Abs.Seq Abs.Blk Abs.Body Abs.Scp Abs.EvG Abs.EvAg Abs.Nx
attribute [local go_sem] Tryz.underlying3 Ty.sz3 Ty.by3 Ty.ag3 Ty.ze3 Tryz.underlying4 Ty.sz4 Ty.by4 Ty.ag4 Ty.ze4 Tryz.underlying5 Ty.sz5 Ty.by5 Ty.ag5 Ty.ze5 Tryz.underlying9 Ty.sz9 Ty.by9 Ty.ag9 Ty.ze9 Tryz.underlying28 Ty.sz28 Ty.by28 Ty.ag28 Ty.ze28 Tryz.underlying45 Ty.sz45 Ty.by45 Ty.ag45 Ty.ze45 Tryz.underlying46 Ty.sz46 Ty.by46 Ty.ag46 Ty.ze46 Tryz.underlying59 Ty.sz59 Ty.by59 Ty.ag59 Ty.ze59 Tryz.underlying96 Ty.sz96 Ty.by96 Ty.ag96 Ty.ze96 Tryz.underlying117 Ty.sz117 Ty.by117 Ty.ag117 Ty.ze117
section
variable {Sm : Summ} {Q : Ans → Prop}
/-- an operation whose guard was not worked out is left out -/
theorem Abs.Ev.goU {P : Program} {fn : FuncId} {rd : Option Nat} {ops : Array Oper} {i b : Nat} {l : List PStep} {o : Oper} {a : Ac} {s : St} {j : Nat} {want : Bool} {t : Tmp} (hi : ops.toList[i]? = some o) (hg : o.guard = some (j, want)) (hj : (ops.toList[j]?).bind (·.dst) = some t) (hd : okDst a o.dst = true) (hu : a.tmps.get t = some undefV)
    (h : Ev P Sm (.steps fn rd ops l b (a.upd o.dst undefV) s) Q) : Ev P Sm (.steps fn rd ops (.go i :: l) b a s) Q :=
  by
  have hi : ops[i]? = some o := by simpa using hi
  have hj : (ops[j]?).bind (·.dst) = some t := by simpa using hj
  rw [Ev_steps_cons]
  have e : (fun ih => onSteps P ih fn rd ops (.go i :: l) b a s) = fun ih => ih (.steps fn rd ops l b (a.upd o.dst undefV) s) := by
    funext ih
    show (Rs.of 118 ops[i]?).bind _ = _
    rw [hi]
    show (wantedA ops o a).bind _ = _
    have hw : wantedA ops o a = .ok false := by
      unfold wantedA
      rw [hg]
      show (Rs.of 105 (((ops[j]?).bind (·.dst)).bind a.tmps.get)).bind _ = _
      rw [hj]
      show (Rs.of 105 (a.tmps.get t)).bind _ = _
      rw [hu]
      rfl
    rw [hw]
    show a.put o.dst undefV (fun a => ih (.steps fn rd ops l b a s)) = _
    rw [Ac.put_eq hd]
  rw [e]
  unfold Ev at h
  exact h
theorem Abs.goHU {H P K : Prop} (a : H) (k : K) (h : H → Bx K → P := by intro a_ k_; (first | refine Abs.Ev.seq ?_ | refine Abs.Ev.region ?_ | refine Abs.Ev.block ?_ | refine Abs.Ev.skip ?_ | refine Abs.Ev.exit ?_ | refine Abs.Ev.ret ?_ | refine Abs.Ev.runNil ?_ | refine Abs.Ev.stepsNil ?_ | refine Abs.Seq.go ?_ | refine Abs.Seq.off ?_ | refine Abs.Blk.here ?_ | refine Abs.Blk.go ?_ | refine Abs.Blk.off rfl ?_ | refine Abs.Blk.ret ?_ | refine Abs.Ev.label ?_ | refine Abs.Ev.scope ?_ | (apply Abs.Ev.goU rfl rfl rfl rfl; (· (simp (disch := first | omega | decide) only [Abs.get_same, Abs.get_other, Abs.upd_some, Abs.upd_none]; done))) | ((first | apply Abs.Ev.kcall rfl | apply Abs.Ev.kcallN | apply Abs.Ev.kgocall rfl rfl | apply Abs.Ev.kT rfl | apply Abs.Ev.kN | apply Abs.Ev.kgo rfl rfl rfl | apply Abs.Ev.kgoN rfl rfl); (· (intros; simp (disch := first | omega | assumption) only [go_sem, a_]; exact rfl))) | (apply Abs.Ev.kag rfl; (· (intros; simp (disch := first | omega | assumption) only [go_sem, a_]; exact rfl)); (· (intros; simp (disch := first | omega | assumption) only [go_sem, a_]; exact rfl)); (· simp only [go_sem])) | ((first | apply Abs.Ev.kG2 (hj := rfl) (hd := rfl) | apply Abs.Ev.kcond2); (· (intros; simp (disch := first | omega | assumption) only [go_sem, a_]; exact rfl)); (try simp only [Abs.upd_some, Abs.upd_none])) | (apply Abs.Ev.kG0 (hj := rfl) (hd := rfl); (· (first | (intros; simp (disch := first | omega | assumption) only [go_sem, a_]; exact rfl) | simp (disch := first | omega | assumption) only [go_sem, a_])); (try simp only [Abs.upd_some, Abs.upd_none])) | ((first | apply Abs.Body.kret rfl | apply Abs.Body.kend rfl); (· (intros; simp (disch := first | omega | assumption) only [go_sem, a_]; exact rfl)); (· exact rfl)) | refine Abs.Ev.step' rfl rfl rfl ?_ | refine Abs.Ev.goS' rfl rfl rfl rfl ?_ | refine Abs.Ev.goG' rfl rfl rfl rfl rfl ?_ | refine Abs.Ev.againS' rfl rfl rfl ?_ | refine Abs.Ev.newS' rfl rfl rfl ?_ | refine Abs.Body.retE rfl ?_ | refine Abs.Body.endE rfl ?_ | (refine Abs.Nx.go ?_; (first | simp (disch := first | omega | assumption) only [go_sem, a_] | skip)) | ((with_reducible refine Abs.goL ?_ ?_); (· (intro hb; (try simp only [decide_eq_true_eq, decide_eq_false_iff_not, Bool.true_eq_false, Bool.false_eq_true, Bool.not_true, Bool.not_false, eq_self, not_true_eq_false, not_false_eq_true, ne_eq, decide_true, decide_false] at hb); (try (exfalso; omega)); done))) | ((with_reducible refine Abs.goR ?_ ?_); (· (intro hb; (try simp only [decide_eq_true_eq, decide_eq_false_iff_not, Bool.true_eq_false, Bool.false_eq_true, Bool.not_true, Bool.not_false, eq_self, not_true_eq_false, not_false_eq_true, ne_eq, decide_true, decide_false] at hb); (try (exfalso; omega)); done)))); (repeat (first | refine Abs.Ev.seq ?_ | refine Abs.Ev.region ?_ | refine Abs.Ev.block ?_ | refine Abs.Ev.skip ?_ | refine Abs.Ev.exit ?_ | refine Abs.Ev.ret ?_ | refine Abs.Ev.runNil ?_ | refine Abs.Ev.stepsNil ?_ | refine Abs.Seq.go ?_ | refine Abs.Seq.off ?_ | refine Abs.Blk.here ?_ | refine Abs.Blk.go ?_ | refine Abs.Blk.off rfl ?_ | refine Abs.Blk.ret ?_ | refine Abs.Ev.label ?_ | refine Abs.Ev.scope ?_ | (apply Abs.Ev.goU rfl rfl rfl rfl; (· (simp (disch := first | omega | decide) only [Abs.get_same, Abs.get_other, Abs.upd_some, Abs.upd_none]; done))) | ((first | apply Abs.Ev.kcall rfl | apply Abs.Ev.kcallN | apply Abs.Ev.kgocall rfl rfl | apply Abs.Ev.kT rfl | apply Abs.Ev.kN | apply Abs.Ev.kgo rfl rfl rfl | apply Abs.Ev.kgoN rfl rfl); (· (intros; simp (disch := first | omega | assumption) only [go_sem, a_]; exact rfl))) | (apply Abs.Ev.kag rfl; (· (intros; simp (disch := first | omega | assumption) only [go_sem, a_]; exact rfl)); (· (intros; simp (disch := first | omega | assumption) only [go_sem, a_]; exact rfl)); (· simp only [go_sem])) | ((first | apply Abs.Ev.kG2 (hj := rfl) (hd := rfl) | apply Abs.Ev.kcond2); (· (intros; simp (disch := first | omega | assumption) only [go_sem, a_]; exact rfl)); (try simp only [Abs.upd_some, Abs.upd_none])) | (apply Abs.Ev.kG0 (hj := rfl) (hd := rfl); (· (first | (intros; simp (disch := first | omega | assumption) only [go_sem, a_]; exact rfl) | simp (disch := first | omega | assumption) only [go_sem, a_])); (try simp only [Abs.upd_some, Abs.upd_none])) | ((first | apply Abs.Body.kret rfl | apply Abs.Body.kend rfl); (· (intros; simp (disch := first | omega | assumption) only [go_sem, a_]; exact rfl)); (· exact rfl)) | refine Abs.Ev.step' rfl rfl rfl ?_ | refine Abs.Ev.goS' rfl rfl rfl rfl ?_ | refine Abs.Ev.goG' rfl rfl rfl rfl rfl ?_ | refine Abs.Ev.againS' rfl rfl rfl ?_ | refine Abs.Ev.newS' rfl rfl rfl ?_ | refine Abs.Body.retE rfl ?_ | refine Abs.Body.endE rfl ?_ | (refine Abs.Nx.go ?_; (first | simp (disch := first | omega | assumption) only [go_sem, a_] | skip)) | ((with_reducible refine Abs.goL ?_ ?_); (· (intro hb; (try simp only [decide_eq_true_eq, decide_eq_false_iff_not, Bool.true_eq_false, Bool.false_eq_true, Bool.not_true, Bool.not_false, eq_self, not_true_eq_false, not_false_eq_true, ne_eq, decide_true, decide_false] at hb); (try (exfalso; omega)); done))) | ((with_reducible refine Abs.goR ?_ ?_); (· (intro hb; (try simp only [decide_eq_true_eq, decide_eq_false_iff_not, Bool.true_eq_false, Bool.false_eq_true, Bool.not_true, Bool.not_false, eq_self, not_true_eq_false, not_false_eq_true, ne_eq, decide_true, decide_false] at hb); (try (exfalso; omega)); done))))); exact k_.a) : P := h a ⟨k⟩
noncomputable def recV (V : Vw) (p : Nm) (k : Nat) : List Rec := match V (segN p k) with
  | some x => (scanB x.bytes).1
  | none => []
noncomputable def stV (V : Vw) (p : Nm) (k : Nat) : Nat := match V (segN p k) with
  | some x => (scanB x.bytes).2.2
  | none => 0
noncomputable def lenV (V : Vw) (p : Nm) (k : Nat) : Nat := match V (segN p k) with
  | some x => x.bytes.length
  | none => 0
/-- some segments are gone -/
def Gone (V : Vw) (p : Nm) (i j : Nat) (V1 : Vw) : Prop := (∀ k, i ≤ k → k < j → V1 (segN p k) = none) ∧ ∀ nm, (∀ k, i ≤ k → k < j → nm ≠ segN p k) → V1 nm = V nm
/-- records, as they lie apart from a disk -/
structure RecsO (s : St) (O : Nat → Prop) (v : Value) (ps : List Rec) : Prop where
  ex : ∃ vs, Vec s 28 1 v ps.length vs ∧ AllB s vs ps ∧ ∀ w ∈ vs, ∀ c, inBlk w c → ¬ O c ∧ ∃ y, s.heap.get c = some y ∧ ∀ l, y ≠ .cells l 28 1 true (0, 0)
  room : ∀ c, inBlk v c → inRoom v c ∧ ¬ O c
  small : ps.length < open_
theorem BytesB.src {s s' : St} {v : Value} {l : List UInt8} (h : BytesB s v l) (hk : ∀ b x, inBlk v b → s.heap.get b = some x → s'.heap.get b = some x) : BytesB s' v l := ⟨h.1, src_mono hk h.2⟩
theorem RecsO.mv {s s' : St} {O O' : Nat → Prop} {v : Value} {ps : List Rec} (hwf : s.wf) (h : RecsO s O v ps) (mv : Mv O O' s s') : RecsO s' O' v ps := by
  obtain ⟨vs, h1, h2, h3⟩ := h.ex
  refine ⟨⟨vs, h1.mono fun b x hb hx => mv.old b x (h.room b hb).2 hx, ⟨h2.1, fun i w l e1 e2 => (h2.2 i w l e1 e2).src fun b x hb hx => mv.old b x (h3 w (List.mem_of_getElem? e1) b hb).1 hx⟩, fun w hw c hc => ?_⟩, fun c hc => ⟨(h.room c hc).1, ?_⟩, h.small⟩
  · obtain ⟨q1, x, hx, q2⟩ := h3 w hw c hc
    exact ⟨mv.off hwf hx q1, x, mv.old c x q1 hx, q2⟩
  · obtain ⟨l, hl⟩ := h1.kind (h.room c hc).1 h.small
    exact mv.off hwf hl (h.room c hc).2
theorem log_build (b : Nat) (p : Nm) (most : Int) : aBuild Tryz.prog 117 [(0, .pointer (some ⟨b, 0, none⟩)), (1, .string ⟨⟨p⟩⟩), (2, .int .i64 most)] = .ok (.agg ⟨[.pointer (some ⟨b, 0, none⟩), .string ⟨⟨p⟩⟩, .int .i64 most, .int .i64 0, .int .i64 0, .int .i64 0, .int .i64 0]⟩) := by kernel_rfl
theorem scan_few : ∀ (n : Nat) (l : List UInt8), l.length ≤ n → (scanB l).1.length ≤ l.length
  | n, l, hn => by
    rw [scanB_eq]
    by_cases h0 : l.length = 0
    · rw [if_pos h0]; exact Nat.zero_le _
    rw [if_neg h0]
    by_cases h8 : l.length < 8
    · rw [if_pos h8]; exact Nat.zero_le _
    rw [if_neg h8]
    by_cases hb : 65536 < rd32 l
    · rw [if_pos hb]; exact Nat.zero_le _
    rw [if_neg hb]
    by_cases hc : l.length - 8 < rd32 l
    · rw [if_pos hc]; exact Nat.zero_le _
    rw [if_neg hc]
    by_cases hs : rd32 (l.drop 4) ≠ sumN (l.take 4) ((l.drop 8).take (rd32 l))
    · rw [if_pos hs]; exact Nat.zero_le _
    rw [if_neg hs]
    match n, hn with
    | 0, hn => omega
    | n + 1, hn =>
      have ih := scan_few n (l.drop (8 + rd32 l)) (by rw [List.length_drop]; omega)
      rw [List.length_drop] at ih
      rw [List.length_cons]
      omega
noncomputable def recsI (V : Vw) (p : Nm) (a i : Nat) : List Rec := (List.range' a i).flatMap (recV V p)
theorem recsI_succ (V : Vw) (p : Nm) (a i : Nat) : recsI V p a (i + 1) = recsI V p a i ++ recV V p (a + i) := by
  unfold recsI
  rw [List.range'_concat, List.flatMap_append, Nat.one_mul]
  simp
theorem recsI_len {V : Vw} {p : Nm} {a : Nat} (h : ∀ k, (recV V p k).length ≤ 1048576) : ∀ i, (recsI V p a i).length ≤ i * 1048576
  | 0 => Nat.zero_le _
  | i + 1 => by
    rw [recsI_succ, List.length_append]
    have h1 := recsI_len h (a := a) i
    have h2 := h (a + i)
    omega
theorem nats_at {a cnt j : Nat} (h : j < (natsC (List.range' a cnt)).length) : (natsC (List.range' a cnt))[j] = .int .i64 ((a + j : Nat) : Int) := by
  have hj : j < cnt := by unfold natsC at h; rw [List.length_map, List.length_range'] at h; exact h
  have h2 : (natsC (List.range' a cnt))[j]? = some (.int .i64 ((a + j : Nat) : Int)) := by
    unfold natsC
    rw [List.getElem?_map, List.getElem?_range' hj, Nat.one_mul]
    rfl
  exact Option.some.inj ((List.getElem?_eq_getElem h).symm.trans h2)
noncomputable def stI (V : Vw) (p : Nm) (a i : Nat) : Nat := if i = 0 then 0 else stV V p (a + i - 1)
noncomputable def usI (V : Vw) (p : Nm) (a i : Nat) : Nat := if i = 0 then 0 else lenV V p (a + i - 1)
theorem AllT.down {s : St} {lo lo' : Nat} {vs : List Value} {ps : List Rec} (h : AllT s lo vs ps) (hl : lo' ≤ lo) : AllT s lo' vs ps := ⟨h.1, fun i v l e1 e2 => (h.2 i v l e1 e2).down hl⟩
theorem AllT.app {s : St} {lo : Nat} {vs ws : List Value} {ps qs : List Rec} (h : AllT s lo vs ps) (k : AllT s lo ws qs) : AllT s lo (vs ++ ws) (ps ++ qs) := by
  refine ⟨by rw [List.length_append, List.length_append, h.1, k.1], fun i v l e1 e2 => ?_⟩
  by_cases hi : i < vs.length
  · rw [List.getElem?_append_left hi] at e1
    rw [List.getElem?_append_left (by rw [← h.1]; exact hi)] at e2
    exact h.2 i v l e1 e2
  · rw [List.getElem?_append_right (by omega)] at e1
    rw [List.getElem?_append_right (by rw [← h.1]; omega), ← h.1] at e2
    exact k.2 _ v l e1 e2
theorem Gone.refl (V : Vw) (p : Nm) (i : Nat) : Gone V p i i V := ⟨fun k h1 h2 => by omega, fun _ _ => rfl⟩
theorem Gone.step {V V1 : Vw} {p : Nm} {i j : Nat} (h : Gone V p (i + 1) j V1) (hj : j ≤ 1000000) (hi : i < j) : Gone V p i j (V1.set (segN p i) none) := by
  refine ⟨fun k h1 h2 => ?_, fun nm h1 => ?_⟩
  · by_cases e : k = i
    · subst e; exact Vw.at _ _ _
    · rw [Vw.off _ _ (seg_ne_seg (by omega) (by omega) e)]
      exact h.1 k (by omega) h2
  · rw [Vw.off _ _ (h1 i (Nat.le_refl _) hi)]
    exact h.2 nm fun k a b => h1 k (by omega) b
theorem Mv.fresh {O O' : Nat → Prop} {s s4 s6 : St} {lb : Nat} (hwf : s.wf) (k : Keep s s4) (hlb : s.next ≤ lb) (mw : Mw lb O O' s4 s6) : Mv O O' s s6 :=
  ⟨mw.wf, Nat.le_trans k.next mw.next, fun c x hc hx => mw.old c x (fun h => h.elim hc fun e => by have := hwf c x hx; omega) (k.old c x hx), fun c hc => (mw.new c (.inl hc)).elim (fun h => h.imp id fun e => by omega) fun h => .inr (Nat.le_trans k.next h)⟩
theorem keep_obj1 {s s' : St} {b : Nat} {w : List Value} (hk : ∀ x, s.heap.get b = some x → s'.heap.get b = some x) (h : objCells (s.heap.get b) = .ok w) : objCells (s'.heap.get b) = .ok w := by
  cases hb : s.heap.get b with
  | none => rw [hb] at h; cases h
  | some x => rw [hb] at h; rw [hk x hb]; exact h
theorem wnextT_ev (hn : NoWL Sm) {s0 s s5 : St} (h0 : s0.wf) (hT : P10At s0) {O : Nat → Prop} {lb b : Nat} {p : Nm} {most first last by_ rec : Nat} (first' last' by_' rec' : Nat) {q : Int} {V : Vw} {t m c : Nat} (hl : Lg s0 s O lb b p most first last by_ rec q V t m c) (hp : PreOk p) (hla : last' < 999990) (hm : m < 1000) (hc : c ≤ 1000)
    (hv : 0 < last' → V (segN p last') ≠ none) (hv2 : V (segN p (last' + 1)) = none) (ht : Turned lb s s5) (hb : LogAt s5 lb b p most first' last' by_' rec')
    (h : ∀ s' O', Mw lb O O' s s' → Lg s0 s' O' lb b p most (if first' = 0 then last' + 1 else first') (last' + 1) 0 rec' q (V.next p last') t (m + 1) 0 → Q (.val (.int .i64 0) s')) :
    Ev Tryz.prog Sm (.inv (.fn (.func 77) #[]) [.pointer (some ⟨lb, 0, none⟩)] s5) Q := by
  obtain ⟨hl5, mw5⟩ := hl.turn h0 ht hb
  exact wnext_ev hn h0 hT hl5 hp hla hm hc hv hv2 fun s' O' mw hl' => h s' O' (mw5.to mw hl.dk.keep.wf) hl'
theorem wsettledT_ev (hn : NoWL Sm) {s0 s s5 : St} (h0 : s0.wf) {O : Nat → Prop} {lb b : Nat} {p : Nm} {most first last by_ rec : Nat} (first' last' by_' rec' : Nat) {q : Int} {V : Vw} {t m c : Nat} (hl : Lg s0 s O lb b p most first last by_ rec q V t m c) {ch : Bool} (ht : Turned lb s s5) (hb : LogAt s5 lb b p most first' last' by_' rec')
    (h : ∀ s' O' c', c' ≤ c → (ch = true → c' = 0) → Mw lb O O' s s' → Lg s0 s' O' lb b p most first' last' by_' rec' q V t m c' → Q (.val (.int .i64 0) s')) :
    Ev Tryz.prog Sm (.inv (.fn (.func 76) #[]) [.pointer (some ⟨lb, 0, none⟩), .bool ch] s5) Q := by
  obtain ⟨hl5, mw5⟩ := hl.turn h0 ht hb
  exact wsettledC_ev hn h0 hl5 ch fun s' O' c' h1 h2 mv hl' => h s' O' c' h1 h2 (mw5.to (Mw.of mv) hl.dk.keep.wf) hl'
structure NoWO (Sm : Summ) : Prop where
  wl : NoWL Sm
  open_ : Sm 32 = none
attribute [local go_sem] log_build List.set_cons_zero List.set_cons_succ
set_option maxRecDepth 20000 in
theorem wopenC_ev (hn : NoWO Sm) {s0 s : St} (h0 : s0.wf) (hT : P10At s0) {O : Nat → Prop} {b : Nat} {q : Int} {V : Vw} {t m c0 : Nat} (hd : Dk s0 s O b q V t m c0) (hc0 : c0 ≤ 90) {p : Nm} (hp : PreOk p) {most : Nat} (hmo : 64 ≤ most ∧ most ≤ 1048576)
    {a cnt en : Nat} (ha : 0 < a) (hac : a + cnt ≤ 999000) (hcn : cnt ≤ 900) (hs : Segs V p a cnt) (he : en ≤ cnt) (he0 : 0 < cnt → 0 < en) (hst : ∀ k, a ≤ k → k + 1 < a + en → stV V p k ≠ 2) (hend : en = cnt ∨ stV V p (a + en - 1) = 2) (hm : m ≤ 990)
    (hA : 0 < en → stV V p (a + en - 1) = 0 → lenV V p (a + en - 1) < most → ∀ lb rv s' O' V1 t1 m1 c1, c1 ≤ c0 → Mv O O' s s' → s.next ≤ lb → Lg s0 s' O' lb b p most a (a + en - 1) (lenV V p (a + en - 1)) 0 q V1 t1 m1 c1 → Gone V p (a + en) (a + cnt) V1 → t1 ≤ t ∧ m1 + (cnt - en) = m → RecsO s' (fun c => O' c ∨ c = lb) rv ((List.range' a en).flatMap (recV V p)) → Q (.val (.tuple #[.pointer (some ⟨lb, 0, none⟩), rv, .int .i64 0]) s'))
    (hB : (0 < en → stV V p (a + en - 1) = 0 → most ≤ lenV V p (a + en - 1)) → ∀ lb rv s' O' V1 t1 m1, Mv O O' s s' → s.next ≤ lb → Lg s0 s' O' lb b p most (if en = 0 then 1 else a) ((if en = 0 then 0 else a + en - 1) + 1) 0 0 q (V1.next p (if en = 0 then 0 else a + en - 1)) t1 (m1 + 1) 0 → Gone V p (a + en) (a + cnt) V1 → t1 ≤ t ∧ m1 + (cnt - en) = m → RecsO s' (fun c => O' c ∨ c = lb) rv ((List.range' a en).flatMap (recV V p)) → Q (.val (.tuple #[.pointer (some ⟨lb, 0, none⟩), rv, .int .i64 0]) s')) :
    Ev Tryz.prog Sm (.inv (.fn (.func 32) #[]) [.pointer (some ⟨b, 0, none⟩), .string ⟨⟨p⟩⟩, .int .i64 (most : Int)] s) Q := by
  refine Ev.func hn.open_ Tryz.func32 rfl (m := 152) rfl ?_
  simp only [Array.toList_empty, List.append_nil, ofList_cons, ofList_nil]
  have hwf := hd.keep.wf
  have hpl := hp.len
  have hn1 := hn.wl.wn
  (try first | refine EvO.nx ?_ | refine EvA.nx ?_); repeat' (first | refine Abs.go ?_ | with_reducible refine Abs.fork (fun hb => ?_) (fun hb => ?_))
  refine wgood_ev hn1 hwf hp.one hp.len hp.let_ fun s1 k1 => ⟨_, _, rfl, ?_⟩
  (try first | refine EvO.nx ?_ | refine EvA.nx ?_); repeat' (first | refine Abs.go ?_ | with_reducible refine Abs.fork (fun hb => ?_) (fun hb => ?_))
  have k2 := k1.new (.cells [.pointer (some ⟨b, 0, none⟩), .string ⟨⟨p⟩⟩, .int .i64 (most : Int), .int .i64 0, .int .i64 0, .int .i64 0, .int .i64 0] 117 0 false (0, 0))
  have hn1s := k1.next
  have hd2 := hd.old k2
  have hlg2 : LogAt ⟨s1.heap.set s1.next (.cells [.pointer (some ⟨b, 0, none⟩), .string ⟨⟨p⟩⟩, .int .i64 (most : Int), .int .i64 0, .int .i64 0, .int .i64 0, .int .i64 0] 117 0 false (0, 0)), s1.next + 1⟩ s1.next b p most 0 0 0 0 := get_same _ _ _
  generalize hs2 : (⟨s1.heap.set s1.next (.cells [.pointer (some ⟨b, 0, none⟩), .string ⟨⟨p⟩⟩, .int .i64 (most : Int), .int .i64 0, .int .i64 0, .int .i64 0, .int .i64 0] 117 0 false (0, 0)), s1.next + 1⟩ : St) = s2 at k2 hd2 hlg2 ⊢
  have hs2n : s2.next = s1.next + 1 := by rw [← hs2]
  clear hs2
  generalize s1.next = lb at hn1s hlg2 hs2n ⊢
  refine wnumbers_ev hn1 hd2 hlg2 ha (by omega) hs fun av s3 k3 ao => ⟨_, _, rfl, ?_⟩
  have hd3 := hd2.old k3
  have hlg3 := hlg2.old k3
  obtain ⟨hsrcA, aa, acc, rfl⟩ := ao.vec.src
  have hseg : ∀ i, i < cnt → ∃ x, V (segN p (a + i)) = some x := fun i hi => by
    have := (hs (a + i) (by omega) (by omega)).2 ⟨by omega, by omega⟩
    cases e : V (segN p (a + i)) with
    | none => exact absurd e this
    | some x => exact ⟨x, rfl⟩
  have hrl : ∀ k, (recV V p k).length ≤ 1048576 := fun k => by
    unfold recV
    cases e : V (segN p k) with
    | none => exact Nat.zero_le _
    | some x => exact Nat.le_trans (scan_few _ _ (Nat.le_refl _)) (hd.len e).2
  have hlt3 := k3.wf
  (try first | refine EvO.nx ?_ | refine EvA.nx ?_); repeat' (first | refine Abs.go ?_ | with_reducible refine Abs.fork (fun hb => ?_) (fun hb => ?_))
  refine Ev.mono (R := fun r => ∃ T s4 rv vs, r = Ans.at (.jump (.exit 0)) ⟨T, 152, []⟩ s4 ∧ T.get 0 = some (.pointer (some ⟨b, 0, none⟩)) ∧ T.get 2 = some (.int .i64 (most : Int)) ∧ T.get 9 = some (.pointer (some ⟨lb, 0, none⟩)) ∧ T.get 10 = some rv ∧ T.get 11 = some (.slice aa cnt acc) ∧ T.get 12 = some (.int .i64 ((stI V p a en : Nat) : Int)) ∧ T.get 13 = some (.int .i64 ((usI V p a en : Nat) : Int)) ∧ T.get 14 = some (.int .i64 ((en : Nat) : Int)) ∧
      Keep s3 s4 ∧ Own s4 s3.next 28 1 rv (recsI V p a en).length vs ∧ AllT s4 s3.next vs (recsI V p a en)) ?_ ?_
  · refine Ev.loop (fun k a' s' => ∃ T i rv vs, a' = ⟨T, 152, []⟩ ∧ T.get 0 = some (.pointer (some ⟨b, 0, none⟩)) ∧ T.get 2 = some (.int .i64 (most : Int)) ∧ T.get 9 = some (.pointer (some ⟨lb, 0, none⟩)) ∧ T.get 10 = some rv ∧ T.get 11 = some (.slice aa cnt acc) ∧ T.get 12 = some (.int .i64 ((stI V p a i : Nat) : Int)) ∧ T.get 13 = some (.int .i64 ((usI V p a i : Nat) : Int)) ∧ T.get 14 = some (.int .i64 ((i : Nat) : Int)) ∧ i ≤ en ∧ k = en - i ∧
        Keep s3 s' ∧ Own s' s3.next 28 1 rv (recsI V p a i).length vs ∧ AllT s' s3.next vs (recsI V p a i)) (k := en)
      ⟨_, 0, .slice none 0 0, [], rfl, ?g0, ?g2, ?g9, ?g10, ?g11, ?g12, ?g13, ?g14, Nat.zero_le _, rfl, Keep.refl k3.wf, Own.nil, ⟨rfl, fun i v l h => by simp at h⟩⟩ ?_
    case g0 => simp (disch := first | omega | assumption) only [go_sem, ]
    case g2 => simp (disch := first | omega | assumption) only [go_sem, ]
    case g9 => simp (disch := first | omega | assumption) only [go_sem, ]
    case g10 => simp (disch := first | omega | assumption) only [go_sem, ]
    case g11 => simp (disch := first | omega | assumption) only [go_sem, ]
    case g12 => simp (disch := first | omega | assumption) only [go_sem, ]; try rfl
    case g13 => simp (disch := first | omega | assumption) only [go_sem, ]; try rfl
    case g14 => simp (disch := first | omega | assumption) only [go_sem, ]; try rfl
    rintro k a' s4 ⟨T, i, rv, vs, rfl, g0, g2, g9, g10, g11, g12, g13, g14, hi, rfl, k4, o4, t4⟩
    have hri := recsI_len (a := a) hrl i
    obtain ⟨_, ra, rc, rfl⟩ := o4.vec.src
    by_cases hil : i < en
    · obtain ⟨nb, no, nc, w, e, hw, hvl, hat⟩ := list_at hsrcA ⟨_, _, rfl⟩ (by omega)
      cases e
      have hli := hat i (by omega)
      rw [nats_at] at hli
      have hw4 := keep_obj k4.old hw
      obtain ⟨x, hx⟩ := hseg i (by omega)
      have hxl := (hd.len hx).2
      have hlg4 := hlg3.old k4
      have hd4 := hd3.old k4
      have hrec : recV V p (a + i) = (scanB x.bytes).1 := by unfold recV; rw [hx]
      have hsti : stI V p a (i + 1) = (scanB x.bytes).2.2 := by
        unfold stI
        rw [if_neg (by omega), show a + (i + 1) - 1 = a + i by omega]
        unfold stV
        rw [hx]
      have husi : usI V p a (i + 1) = x.bytes.length := by
        unfold usI
        rw [if_neg (by omega), show a + (i + 1) - 1 = a + i by omega]
        unfold lenV
        rw [hx]
      have hrs := recsI_succ V p a i
      rw [hrec] at hrs
      have hfew := scan_few _ x.bytes (Nat.le_refl _)
      have hi1 : i = 0 ∨ 0 < i := by omega
      have hs2' : stI V p a i ≠ 2 := by
        rcases hi1 with rfl | hi1
        · exact (by decide : (0 : Nat) ≠ 2)
        · unfold stI
          rw [if_neg (by omega)]
          exact hst _ (by omega) (by omega)
      have hl1 : 0 < i → w[no + (i - 1)]? = some (.int .i64 ((a + (i - 1) : Nat) : Int)) := fun h => by
        have h1 := hat (i - 1) (by omega)
        rw [nats_at] at h1
        exact h1
      have e1 : 0 < i → ((i : Int) - 1).toNat = i - 1 := fun h => by omega
      generalize stI V p a i = st at *
      rcases hi1 with hi0 | hi1
      case' inl =>
        (try first | refine EvO.nx ?_ | refine EvA.nx ?_); repeat' (first | refine Abs.goH (Abs.cc g0 (Abs.cc g2 (Abs.cc g9 (Abs.cc g10 (Abs.cc g11 (Abs.cc g12 (Abs.cc g13 (g14)))))))) ?_ | with_reducible refine Abs.fork (fun hb => ?_) (fun hb => ?_))
        refine Abs.Ev.regionD (n := 0) (l := [.go 0, .go 1, .go 2, .go 3, .go 4, .go 5, .go 6, .go 7, .go 8, .go 9, .go 10, .go 11, .go 12, .go 13, .go 14, .go 15, .go 16, .go 17, .go 18, .go 19, .go 20, .go 21, .go 22, .go 23, .go 24]) (by kernel_rfl) ?_
        (try first | refine EvO.nx ?_ | refine EvA.nx ?_); repeat' (first | refine Abs.goH (Abs.cc g0 (Abs.cc g2 (Abs.cc g9 (Abs.cc g10 (Abs.cc g11 (Abs.cc g12 (Abs.cc g13 (Abs.cc g14 (Abs.cc hw4 (hli)))))))))) ?_ | with_reducible refine Abs.fork (fun hb => ?_) (fun hb => ?_))
      case' inr =>
        have hl1 := hl1 hi1
        have e1 := e1 hi1
        (try first | refine EvO.nx ?_ | refine EvA.nx ?_); repeat' (first | refine Abs.goH (Abs.cc g0 (Abs.cc g2 (Abs.cc g9 (Abs.cc g10 (Abs.cc g11 (Abs.cc g12 (Abs.cc g13 (g14)))))))) ?_ | with_reducible refine Abs.fork (fun hb => ?_) (fun hb => ?_))
        refine Abs.Ev.regionD (n := 0) (l := [.go 0, .go 1, .go 2, .go 3, .go 4, .go 5, .go 6, .go 7, .go 8, .go 9, .go 10, .go 11, .go 12, .go 13, .go 14, .go 15, .go 16, .go 17, .go 18, .go 19, .go 20, .go 21, .go 22, .go 23, .go 24]) (by kernel_rfl) ?_
        (try first | refine EvO.nx ?_ | refine EvA.nx ?_); repeat' (first | refine Abs.goH (Abs.cc g0 (Abs.cc g2 (Abs.cc g9 (Abs.cc g10 (Abs.cc g11 (Abs.cc g12 (Abs.cc g13 (Abs.cc g14 (Abs.cc hw4 (Abs.cc hli (Abs.cc hl1 (e1)))))))))))) ?_ | with_reducible refine Abs.fork (fun hb => ?_) (fun hb => ?_))
      all_goals (
        refine wname_ev hn1 k4.wf (hT.of hd4.keep) hlg4 (by omega) (by omega) fun s5 k5 => ⟨_, _, rfl, ?_⟩
        (try first | refine EvO.nx ?_ | refine EvA.nx ?_); repeat' (first | refine Abs.goH (Abs.cc g0 (Abs.cc g2 (Abs.cc g9 (Abs.cc g10 (Abs.cc g11 (Abs.cc g12 (Abs.cc g13 (g14)))))))) ?_ | with_reducible refine Abs.fork (fun hb => ?_) (fun hb => ?_))
        refine vread_ev hn1.disk (hd4.old k5) hx fun bv s6 k6 tx => ⟨_, _, rfl, ?_⟩
        obtain ⟨ba, bc, rfl⟩ := tx.bytes.1
        (try first | refine EvO.nx ?_ | refine EvA.nx ?_); repeat' (first | refine Abs.goH (Abs.cc g0 (Abs.cc g2 (Abs.cc g9 (Abs.cc g10 (Abs.cc g11 (Abs.cc g12 (Abs.cc g13 (g14)))))))) ?_ | with_reducible refine Abs.fork (fun hb => ?_) (fun hb => ?_))
        refine scan_ev hn.wl.frame hn.wl.crc k6.wf tx (by omega) fun pv s7 k7 r7 => ⟨_, _, rfl, ?_⟩
        obtain ⟨ws, ow, tw⟩ := r7
        obtain ⟨hsrcp, pa, pc, rfl⟩ := ow.vec.src
        have k57 := (k5.trans k6).trans k7
        have o7 := o4.mono fun b l _ hx => k57.old b _ hx
        have hone : ws.all oneB = true := by
          rw [List.all_eq_true]
          intro y hy
          obtain ⟨j, hj, rfl⟩ := List.mem_iff_getElem.1 hy
          have hj' : j < (scanB x.bytes).1.length := by rw [← tw.1]; exact hj
          obtain ⟨_, _, e⟩ := (tw.2 j ws[j] _ (List.getElem?_eq_getElem hj) (List.getElem?_eq_getElem hj')).bytes.1
          rw [e]
          rfl
        (try first | refine EvO.nx ?_ | refine EvA.nx ?_); repeat' (first | refine Abs.goH (Abs.cc g0 (Abs.cc g2 (Abs.cc g9 (Abs.cc g10 (Abs.cc g11 (Abs.cc g12 (Abs.cc g13 (g14)))))))) ?_ | with_reducible refine Abs.fork (fun hb => ?_) (fun hb => ?_))
        refine EvO.appendOwnW k7.wf Tryz.underlying59 Ty.sz28 Ty.by28 Ty.ze28 rfl (by decide) o7 (Nat.le_trans k4.next k57.next) ((appSrc_slice Tryz.underlying59).trans hsrcp) (by rw [tw.1, Nat.mul_one]) hone (by omega) (by omega) fun v8 s8 o8 w8 n8 b8 p8 => ?_
        have k8 : Keep s3 s8 := (k4.trans k57).but w8 n8 p8 hlt3
        (try first | refine EvO.nx ?_ | refine EvA.nx ?_); repeat' (first | refine Abs.goH (Abs.cc g0 (Abs.cc g2 (Abs.cc g9 (Abs.cc g10 (Abs.cc g11 (Abs.cc g12 (Abs.cc g13 (g14)))))))) ?_ | with_reducible refine Abs.fork (fun hb => ?_) (fun hb => ?_))
        refine ⟨en - (i + 1), by omega, _, i + 1, v8, _, rfl, ?_, ?_, ?_, ?_, ?_, ?_, ?_, ?_, by omega, rfl, k8, by rw [hrs, List.length_append]; exact o8, ?_⟩
        · simp (disch := first | omega | assumption) only [go_sem, g0]
        · simp (disch := first | omega | assumption) only [go_sem, g2]
        · simp (disch := first | omega | assumption) only [go_sem, g9]
        · simp (disch := first | omega | assumption) only [go_sem, ]
        · simp (disch := first | omega | assumption) only [go_sem, g11]
        · simp (disch := first | omega | assumption) only [go_sem, hsti]
        · simp (disch := first | omega | assumption) only [go_sem, husi]
        · simp (disch := first | omega | assumption) only [go_sem, Int.natCast_add, Int.natCast_one]
        · rw [hrs]
          exact (((t4.mono k57.old).but b8).app ((tw.but b8).down (Nat.le_trans k4.next (k5.trans k6).next))))
    · obtain rfl : i = en := by omega
      by_cases hec : i < cnt
      case' pos =>
        have hi0 := he0 (by omega)
        have hst2 : stI V p a i = 2 := by unfold stI; rw [if_neg (by omega)]; exact hend.resolve_left (by omega)
        generalize stI V p a i = st at *
        obtain ⟨nb, no, nc, w, e, hw, hvl, hat⟩ := list_at hsrcA ⟨_, _, rfl⟩ (by omega)
        have g11' : T.get 11 = some (.slice (some ⟨nb, no, none⟩) cnt nc) := by rw [g11, e]
        have hli := hat i (by omega)
        have hl1 := hat (i - 1) (by omega)
        rw [nats_at] at hli hl1
        have hw4 := keep_obj k4.old hw
        have e1 : ((i : Int) - 1).toNat = i - 1 := by omega
        (try first | refine EvO.nx ?_ | refine EvA.nx ?_); repeat' (first | refine Abs.goH (Abs.cc g0 (Abs.cc g2 (Abs.cc g9 (Abs.cc g10 (Abs.cc g11' (Abs.cc g12 (Abs.cc g13 (g14)))))))) ?_ | with_reducible refine Abs.fork (fun hb => ?_) (fun hb => ?_))
        refine Abs.Ev.regionD (n := 0) (l := [.go 0, .go 1, .go 2, .go 3, .go 4, .go 5, .go 6, .go 7, .go 8, .go 9, .go 10, .go 11, .go 12, .go 13, .go 14, .go 15, .go 16, .go 17, .go 18, .go 19, .go 20, .go 21, .go 22, .go 23, .go 24]) (by kernel_rfl) ?_
        (try first | refine EvO.nx ?_ | refine EvA.nx ?_); repeat' (first | refine Abs.goH (Abs.cc g0 (Abs.cc g2 (Abs.cc g9 (Abs.cc g10 (Abs.cc g11' (Abs.cc g12 (Abs.cc g13 (Abs.cc g14 (Abs.cc hw4 (Abs.cc hli (Abs.cc hl1 (e1)))))))))))) ?_ | with_reducible refine Abs.fork (fun hb => ?_) (fun hb => ?_))
      case' neg =>
        (try first | refine EvO.nx ?_ | refine EvA.nx ?_); repeat' (first | refine Abs.goH (Abs.cc g0 (Abs.cc g2 (Abs.cc g9 (Abs.cc g10 (Abs.cc g11 (Abs.cc g12 (Abs.cc g13 (g14)))))))) ?_ | with_reducible refine Abs.fork (fun hb => ?_) (fun hb => ?_))
        refine Abs.Ev.regionD (n := 0) (l := [.go 0, .go 1, .go 2, .go 3, .go 4, .go 5, .go 6, .go 7, .go 8, .go 9, .go 10, .go 11, .go 12, .go 13, .go 14, .go 15, .go 16, .go 17, .go 18, .go 19, .go 20, .go 21, .go 22, .go 23, .go 24]) (by kernel_rfl) ?_
        (try first | refine EvO.nx ?_ | refine EvA.nx ?_); repeat' (first | refine Abs.goHU (Abs.cc g0 (Abs.cc g2 (Abs.cc g9 (Abs.cc g10 (Abs.cc g11 (Abs.cc g12 (Abs.cc g13 (g14)))))))) ?_ | with_reducible refine Abs.fork (fun hb => ?_) (fun hb => ?_))
      all_goals exact ⟨_, s4, _, vs, rfl, by simp (disch := first | omega | assumption) only [go_sem, g0], by simp (disch := first | omega | assumption) only [go_sem, g2], by simp (disch := first | omega | assumption) only [go_sem, g9], by simp (disch := first | omega | assumption) only [go_sem, g10], by simp (disch := first | omega | assumption) only [go_sem, g11], by simp (disch := first | omega | assumption) only [go_sem, g12], by simp (disch := first | omega | assumption) only [go_sem, g13], by simp (disch := first | omega | assumption) only [go_sem, g14], k4, o4, t4⟩
  rintro r ⟨T, s4, rv, vs, rfl, g0, g2, g9, g10, g11, g12, g13, g14, k4, o4, t4⟩
  obtain ⟨_, ra, rc, rfl⟩ := o4.vec.src
  have hri := recsI_len (a := a) hrl en
  generalize en = i at *
  have hlg4 := hlg3.old k4
  have hd4 := hd3.old k4
  have k04 : Keep s s4 := (k2.trans k3).trans k4
  have hlbO : ∀ c, O c → c < lb := fun c hc => by have := hd.lt hc; omega
  have hl4 : Lg s0 s4 O lb b p most 0 0 0 0 q V t m (c0 + (cnt - cnt)) := ⟨hd4.mono (Nat.le_add_right _ _), hlg4, fun h => absurd (hlbO lb h) (Nat.lt_irrefl _), by have := hd.keep.next; omega⟩
  have hro : RecsO s4 (fun c => O c ∨ c = lb) (.slice ra (recsI V p a i).length rc) (recsI V p a i) := by
    have hlb3 : lb < s3.next := hlg3.lt k3.wf
    have off : ∀ c, s3.next ≤ c → ¬ (O c ∨ c = lb) := fun c h1 h2 => h2.elim (fun h => by have := hlbO c h; omega) fun e => by omega
    refine ⟨⟨vs, o4.vec, ⟨t4.1, fun i v l e1 e2 => (t4.2 i v l e1 e2).bytes⟩, fun w hw c hc => ?_⟩, fun c hc => ⟨o4.room c hc, off c (o4.lo c (o4.room c hc))⟩, o4.small⟩
    obtain ⟨j, hj, rfl⟩ := List.mem_iff_getElem.1 hw
    have hj' : j < (recsI V p a i).length := by rw [← t4.1]; exact hj
    have tx := t4.2 j vs[j] _ (List.getElem?_eq_getElem hj) (List.getElem?_eq_getElem hj')
    generalize vs[j] = y at *
    generalize (recsI V p a i)[j] = z at tx
    cases tx with
    | nil => obtain ⟨_, _, _, e⟩ := hc; cases e
    | zero hz =>
      obtain ⟨_, _, _, e⟩ := hc
      cases e
      refine ⟨?_, _, hz, fun l e => by cases e⟩
      rintro (h | h)
      · obtain ⟨y, h1, h2⟩ := hd4.own _ h
        rw [hz] at h1
        exact h2 (Option.some.inj h1).symm
      · subst h
        unfold LogAt at hlg4
        rw [hz] at hlg4
        cases hlg4
    | own hz hne hlo =>
      obtain ⟨_, _, _, e⟩ := hc
      cases e
      exact ⟨off _ hlo, _, hz, fun l e => by cases e⟩
  have hnbO : ∀ x, inBlk (.slice aa cnt acc) x → ¬ O x ∧ x ≠ lb := fun x hx => by
    have h1 := ao.lo x (ao.room x hx)
    exact ⟨fun h => by have := hlbO x h; omega, by omega⟩
  have hsE : 0 < i → stI V p a i = stV V p (a + i - 1) := fun h => by unfold stI; rw [if_neg (by omega)]
  have huE : 0 < i → usI V p a i = lenV V p (a + i - 1) := fun h => by unfold usI; rw [if_neg (by omega)]
  have hbig : (recsI V p a i) = (List.range' a i).flatMap (recV V p) := rfl
  rw [← hbig] at hA hB
  generalize stI V p a i = st at *
  generalize usI V p a i = us at *
  generalize recsI V p a i = rs at *
  clear o4 t4 hbig hri
  (try first | refine EvO.nx ?_ | refine EvA.nx ?_); repeat' (first | refine Abs.goH (Abs.cc g0 (Abs.cc g2 (Abs.cc g9 (Abs.cc g10 (Abs.cc g11 (Abs.cc g12 (Abs.cc g13 (g14)))))))) ?_ | with_reducible refine Abs.fork (fun hb => ?_) (fun hb => ?_))
  refine Ev.loop (fun k a' s' => ∃ T, ∃ j : Nat, ∃ O' V' t' m', a' = ⟨T, 152, []⟩ ∧ T.get 0 = some (.pointer (some ⟨b, 0, none⟩)) ∧ T.get 2 = some (.int .i64 (most : Int)) ∧ T.get 9 = some (.pointer (some ⟨lb, 0, none⟩)) ∧ T.get 10 = some (.slice ra rs.length rc) ∧ T.get 11 = some (.slice aa cnt acc) ∧ T.get 12 = some (.int .i64 ((st : Nat) : Int)) ∧ T.get 13 = some (.int .i64 ((us : Nat) : Int)) ∧ T.get 14 = some (.int .i64 ((i : Nat) : Int)) ∧ T.get 18 = some (.int .i64 ((j : Int) - 1)) ∧ i ≤ j ∧ j ≤ cnt ∧ k = j - i ∧
      Mv O O' s4 s' ∧ Lg s0 s' O' lb b p most 0 0 0 0 q V' t' m' (c0 + (cnt - j)) ∧ Gone V p (a + j) (a + cnt) V' ∧ t' ≤ t ∧ m' + (cnt - j) = m) (k := cnt - i)
    ⟨_, cnt, O, V, t, m, rfl, ?h0, ?h2, ?h9, ?h10, ?h11, ?h12, ?h13, ?h14, ?h18, he, Nat.le_refl _, rfl, Mv.refl k4.wf, hl4, Gone.refl _ _ _, Nat.le_refl _, by omega⟩ ?_
  case h0 => simp (disch := first | omega | assumption) only [go_sem, g0]
  case h2 => simp (disch := first | omega | assumption) only [go_sem, g2]
  case h9 => simp (disch := first | omega | assumption) only [go_sem, g9]
  case h10 => simp (disch := first | omega | assumption) only [go_sem, g10]
  case h11 => simp (disch := first | omega | assumption) only [go_sem, g11]
  case h12 => simp (disch := first | omega | assumption) only [go_sem, g12]
  case h13 => simp (disch := first | omega | assumption) only [go_sem, g13]
  case h14 => simp (disch := first | omega | assumption) only [go_sem, g14]
  case h18 => simp (disch := first | omega | assumption) only [go_sem, ]
  clear g0 g2 g9 g10 g11 g12 g13 g14
  rintro k a' s5 ⟨T, j, O2, V2, t2, m2, rfl, g0, g2, g9, g10, g11, g12, g13, g14, g18, hij, hjc, rfl, mv2, hl2, hg2, ht2, hm2⟩
  have k25 : Mw lb O O2 s4 s5 := Mw.of mv2
  have hb2 := hl2.at_
  unfold LogAt at hb2
  by_cases hji : i < j
  · first
    | (exfalso; omega)
    | (
      obtain ⟨nb, no, nc, w, e, hw, hvl, hat⟩ := list_at hsrcA ⟨_, _, rfl⟩ (by omega)
      cases e
      have hlj := hat (j - 1) (by omega)
      rw [nats_at] at hlj
      have hw5 := keep_obj1 (s' := s5) (fun x hx => mv2.old nb x (hnbO nb ⟨_, _, _, rfl⟩).1 hx) (keep_obj k4.old hw)
      obtain ⟨x, hx⟩ := hseg (j - 1) (by omega)
      have hx2 : V2 (segN p (a + (j - 1))) = some x := by
        rw [hg2.2 _ fun k h1 h2 => seg_ne_seg (by omega) (by omega) (by omega)]
        exact hx
      have e1 : ((j : Int) - 1).toNat = j - 1 := by omega
      have e2 : ((j - 1 : Nat) : Int) = (j : Int) - 1 := by omega
      (try first | refine EvO.nx ?_ | refine EvA.nx ?_); repeat' (first | refine Abs.goH (Abs.cc g0 (Abs.cc g2 (Abs.cc g9 (Abs.cc g10 (Abs.cc g11 (Abs.cc g12 (Abs.cc g13 (Abs.cc g14 (Abs.cc g18 (Abs.cc hw5 (Abs.cc hlj (e1)))))))))))) ?_ | with_reducible refine Abs.fork (fun hb => ?_) (fun hb => ?_))
      refine wname_ev hn1 hl2.dk.keep.wf (hT.of hl2.dk.keep) hl2.at_ (by omega) (by omega) fun s6 k6 => ⟨_, _, rfl, ?_⟩
      have hl6 := hl2.old k6
      (try first | refine EvO.nx ?_ | refine EvA.nx ?_); repeat' (first | refine Abs.goH (Abs.cc g0 (Abs.cc g2 (Abs.cc g9 (Abs.cc g10 (Abs.cc g11 (Abs.cc g12 (Abs.cc g13 (Abs.cc g14 (g18))))))))) ?_ | with_reducible refine Abs.fork (fun hb => ?_) (fun hb => ?_))
      refine vremove_ev hn1.disk h0 hl6.dk (by omega) (seg_ne _ _) hx2 fun s7 O7 t7 m7 et em mv7 dk7 => ⟨_, _, rfl, ?_⟩
      have hl7 := hl6.mv mv7 dk7
      rw [show c0 + (cnt - j) + 1 = c0 + (cnt - (j - 1)) by omega] at hl7
      rw [show a + j = a + (j - 1) + 1 by omega] at hg2
      (try first | refine EvO.nx ?_ | refine EvA.nx ?_); repeat' (first | refine Abs.goH (Abs.cc g0 (Abs.cc g2 (Abs.cc g9 (Abs.cc g10 (Abs.cc g11 (Abs.cc g12 (Abs.cc g13 (Abs.cc g14 (g18))))))))) ?_ | with_reducible refine Abs.fork (fun hb => ?_) (fun hb => ?_))
      refine ⟨j - 1 - i, by omega, _, j - 1, O7, _, t7, m7, rfl, ?_, ?_, ?_, ?_, ?_, ?_, ?_, ?_, ?_, by omega, by omega, rfl, (mv2.trans k4.wf (Mv.ofKeep k6)).trans k4.wf mv7, hl7, hg2.step (by omega) (by omega), by omega, by omega⟩
      · simp (disch := first | omega | assumption) only [go_sem, g0]
      · simp (disch := first | omega | assumption) only [go_sem, g2]
      · simp (disch := first | omega | assumption) only [go_sem, g9]
      · simp (disch := first | omega | assumption) only [go_sem, g10]
      · simp (disch := first | omega | assumption) only [go_sem, g11]
      · simp (disch := first | omega | assumption) only [go_sem, g12]
      · simp (disch := first | omega | assumption) only [go_sem, g13]
      · simp (disch := first | omega | assumption) only [go_sem, g14]
      · simp (disch := first | omega | assumption) only [go_sem, e2])
  · obtain rfl : j = i := by omega
    have hlb1 : s.next ≤ lb := hn1s
    by_cases hi0 : j = 0
    · first
      | (exfalso; omega)
      | (
        simp only [if_pos hi0] at hB
        (try first | refine EvO.nx ?_ | refine EvA.nx ?_); repeat' (first | refine Abs.goH (Abs.cc g0 (Abs.cc g2 (Abs.cc g9 (Abs.cc g10 (Abs.cc g11 (Abs.cc g12 (Abs.cc g13 (Abs.cc g14 (g18))))))))) ?_ | with_reducible refine Abs.fork (fun hb => ?_) (fun hb => ?_))
        have hno : V2 (segN p (0 + 1)) = none := by
          rw [hg2.2 _ fun k h1 h2 => seg_ne_seg (by omega) (by omega) (by omega)]
          have h1 := hs 1 (by omega) (by omega)
          cases e : V (segN p (0 + 1)) with
          | none => rfl
          | some x =>
            have := h1.1 (by rw [show (1 : Nat) = 0 + 1 from rfl, e]; simp)
            omega
        refine wnext_ev hn.wl h0 hT hl2 hp (by omega) (by omega) (by omega) (fun h => absurd h (Nat.lt_irrefl _)) hno fun s6 O6 mw6 hl6 => ⟨_, _, rfl, ?_⟩
        rw [if_pos rfl] at hl6
        (try first | refine EvO.nx ?_ | refine EvA.nx ?_); repeat' (first | refine Abs.goH (Abs.cc g0 (Abs.cc g2 (Abs.cc g9 (Abs.cc g10 (Abs.cc g11 (Abs.cc g12 (Abs.cc g13 (Abs.cc g14 (g18))))))))) ?_ | with_reducible refine Abs.fork (fun hb => ?_) (fun hb => ?_))
        exact hB (fun h => by omega) lb _ s6 O6 V2 t2 m2 (Mv.fresh hwf k04 hlb1 (k25.to mw6 k4.wf)) hlb1 hl6 hg2 ⟨ht2, hm2⟩ (hro.mv k4.wf (k25.to mw6 k4.wf)))
    · have hj0 : 0 < j := by omega
      obtain ⟨nb, no, nc, w, e, hw, hvl, hat⟩ := list_at hsrcA ⟨_, _, rfl⟩ (by omega)
      cases e
      have hl0 := hat 0 (by omega)
      have hlj := hat (j - 1) (by omega)
      rw [nats_at] at hl0 hlj
      rw [Nat.add_zero, Nat.add_zero] at hl0
      rw [show a + (j - 1) = a + j - 1 by omega] at hlj
      have hw5 := keep_obj1 (s' := s5) (fun x hx => mv2.old nb x (hnbO nb ⟨_, _, _, rfl⟩).1 hx) (keep_obj k4.old hw)
      have e1 : ((j : Int) - 1).toNat = j - 1 := by omega
      simp only [if_neg hi0] at hB
      rw [← hsE hj0, ← huE hj0] at hA hB
      (try first | refine EvO.nx ?_ | refine EvA.nx ?_); repeat' (first | refine Abs.goH (Abs.cc g0 (Abs.cc g2 (Abs.cc g9 (Abs.cc g10 (Abs.cc g11 (Abs.cc g12 (Abs.cc g13 (Abs.cc g14 (g18))))))))) ?_ | with_reducible refine Abs.fork (fun hb => ?_) (fun hb => ?_))
      refine Abs.Ev.regionD (n := 0) (l := [.go 0, .go 1, .go 2, .go 3, .go 4, .go 5, .go 6, .go 7, .go 8, .go 9, .go 10, .go 11, .go 12, .go 13, .go 14, .go 15, .go 16, .go 17, .go 18, .go 19, .go 20]) (by kernel_rfl) ?_
      have hsv : V2 (segN p (a + j - 1)) ≠ none := by
        rw [hg2.2 _ fun k h1 h2 => seg_ne_seg (by omega) (by omega) (by omega)]
        exact (hs (a + j - 1) (by omega) (by omega)).2 ⟨by omega, by omega⟩
      have hnv : V2 (segN p (a + j - 1 + 1)) = none := by
        rw [show a + j - 1 + 1 = a + j by omega]
        by_cases hjc2 : j < cnt
        · exact hg2.1 (a + j) (Nat.le_refl _) (by omega)
        · rw [hg2.2 _ fun k h1 h2 => seg_ne_seg (by omega) (by omega) (by omega)]
          have h1 := hs (a + j) (by omega) (by omega)
          cases e : V (segN p (a + j)) with
          | none => rfl
          | some x =>
            have := h1.1 (by rw [e]; simp)
            omega
      by_cases hc : st = 0 ∧ us < most
      · (try first | refine EvO.nx ?_ | refine EvA.nx ?_); repeat' (first | refine Abs.goH (Abs.cc g0 (Abs.cc g2 (Abs.cc g9 (Abs.cc g10 (Abs.cc g11 (Abs.cc g12 (Abs.cc g13 (Abs.cc g14 (Abs.cc g18 (Abs.cc hw5 (Abs.cc hl0 (Abs.cc hlj (Abs.cc e1 (hb2)))))))))))))) ?_ | with_reducible refine Abs.fork (fun hb => ?_) (fun hb => ?_))
        refine wsettledT_ev hn.wl h0 a (a + j - 1) us 0 hl2 ⟨rfl, fun c hc => by simp only [get_other _ _ _ _ hc]⟩ (get_same _ _ _) fun s6 O6 c6 hc6 hc7 mw6 hl6 => ⟨_, _, rfl, ?_⟩
        have hc8 : c6 ≤ c0 := by
          by_cases hjc3 : j < cnt
          · have := hc7 (decide_eq_true (by omega))
            omega
          · omega
        (try first | refine EvO.nx ?_ | refine EvA.nx ?_); repeat' (first | refine Abs.goH (Abs.cc g0 (Abs.cc g2 (Abs.cc g9 (Abs.cc g10 (Abs.cc g11 (Abs.cc g12 (Abs.cc g13 (Abs.cc g14 (g18))))))))) ?_ | with_reducible refine Abs.fork (fun hb => ?_) (fun hb => ?_))
        exact hA hj0 hc.1 hc.2 lb _ s6 O6 V2 t2 m2 c6 hc8 (Mv.fresh hwf k04 hlb1 (k25.to mw6 k4.wf)) hlb1 hl6 hg2 ⟨ht2, hm2⟩ (hro.mv k4.wf (k25.to mw6 k4.wf))
      · have hcB : st = 0 → most ≤ us := fun h => by omega
        (try first | refine EvO.nx ?_ | refine EvA.nx ?_); repeat' (first | refine Abs.goH (Abs.cc g0 (Abs.cc g2 (Abs.cc g9 (Abs.cc g10 (Abs.cc g11 (Abs.cc g12 (Abs.cc g13 (Abs.cc g14 (Abs.cc g18 (Abs.cc hw5 (Abs.cc hl0 (Abs.cc hlj (Abs.cc e1 (hb2)))))))))))))) ?_ | with_reducible refine Abs.fork (fun hb => ?_) (fun hb => ?_))
        all_goals (
          refine wnextT_ev hn.wl h0 hT a (a + j - 1) us 0 hl2 hp (by omega) (by omega) (by omega) (fun _ => hsv) hnv ⟨rfl, fun c hc => by simp only [get_other _ _ _ _ hc]⟩ (get_same _ _ _) fun s6 O6 mw6 hl6 => ⟨_, _, rfl, ?_⟩
          rw [if_neg (by omega)] at hl6
          (try first | refine EvO.nx ?_ | refine EvA.nx ?_); repeat' (first | refine Abs.goH (Abs.cc g0 (Abs.cc g2 (Abs.cc g9 (Abs.cc g10 (Abs.cc g11 (Abs.cc g12 (Abs.cc g13 (Abs.cc g14 (g18))))))))) ?_ | with_reducible refine Abs.fork (fun hb => ?_) (fun hb => ?_))
          exact hB (fun _ h => hcB h) lb _ s6 O6 V2 t2 m2 (Mv.fresh hwf k04 hlb1 (k25.to mw6 k4.wf)) hlb1 hl6 hg2 ⟨ht2, hm2⟩ (hro.mv k4.wf (k25.to mw6 k4.wf)))
theorem wopen_ev (hn : NoWO Sm) {s0 s : St} (h0 : s0.wf) (hT : P10At s0) {O : Nat → Prop} {b : Nat} {q : Int} {V : Vw} {t m : Nat} (hd : Dk s0 s O b q V t m 0) {p : Nm} (hp : PreOk p) {most : Nat} (hmo : 64 ≤ most ∧ most ≤ 1048576)
    {a cnt en : Nat} (ha : 0 < a) (hac : a + cnt ≤ 999000) (hcn : cnt ≤ 900) (hs : Segs V p a cnt) (he : en ≤ cnt) (he0 : 0 < cnt → 0 < en) (hst : ∀ k, a ≤ k → k + 1 < a + en → stV V p k ≠ 2) (hend : en = cnt ∨ stV V p (a + en - 1) = 2) (hm : m ≤ 990)
    (hA : 0 < en → stV V p (a + en - 1) = 0 → lenV V p (a + en - 1) < most → ∀ lb rv s' O' V1 t1 m1, Mv O O' s s' → s.next ≤ lb → Lg s0 s' O' lb b p most a (a + en - 1) (lenV V p (a + en - 1)) 0 q V1 t1 m1 0 → Gone V p (a + en) (a + cnt) V1 → t1 ≤ t ∧ m1 ≤ m → RecsO s' (fun c => O' c ∨ c = lb) rv ((List.range' a en).flatMap (recV V p)) → Q (.val (.tuple #[.pointer (some ⟨lb, 0, none⟩), rv, .int .i64 0]) s'))
    (hB : (0 < en → stV V p (a + en - 1) = 0 → most ≤ lenV V p (a + en - 1)) → ∀ lb rv s' O' V1 t1 m1, Mv O O' s s' → s.next ≤ lb → Lg s0 s' O' lb b p most (if en = 0 then 1 else a) ((if en = 0 then 0 else a + en - 1) + 1) 0 0 q (V1.next p (if en = 0 then 0 else a + en - 1)) t1 (m1 + 1) 0 → Gone V p (a + en) (a + cnt) V1 → t1 ≤ t ∧ m1 ≤ m → RecsO s' (fun c => O' c ∨ c = lb) rv ((List.range' a en).flatMap (recV V p)) → Q (.val (.tuple #[.pointer (some ⟨lb, 0, none⟩), rv, .int .i64 0]) s')) :
    Ev Tryz.prog Sm (.inv (.fn (.func 32) #[]) [.pointer (some ⟨b, 0, none⟩), .string ⟨⟨p⟩⟩, .int .i64 (most : Int)] s) Q :=
  wopenC_ev hn h0 hT hd (Nat.zero_le _) hp hmo ha hac hcn hs he he0 hst hend hm (fun h1 h2 h3 lb rv s' O' V1 t1 m1 c1 hc1 mv hlb hl hg hb hro => by obtain rfl := Nat.le_zero.1 hc1; exact hA h1 h2 h3 lb rv s' O' V1 t1 m1 mv hlb hl hg ⟨hb.1, by omega⟩ hro) (fun h1 lb rv s' O' V1 t1 m1 mv hlb hl hg hb hro => hB h1 lb rv s' O' V1 t1 m1 mv hlb hl hg ⟨hb.1, by omega⟩ hro)
end
end Go.Proofs.YtbakhdgiimjnkaaGreatDoor
