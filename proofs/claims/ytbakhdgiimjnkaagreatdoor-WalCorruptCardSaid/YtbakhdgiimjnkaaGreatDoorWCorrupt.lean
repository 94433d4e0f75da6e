/-
  The law WalCorrupt at the evaluator: it says true.
-/
import Derived.Test.YtbakhdgiimjnkaaGreatDoorWlC
import Derived.Test.YtbakhdgiimjnkaaGreatDoorCRef
import Derived.Test.YtbakhdgiimjnkaaGreatDoorEvA
import Derived.Test.YtbakhdgiimjnkaaGreatDoorEvSet
set_option linter.unusedVariables false
set_option linter.unusedSimpArgs false
namespace Go.Proofs.YtbakhdgiimjnkaaGreatDoor
open Abs
set_option maxHeartbeats 16000000
set_option maxRecDepth 20000
set_option linter.unusedSimpArgs false
attribute [local irreducible] Abs.Ev Abs.EvF Abs.EvO Abs.EvA Abs.Seq Abs.Blk Abs.Body Abs.Scp Abs.EvG Abs.EvAg Abs.Nx
attribute [local go_sem] Tryz.underlying3 Ty.sz3 Ty.by3 Ty.ag3 Ty.ze3 Tryz.underlying4 Ty.sz4 Ty.by4 Ty.ag4 Ty.ze4 Tryz.underlying5 Ty.sz5 Ty.by5 Ty.ag5 Ty.ze5 Tryz.underlying9 Ty.sz9 Ty.by9 Ty.ag9 Ty.ze9 Tryz.underlying28 Ty.sz28 Ty.by28 Ty.ag28 Ty.ze28 Tryz.underlying46 Ty.sz46 Ty.by46 Ty.ag46 Ty.ze46 Tryz.underlying59 Ty.sz59 Ty.by59 Ty.ag59 Ty.ze59 Tryz.underlying96 Ty.sz96 Ty.by96 Ty.ag96 Ty.ze96 Tryz.underlying117 Ty.sz117 Ty.by117 Ty.ag117 Ty.ze117
section
variable {Sm : Summ} {Q : Ans → Prop}
def preC : Nm := [119, 45]
theorem preC_ok : PreOk preC := ⟨by decide, by decide, by decide⟩
theorem src_lt {s : St} {v : Value} {n c : Nat} {vs : List Value} (h : srcCells s.heap 1 v = .ok (n, vs)) (hv : ∃ a k, v = .slice a n k) (hc : inBlk v c) : ∃ x, s.heap.get c = some x := by
  obtain ⟨o, m, k, rfl⟩ := hc
  obtain ⟨a, k', e⟩ := hv
  cases e
  obtain ⟨u, hu, _, _⟩ := src_parts h
  cases hg : s.heap.get c with
  | none => rw [hg] at hu; cases hu
  | some x => exact ⟨x, rfl⟩
/-- texts that lie apart from some blocks -/
structure Apart (s : St) (O : Nat → Prop) (v : Value) (ps : List Rec) : Prop where
  ex : ∃ vs, srcCells s.heap 1 v = .ok (ps.length, vs) ∧ (∃ a c, v = .slice a ps.length c) ∧ AllB s vs ps ∧ ∀ w ∈ vs, ∀ c, inBlk w c → ¬ O c
  off : ∀ c, inBlk v c → ¬ O c
theorem Apart.texts {s : St} {O : Nat → Prop} {v : Value} {ps : List Rec} (h : Apart s O v ps) : Texts s v ps := by
  obtain ⟨vs, h1, h2, h3, _⟩ := h.ex
  exact ⟨vs, h1, h2, h3⟩
theorem Apart.less {s : St} {O O' : Nat → Prop} {v : Value} {ps : List Rec} (h : Apart s O v ps) (hO : ∀ c, c < s.next → O' c → O c) (hwf : s.wf) : Apart s O' v ps := by
  obtain ⟨vs, h1, h2, h3, h4⟩ := h.ex
  refine ⟨⟨vs, h1, h2, h3, fun w hw c hc ho => ?_⟩, fun c hc ho => ?_⟩
  · obtain ⟨i, hi, rfl⟩ := List.getElem_of_mem hw
    obtain ⟨x, hx⟩ := bytes_lt hwf (h3.2 i vs[i] (ps[i]'(by rw [← h3.1]; exact hi)) (List.getElem?_eq_getElem hi) (List.getElem?_eq_getElem _)) hc
    exact h4 _ hw c hc (hO c (hwf _ _ hx) ho)
  · obtain ⟨x, hx⟩ := src_lt h1 h2 hc
    exact h.off c hc (hO c (hwf _ _ hx) ho)
theorem Apart.mv {s s' : St} {O O' : Nat → Prop} {v : Value} {ps : List Rec} (hwf : s.wf) (h : Apart s O v ps) (mv : Mv O O' s s') : Apart s' O' v ps := by
  obtain ⟨vs, h1, h2, h3, h4⟩ := h.ex
  refine ⟨⟨vs, src_mono (fun b x hb hx => mv.old b x (h.off b hb) hx) h1, h2, ⟨h3.1, fun i w l e1 e2 => (h3.2 i w l e1 e2).src fun b x hb hx => mv.old b x (h4 w (List.mem_of_getElem? e1) b hb) hx⟩, fun w hw c hc => ?_⟩, fun c hc => ?_⟩
  · obtain ⟨i, hi, rfl⟩ := List.getElem_of_mem hw
    obtain ⟨x, hx⟩ := bytes_lt hwf (h3.2 i vs[i] (ps[i]'(by rw [← h3.1]; exact hi)) (List.getElem?_eq_getElem hi) (List.getElem?_eq_getElem _)) hc
    exact mv.off hwf hx (h4 _ hw c hc)
  · obtain ⟨x, hx⟩ := src_lt h1 h2 hc
    exact mv.off hwf hx (h.off c hc)
theorem conv_bytesC {s : St} {v : Value} {l : List UInt8} (h : BytesB s v l) : pConvS Tryz.prog s.heap (.slice 5) v = .ok (.string ⟨⟨l⟩⟩) := by
  have hu : undT Tryz.prog 5 = .ok (.int .u8) := by rw [undT_eq, Tryz.underlying5]; rfl
  refine bytes_cases h (fun c hl hx => ?_) (fun b o c w e sz op fz hx hg hc => ?_) (fun b o c w e hx hg hc => ?_)
  · subst hl
    subst hx
    simp only [pConvS, hu, bind_ok]
    rfl
  · subst hx
    simp only [pConvS, hu, bind_ok, hg, hc, of_some]
    rfl
  · subst hx
    simp only [pConvS, hu, bind_ok, hg, hc, of_some]
    rfl
/-- what the first Open makes of a segment's bytes -/
def CAfter (B : List UInt8) (V V1 : Vw) (last by_ : Nat) : Prop :=
  (last = 3 ∧ by_ = B.length ∧ V1 = V ∧ (scanB B).2.2 = 0 ∧ B.length < 1000) ∨ (last = 4 ∧ by_ = 0 ∧ V1 = V.next preC 3 ∧ ¬ ((scanB B).2.2 = 0 ∧ B.length < 1000))
theorem copen_ev (hn : NoWO Sm) {s0 s : St} (h0 : s0.wf) (hT : P10At s0) {O : Nat → Prop} {b : Nat} {V : Vw} {t : Nat} {B : List UInt8} (hd : Dk s0 s O b 1048576 V t 2 2) (hV : V (segN preC 3) = some ⟨B, 0⟩) (hno : ∀ k, 0 < k → k < 1000000 → k ≠ 3 → V (segN preC k) = none)
    (h : ∀ lb rv s' O' t1 last by_ V1 c1 m1, Mv O O' s s' → s.next ≤ lb → Lg s0 s' O' lb b preC 1000 3 last by_ 0 1048576 V1 t1 m1 c1 → c1 ≤ 2 → t1 ≤ t → m1 + 1 = last → CAfter B V V1 last by_ → RecsO s' (fun c => O' c ∨ c = lb) rv (scanB B).1 → Q (.val (.tuple #[.pointer (some ⟨lb, 0, none⟩), rv, .int .i64 0]) s')) :
    Ev Tryz.prog Sm (.inv (.fn (.func 32) #[]) [.pointer (some ⟨b, 0, none⟩), .string ⟨⟨preC⟩⟩, .int .i64 1000] s) Q := by
  have hst : stV V preC 3 = (scanB B).2.2 := by unfold stV; rw [hV]
  have hln : lenV V preC 3 = B.length := by unfold lenV; rw [hV]
  have hrc : (List.range' 3 1).flatMap (recV V preC) = (scanB B).1 := by
    show recV V preC 3 ++ [] = _
    unfold recV
    rw [hV, List.append_nil]
  refine wopenC_ev (most := 1000) hn h0 hT hd (by decide) preC_ok (by decide) (a := 3) (cnt := 1) (en := 1) (by decide) (by decide) (by decide) (fun n n0 n6 => ?_) (Nat.le_refl _) (fun h => h) (fun k h1 h2 => by omega) (.inl rfl) (by decide) (fun _ h1 h2 lb rv s' O' V1 t1 m1 c1 hc1 mv hlb hl hg hb hro => ?_) fun h1 lb rv s' O' V1 t1 m1 mv hlb hl hg hb hro => ?_
  · by_cases e : n = 3
    · subst e
      rw [hV]
      exact ⟨fun _ => by decide, fun _ => by simp⟩
    · rw [hno n n0 n6 e]
      exact ⟨fun h => absurd rfl h, fun h => by omega⟩
  · obtain rfl := hg.all
    rw [hrc] at hro
    have h1 : stV V1 preC 3 = 0 := h1
    have h2 : lenV V1 preC 3 < 1000 := h2
    have hl : Lg s0 s' O' lb b preC 1000 3 3 (lenV V1 preC 3) 0 1048576 V1 t1 m1 c1 := hl
    rw [hst] at h1
    rw [hln] at h2 hl
    exact h lb rv s' O' t1 3 _ V1 c1 m1 mv hlb hl hc1 hb.1 (by omega) (.inl ⟨rfl, rfl, rfl, h1, h2⟩) hro
  · obtain rfl := hg.all
    rw [hrc] at hro
    have hl : Lg s0 s' O' lb b preC 1000 3 4 0 0 1048576 (V1.next preC 3) t1 (m1 + 1) 0 := hl
    have h1 : stV V1 preC 3 = 0 → 1000 ≤ lenV V1 preC 3 := h1 (by decide)
    rw [hst, hln] at h1
    exact h lb rv s' O' t1 4 0 _ 0 (m1 + 1) mv hlb hl (by decide) hb.1 (by omega) (.inr ⟨rfl, rfl, rfl, fun hx => by have := h1 hx.1; omega⟩) hro
theorem CAfter.top {B : List UInt8} {V V1 : Vw} {last by_ : Nat} (h : CAfter B V V1 last by_) (hV : V (segN preC 3) = some ⟨B, 0⟩) (hno : ∀ k, 0 < k → k < 1000000 → k ≠ 3 → V (segN preC k) = none) :
    ∃ x, V1 (segN preC last) = some x ∧ x.bytes = (if last = 3 then B else []) ∧ V1 (segN preC (last + 1)) = none ∧ by_ < 1000 ∧ (last = 3 ∨ last = 4) := by
  rcases h with ⟨rfl, rfl, rfl, _, hl⟩ | ⟨rfl, rfl, rfl, _⟩
  · exact ⟨_, hV, rfl, hno 4 (by decide) (by decide) (by decide), hl, .inl rfl⟩
  · refine ⟨_, Vw.next_new V preC 3, rfl, ?_, by decide, .inr rfl⟩
    rw [Vw.next_off V (seg_ne_seg (by decide) (by decide) (by decide)) (seg_ne_seg (by decide) (by decide) (by decide))]
    exact hno 5 (by decide) (by decide) (by decide)
/-- what the second Open tells -/
noncomputable def recsC (B more : List UInt8) : List Rec := if (scanB B).2.2 = 2 then (scanB B).1 else (scanB B).1 ++ [more]
def otherC : Nm := [111, 116, 104, 101, 114]
theorem otherC_good : GoodN otherC := ⟨by decide, by decide, by decide⟩
theorem seg_other (k : Nat) : segN preC k ≠ otherC := fun e => by
  have h := congrArg List.length e
  rw [segN_len] at h
  exact absurd h (by decide)
theorem frames_one (r : Rec) : frames [r] = frameB r := by
  show frameB r ++ frames [] = _
  rw [frames_nil, List.append_nil]
theorem copen2_ev (hn : NoWO Sm) {s0 s : St} (h0 : s0.wf) (hT : P10At s0) {O : Nat → Prop} {b : Nat} {V V1 V2 : Vw} {t m c last by_ : Nat} {B more : List UInt8} (hm : more.length ≤ 65536) (hc : c ≤ 90) (hm9 : m ≤ 990) (hd : Dk s0 s O b 1048576 V2 t m c) (hV : V (segN preC 3) = some ⟨B, 0⟩) (hno : ∀ k, 0 < k → k < 1000000 → k ≠ 3 → V (segN preC k) = none)
    (hA : CAfter B V V1 last by_) {x : DF} (hx : x.bytes = (if last = 3 then B else []) ++ frameB more) (h2l : V2 (segN preC last) = some x) (h2 : ∀ k, 0 < k → k < 1000000 → k ≠ last → V2 (segN preC k) = V1 (segN preC k))
    (h : ∀ lb rv s' O', Mv O O' s s' → RecsO s' (fun c => O' c ∨ c = lb) rv (recsC B more) → Q (.val (.tuple #[.pointer (some ⟨lb, 0, none⟩), rv, .int .i64 0]) s')) :
    Ev Tryz.prog Sm (.inv (.fn (.func 32) #[]) [.pointer (some ⟨b, 0, none⟩), .string ⟨⟨preC⟩⟩, .int .i64 1000] s) Q := by
  rcases hA with ⟨rfl, rfl, rfl, hs0, hl⟩ | ⟨rfl, rfl, rfl, hs0⟩
  · rw [if_pos rfl] at hx
    obtain ⟨i1, i2⟩ := scan_inv _ B (Nat.le_refl _)
    have i3 := i2 hs0
    have hsc : scanB x.bytes = scanB (frames ((scanB B).1 ++ [more])) := by
      rw [hx, frames_snoc, ← i3]
    have hfit : ∀ r ∈ (scanB B).1 ++ [more], r.length ≤ 65536 := fun r hr => (List.mem_append.1 hr).elim (i1 r) fun h => by obtain rfl := List.mem_singleton.1 h; exact hm
    have hrc : (List.range' 3 1).flatMap (recV V2 preC) = recsC B more := by
      show recV V2 preC 3 ++ [] = _
      unfold recV recsC
      rw [h2l, List.append_nil, if_neg (by rw [hs0]; decide)]
      show (scanB x.bytes).1 = _
      rw [hsc, scan_frames hfit]
    refine wopenC_ev (most := 1000) hn h0 hT hd hc preC_ok (by decide) (a := 3) (cnt := 1) (en := 1) (by decide) (by decide) (by decide) (fun n n0 n6 => ?_) (Nat.le_refl _) (fun h => h) (fun k h1 h2 => by omega) (.inl rfl) hm9 (fun _ h1 h2 lb rv s' O' V3 t1 m1 c1 hc1 mv hlb hl hg hb hro => h lb rv s' O' mv (by rw [hrc] at hro; exact hro)) fun h1 lb rv s' O' V3 t1 m1 mv hlb hl hg hb hro => h lb rv s' O' mv (by rw [hrc] at hro; exact hro)
    by_cases e : n = 3
    · subst e
      rw [h2l]
      exact ⟨fun _ => by decide, fun _ => by simp⟩
    · rw [h2 n n0 n6 e, hno n n0 n6 e]
      exact ⟨fun h => absurd rfl h, fun h => by omega⟩
  · rw [if_neg (by decide), List.nil_append] at hx
    have h3 : V2 (segN preC 3) = some ⟨B, B.length⟩ := by
      rw [h2 3 (by decide) (by decide) (by decide)]
      exact Vw.next_last (by decide) (by decide) hV
    have hr3 : recV V2 preC 3 = (scanB B).1 := by unfold recV; rw [h3]
    have hs3 : stV V2 preC 3 = (scanB B).2.2 := by unfold stV; rw [h3]
    have hr4 : recV V2 preC 4 = [more] := by
      unfold recV
      rw [h2l]
      show (scanB x.bytes).1 = _
      rw [hx, ← frames_one, scan_frames fun r hr => by obtain rfl := List.mem_singleton.1 hr; exact hm]
    have hsg : Segs V2 preC 3 2 := fun n n0 n6 => by
      by_cases e : n = 4
      · subst e
        rw [h2l]
        exact ⟨fun _ => by decide, fun _ => by simp⟩
      · by_cases e3 : n = 3
        · subst e3
          rw [h3]
          exact ⟨fun _ => by decide, fun _ => by simp⟩
        · rw [h2 n n0 n6 e, Vw.next_off V (seg_ne_seg n6 (by decide) e) (seg_ne_seg n6 (by decide) e3), hno n n0 n6 e3]
          exact ⟨fun h => absurd rfl h, fun h => by omega⟩
    by_cases hs2 : (scanB B).2.2 = 2
    · have hrc : (List.range' 3 1).flatMap (recV V2 preC) = recsC B more := by
        show recV V2 preC 3 ++ [] = _
        unfold recsC
        rw [hr3, List.append_nil, if_pos hs2]
      refine wopenC_ev (most := 1000) hn h0 hT hd hc preC_ok (by decide) (a := 3) (cnt := 2) (en := 1) (by decide) (by decide) (by decide) hsg (by decide) (fun h => by decide) (fun k h1 h2 => by omega) (.inr (hs3.trans hs2)) hm9 (fun _ h1 h2 lb rv s' O' V3 t1 m1 c1 hc1 mv hlb hl hg hb hro => h lb rv s' O' mv (by rw [hrc] at hro; exact hro)) fun h1 lb rv s' O' V3 t1 m1 mv hlb hl hg hb hro => h lb rv s' O' mv (by rw [hrc] at hro; exact hro)
    · have hrc : (List.range' 3 2).flatMap (recV V2 preC) = recsC B more := by
        show recV V2 preC 3 ++ (recV V2 preC 4 ++ []) = _
        unfold recsC
        rw [hr3, hr4, List.append_nil, if_neg hs2]
      refine wopenC_ev (most := 1000) hn h0 hT hd hc preC_ok (by decide) (a := 3) (cnt := 2) (en := 2) (by decide) (by decide) (by decide) hsg (by decide) (fun h => by decide) (fun k h1 h2 => by rw [show k = 3 by omega, hs3]; exact hs2) (.inl rfl) hm9 (fun _ h1 h2 lb rv s' O' V3 t1 m1 c1 hc1 mv hlb hl hg hb hro => h lb rv s' O' mv (by rw [hrc] at hro; exact hro)) fun h1 lb rv s' O' V3 t1 m1 mv hlb hl hg hb hro => h lb rv s' O' mv (by rw [hrc] at hro; exact hro)
attribute [local go_sem] Int.toNat_natCast
set_option maxRecDepth 20000 in
theorem walCorrupt_ev (hn : NoWO Sm) (hr : NoCRef Sm) (hF : Sm 10 = none) (hS : Sm 42 = none) {g : List Value → St → Rs (Value × St)} (hA : Sm 31 = some g) {s : St} (hg : ∀ s', Keep s s' → g [] s' = .ok (.bool true, s')) (hwf : s.wf) (hT : P10At s) {lv mv : Value} {ls : List Rec} {more : List UInt8} (hl : Texts s lv ls) (hm : BytesB s mv more) {at_ : Int} {by_ : Nat} (hby : by_ < 256) :
    Ev Tryz.prog Sm (.inv (.fn (.func 10) #[]) [lv, .int .i64 at_, .int .u8 (by_ : Int), mv] s) fun r => ∃ s', r = .val (.bool true) s' := by
  refine Ev.func hF Tryz.func10 rfl (m := 188) rfl ?_
  simp only [Array.toList_empty, List.append_nil, ofList_cons, ofList_nil]
  obtain ⟨vs, l1, ⟨la, lc, rfl⟩, l2⟩ := id hl
  obtain ⟨ma, mc, rfl⟩ := hm.1
  (try first | refine EvO.nx ?_ | refine EvA.nx ?_); repeat' (first | refine Abs.go ?_ | with_reducible refine Abs.fork (fun hb => ?_) (fun hb => ?_))
  refine Ev.summ hA (hg s (Keep.refl hwf)) ⟨_, _, rfl, ?_⟩
  by_cases hc : ls.length ≤ 20 ∧ more.length ≤ 1000
  · obtain ⟨c1, c2⟩ := hc
    (try first | refine EvO.nx ?_ | refine EvA.nx ?_); repeat' (first | refine Abs.go ?_ | with_reducible refine Abs.fork (fun hb => ?_) (fun hb => ?_))
    refine Ev.loop (fun k a' s' => ∃ T, ∃ i : Nat, ∃ bv, a' = ⟨T, 188, []⟩ ∧ T.get 0 = some (.slice la ls.length lc) ∧ T.get 1 = some (.int .i64 at_) ∧ T.get 2 = some (.int .u8 (by_ : Int)) ∧ T.get 3 = some (.slice ma more.length mc) ∧ T.get 9 = some bv ∧ T.get 10 = some (.int .i64 ((i : Nat) : Int)) ∧ i ≤ ls.length ∧ k = ls.length - i ∧ Keep s s' ∧ TxtB s' s.next bv (frames (ls.take i)) ∧ (frames (ls.take i)).length ≤ 308 * i) (k := ls.length)
      ⟨_, 0, .slice none 0 0, rfl, ?g0, ?g1, ?g2, ?g3, ?g9, ?g10, Nat.zero_le _, rfl, Keep.refl hwf, .nil, Nat.zero_le _⟩ ?_
    case g0 => simp (disch := first | omega | assumption) only [go_sem, ]
    case g1 => simp (disch := first | omega | assumption) only [go_sem, ]
    case g2 => simp (disch := first | omega | assumption) only [go_sem, ]
    case g3 => simp (disch := first | omega | assumption) only [go_sem, ]
    case g9 => simp (disch := first | omega | assumption) only [go_sem, ]
    case g10 => simp (disch := first | omega | assumption) only [go_sem, ]; try rfl
    rintro k a' s1 ⟨T, i, bv, rfl, g0, g1, g2, g3, g9, g10, hi, rfl, k1, tx1, hlen⟩
    by_cases hil : i < ls.length
    · obtain ⟨xb, xo, xc', w, e, hw, hvl, hat⟩ := list_at l1 ⟨_, _, rfl⟩ (by omega)
      cases e
      have hx := hat i (by omega)
      have hxB := l2.2 i vs[i] ls[i] (List.getElem?_eq_getElem (by omega)) (List.getElem?_eq_getElem hil)
      have htk : ls.take (i + 1) = ls.take i ++ [ls[i]] := (List.take_append_getElem hil).symm
      have hw1 := keep_obj k1.old hw
      generalize vs[i] = x at *
      generalize ls[i] = r at *
      obtain ⟨ya, yc, rfl⟩ := hxB.1
      obtain ⟨ba, bc, rfl⟩ := tx1.bytes.1
      clear hat hvl
      by_cases h300 : 300 < r.length
      · (try first | refine EvO.nx ?_ | refine EvA.nx ?_); repeat' (first | refine Abs.goH (Abs.cc g0 (Abs.cc g1 (Abs.cc g2 (Abs.cc g3 (Abs.cc g9 (Abs.cc g10 (Abs.cc hw1 (hx)))))))) ?_ | with_reducible refine Abs.fork (fun hb => ?_) (fun hb => ?_))
        all_goals exact ⟨_, rfl⟩
      · (try first | refine EvO.nx ?_ | refine EvA.nx ?_); repeat' (first | refine Abs.goH (Abs.cc g0 (Abs.cc g1 (Abs.cc g2 (Abs.cc g3 (Abs.cc g9 (Abs.cc g10 (Abs.cc hw1 (hx)))))))) ?_ | with_reducible refine Abs.fork (fun hb => ?_) (fun hb => ?_))
        refine rframe_ev hr k1.wf (hxB.mono k1.old) (by omega) fun fv s2 k2 o2 => ⟨_, _, rfl, ?_⟩
        have hfl := frameB_len r
        have hfs : frames (ls.take (i + 1)) = frames (ls.take i) ++ frameB r := by rw [htk, frames_snoc]
        generalize frameB r = FB at *
        have hFne : FB ≠ [] := by intro e; rw [e, List.length_nil] at hfl; omega
        obtain ⟨_, fa, fc, rfl⟩ := o2.vec.src
        have tx2 := tx1.mono k2.old (Nat.le_refl _)
        generalize frames (ls.take i) = L at *
        (try first | refine EvO.nx ?_ | refine EvA.nx ?_); repeat' (first | refine Abs.goH (Abs.cc g0 (Abs.cc g1 (Abs.cc g2 (Abs.cc g3 (Abs.cc g9 (g10)))))) ?_ | with_reducible refine Abs.fork (fun hb => ?_) (fun hb => ?_))
        refine EvO.appendO (l := L) (m := FB) k2.wf tx2.buf ((appSrc_slice Tryz.underlying28).trans o2.vec.src.1) hFne (by omega) fun s3 q1 q2 q3 q4 => ?_
        have k3 : Keep s s3 := (k1.trans k2).append q2 q3 q4 hwf fun b hb => tx2.owned hb
        (try first | refine EvO.nx ?_ | refine EvA.nx ?_); repeat' (first | refine Abs.goH (Abs.cc g0 (Abs.cc g1 (Abs.cc g2 (Abs.cc g3 (Abs.cc g9 (g10)))))) ?_ | with_reducible refine Abs.fork (fun hb => ?_) (fun hb => ?_))
        refine ⟨ls.length - (i + 1), by omega, _, i + 1, .slice (some ⟨s2.next, 0, none⟩) (L ++ FB).length open_, rfl, ?_, ?_, ?_, ?_, ?_, ?_, by omega, rfl, k3, by rw [hfs]; exact .own q1 (fun e => hFne (List.append_eq_nil_iff.1 e).2) (k1.trans k2).next, by rw [hfs, List.length_append]; omega⟩
        · simp (disch := first | omega | assumption) only [go_sem, g0]
        · simp (disch := first | omega | assumption) only [go_sem, g1]
        · simp (disch := first | omega | assumption) only [go_sem, g2]
        · simp (disch := first | omega | assumption) only [go_sem, g3]
        · simp (disch := first | omega | assumption) only [go_sem, ]
        · simp (disch := first | omega | assumption) only [go_sem, Int.natCast_add, Int.natCast_one]
    · obtain rfl : i = ls.length := by omega
      generalize frames (ls.take ls.length) = L at *
      clear l1 l2 hl hil
      refine Ev.seq ?_
      (try first | refine EvO.nx ?_ | refine EvA.nx ?_); repeat' (first | refine Abs.go1H (Abs.cc g0 (Abs.cc g1 (Abs.cc g2 (Abs.cc g3 (Abs.cc g9 (g10)))))) ?_ | with_reducible refine Abs.fork (fun hb => ?_) (fun hb => ?_))
      refine Ev.seq ?_
      (try first | refine EvO.nx ?_ | refine EvA.nx ?_); repeat' (first | refine Abs.go1H (Abs.cc g0 (Abs.cc g1 (Abs.cc g2 (Abs.cc g3 (Abs.cc g9 (g10)))))) ?_ | with_reducible refine Abs.fork (fun hb => ?_) (fun hb => ?_))
      refine Ev.forget (fun T => T.get 1 = some (.int .i64 at_) ∧ T.get 2 = some (.int .u8 (by_ : Int)) ∧ T.get 3 = some (.slice ma more.length mc) ∧ T.get 9 = some bv) ⟨by simp (disch := first | omega | assumption) only [go_sem, g1], by simp (disch := first | omega | assumption) only [go_sem, g2], by simp (disch := first | omega | assumption) only [go_sem, g3], by simp (disch := first | omega | assumption) only [go_sem, g9]⟩ ?_
      clear g0 g1 g2 g3 g9 g10 T
      rintro T ⟨g1, g2, g3, g9⟩
      refine Ev.seq ?_
      refine Ev.mono (R := fun r => ∃ T s4 B, r = .at .normal ⟨T, 188, []⟩ s4 ∧ T.get 3 = some (.slice ma more.length mc) ∧ T.get 9 = some bv ∧ Keep s s4 ∧ TxtB s4 s.next bv B ∧ B.length = L.length) ?_ ?_
      · by_cases hat : 0 ≤ at_ ∧ at_ < L.length
        · cases tx1 with
          | nil => exact absurd hat.2 (by simp; omega)
          | zero _ => exact absurd hat.2 (by simp; omega)
          | @own bb _ hbb hne hlo =>
            obtain ⟨x, hx⟩ : ∃ x, L[at_.toNat]? = some x := ⟨L[at_.toNat]'(by omega), List.getElem?_eq_getElem _⟩
            have hx2 : (byteCells L)[at_.toNat]? = some (.int .u8 ((x.toNat : Nat) : Int)) := by
              rw [byteCells_eq, List.getElem?_map, hx]
              rfl
            have hx3 : x.toNat < 256 := x.toNat_lt
            have hbl2 := byteCells_len L
            (try first | refine EvO.nx ?_ | refine EvA.nx ?_); repeat' (first | refine Abs.goH (Abs.cc g1 (Abs.cc g2 (Abs.cc g3 (Abs.cc g9 (Abs.cc hbb (Abs.cc hx2 (hbl2))))))) ?_ | with_reducible refine Abs.fork (fun hb => ?_) (fun hb => ?_))
            have hy : (UInt8.ofNat (x.toNat ^^^ by_)).toNat = x.toNat ^^^ by_ := by
              have := Nat.xor_lt_two_pow (n := 8) hx3 hby
              rw [UInt8.toNat_ofNat']
              exact Nat.mod_eq_of_lt this
            refine ⟨_, _, L.set at_.toNat (UInt8.ofNat (x.toNat ^^^ by_)), rfl, by simp (disch := first | omega | assumption) only [go_sem, g3], by simp (disch := first | omega | assumption) only [go_sem, g9], k1.set hlo (k1.wf _ _ hbb) hwf _, ?_, by simp⟩
            have hls : (L.set at_.toNat (UInt8.ofNat (x.toNat ^^^ by_))).length = L.length := by simp
            rw [← hls]
            refine .own ?_ (fun e => hne (by simpa using e)) hlo
            show (s1.heap.set bb _).get bb = _
            rw [get_same]
            simp only [byteCells_eq, List.map_set, hy]
            rfl
        · obtain ⟨ba, bc, rfl⟩ := tx1.bytes.1
          (try first | refine EvO.nx ?_ | refine EvA.nx ?_); repeat' (first | refine Abs.goH (Abs.cc g1 (Abs.cc g2 (Abs.cc g3 (g9)))) ?_ | with_reducible refine Abs.fork (fun hb => ?_) (fun hb => ?_))
          all_goals exact ⟨_, s1, L, rfl, by simp (disch := first | omega | assumption) only [go_sem, g3], by simp (disch := first | omega | assumption) only [go_sem, g9], k1, tx1, rfl⟩
      · rintro r ⟨T, s4, B, rfl, g3, g9, k4, tx4, hBl⟩
        have hBl : B.length ≤ 6160 := by omega
        clear g1 g2 tx1 k1 hlen hi
        refine Seq.go ?_
        have hwf4 := k4.wf
        have hT4 := hT.old k4
        have hdi := hn.wl.wn.disk
        obtain ⟨ba, bc, rfl⟩ := tx4.bytes.1
        (try first | refine EvO.nx ?_ | refine EvA.nx ?_); repeat' (first | refine Abs.goH (Abs.cc g3 (g9)) ?_ | with_reducible refine Abs.fork (fun hb => ?_) (fun hb => ?_))
        refine vnew_ev hdi hwf4 (by decide) fun s5 O5 b dk5 => ⟨_, _, rfl, ?_⟩
        (try first | refine EvO.nx ?_ | refine EvA.nx ?_); repeat' (first | refine Abs.goH (Abs.cc g3 (g9)) ?_ | with_reducible refine Abs.fork (fun hb => ?_) (fun hb => ?_))
        refine vcreate_ev hdi hwf4 dk5 (by decide) (by decide) (nm := segN preC 3) (good_seg preC_ok.len preC_ok.let_ 3) rfl fun s6 O6 mv6 dk6 => ⟨_, _, rfl, ?_⟩
        (try first | refine EvO.nx ?_ | refine EvA.nx ?_); repeat' (first | refine Abs.goH (Abs.cc g3 (g9)) ?_ | with_reducible refine Abs.fork (fun hb => ?_) (fun hb => ?_))
        refine vappend_ev hdi hwf4 dk6 (by decide) (nm := segN preC 3) (Vw.at _ _ _) (tx4.bytes.mono dk6.keep.old) (fun c hc ho => by
          obtain ⟨z, hz⟩ := bytes_lt hwf4 tx4.bytes hc
          have := hwf4 _ _ hz
          have := dk6.ge ho
          omega) (by simp only [List.length_nil]; omega) (fun hlt => absurd hlt (by omega)) fun hle s7 O7 mv7 dk7 => ⟨_, _, rfl, ?_⟩
        (try first | refine EvO.nx ?_ | refine EvA.nx ?_); repeat' (first | refine Abs.goH (Abs.cc g3 (g9)) ?_ | with_reducible refine Abs.fork (fun hb => ?_) (fun hb => ?_))
        refine vcreate_ev hdi hwf4 dk7 (by decide) (by decide) (nm := otherC) otherC_good (by rw [Vw.off _ _ (Ne.symm (seg_other 3)), Vw.off _ _ (Ne.symm (seg_other 3))]) fun s8 O8 mv8 dk8 => ⟨_, _, rfl, ?_⟩
        obtain ⟨V8, hV8⟩ : ∃ V8 : Vw, V8 = Vw.set (Vw.set (Vw.set (fun _ => none) (segN preC 3) (some ⟨[], 0⟩)) (segN preC 3) (some ⟨[] ++ B, 0⟩)) otherC (some ⟨[], 0⟩) := ⟨_, rfl⟩
        have hv3 : V8 (segN preC 3) = some ⟨B, 0⟩ := by
          rw [hV8, Vw.off _ _ (seg_other 3), Vw.at]
          rfl
        have hno : ∀ k, 0 < k → k < 1000000 → k ≠ 3 → V8 (segN preC k) = none := fun k k0 k6 hk => by
          rw [hV8, Vw.off _ _ (seg_other k), Vw.off _ _ (seg_ne_seg k6 (by decide) hk), Vw.off _ _ (seg_ne_seg k6 (by decide) hk)]
        have dk8 : Dk s4 s8 O8 b 1048576 V8 (0 + B.length) 2 2 := hV8 ▸ dk8
        clear mv6 mv7 mv8 dk5 dk6 dk7 hle
        clear hV8
        (try first | refine EvO.nx ?_ | refine EvA.nx ?_); repeat' (first | refine Abs.goH (Abs.cc g3 (g9)) ?_ | with_reducible refine Abs.fork (fun hb => ?_) (fun hb => ?_))
        refine rscan_ev hr dk8.keep.wf (tx4.mono dk8.keep.old (Nat.le_refl _)) (by omega) fun pv s9 vs9 k9 vec9 lo9 all9 => ⟨_, _, rfl, ?_⟩
        have dk9 := dk8.old k9
        have hfew := scan_few _ B (Nat.le_refl _)
        have hap9 : Apart s9 O8 pv (scanB B).1 := by
          refine ⟨⟨vs9, vec9.src.1, vec9.src.2, ⟨all9.1, fun i v l e1 e2 => (all9.2 i v l e1 e2).bytes⟩, fun w hw c hc ho => ?_⟩, fun c hc ho => by have := lo9 c hc; have := dk8.lt ho; omega⟩
          obtain ⟨i, hi, rfl⟩ := List.getElem_of_mem hw
          have tx := all9.2 i vs9[i] ((scanB B).1[i]'(by rw [← all9.1]; exact hi)) (List.getElem?_eq_getElem hi) (List.getElem?_eq_getElem _)
          generalize vs9[i] = y at *
          generalize (scanB B).1[i]'(by rw [← all9.1]; exact hi) = z at tx
          cases tx with
          | nil => obtain ⟨_, _, _, e⟩ := hc; cases e
          | zero hz =>
            obtain ⟨_, _, _, e⟩ := hc
            cases e
            obtain ⟨y, h1, h2⟩ := dk9.own _ ho
            rw [hz] at h1
            exact h2 (Option.some.inj h1).symm
          | own hz hne hlo =>
            obtain ⟨_, _, _, e⟩ := hc
            cases e
            have := dk8.lt ho
            omega
        obtain ⟨pa, pc, rfl⟩ := vec9.src.2
        clear vec9 lo9 all9
        (try first | refine EvO.nx ?_ | refine EvA.nx ?_); repeat' (first | refine Abs.goH (Abs.cc g3 (g9)) ?_ | with_reducible refine Abs.fork (fun hb => ?_) (fun hb => ?_))
        refine copen_ev hn hwf4 hT4 dk9 hv3 hno fun lb rv s10 O10 t1 last by1 V1 c1 m1 mv10 hlb hl10 hc1 ht1 hm1 hca hro10 => ⟨_, _, rfl, ?_⟩
        have hap9' : Apart s9 (fun c => O8 c ∨ c = lb) (.slice pa (scanB B).1.length pc) (scanB B).1 := hap9.less (fun c hc ho => ho.elim id fun e => by omega) dk9.keep.wf
        have hap10 := hap9'.mv dk9.keep.wf (Mw.of mv10)
        obtain ⟨x, hx1, hx2, hx3, hx4, hx5⟩ := hca.top hv3 hno
        have hwf10 := hl10.dk.keep.wf
        obtain ⟨_, ra, rc, rfl⟩ := hro10.ex.choose_spec.1.src
        clear hap9 hap9' mv10 dk8 dk9
        (try first | refine EvO.nx ?_ | refine EvA.nx ?_); repeat' (first | refine Abs.goH (Abs.cc g3 (g9)) ?_ | with_reducible refine Abs.fork (fun hb => ?_) (fun hb => ?_))
        refine wsame_ev hS hro10.texts hap10.texts (List.prefix_refl _) (by omega) ⟨_, _, rfl, ?_⟩
        (try first | refine EvO.nx ?_ | refine EvA.nx ?_); repeat' (first | refine Abs.go1H (Abs.cc g3 (g9)) ?_ | with_reducible refine Abs.fork (fun hb => ?_) (fun hb => ?_))
        refine Ev.forget (fun T => T.get 3 = some (.slice ma more.length mc) ∧ T.get 9 = some (.slice ba B.length bc) ∧ T.get 11 = some (.pointer (some ⟨b, 0, none⟩)) ∧ T.get 13 = some (.slice pa (scanB B).1.length pc) ∧ T.get 15 = some (.int .i64 (((scanB B).2.2 : Nat) : Int)) ∧ T.get 16 = some (.pointer (some ⟨lb, 0, none⟩))) ⟨by simp (disch := first | omega | assumption) only [go_sem, g3], by simp (disch := first | omega | assumption) only [go_sem, g9], by simp (disch := first | omega | assumption) only [go_sem, ], by simp (disch := first | omega | assumption) only [go_sem, ], by simp (disch := first | omega | assumption) only [go_sem, ], by simp (disch := first | omega | assumption) only [go_sem, ]⟩ ?_
        clear g3 g9 T
        rintro T ⟨g3, g9, g11, g13, g15, g16⟩
        refine Ev.seq ?_
        refine Ev.mono (R := fun r => ∃ T s11, r = .at .normal ⟨T, 188, []⟩ s11 ∧ T.get 3 = some (.slice ma more.length mc) ∧ T.get 11 = some (.pointer (some ⟨b, 0, none⟩)) ∧ T.get 13 = some (.slice pa (scanB B).1.length pc) ∧ T.get 15 = some (.int .i64 (((scanB B).2.2 : Nat) : Int)) ∧ T.get 16 = some (.pointer (some ⟨lb, 0, none⟩)) ∧ Keep s10 s11) ?_ ?_
        · have key : (last = 3 ∧ (scanB B).2.2 = 0 ∧ B.length < 1000) ∨ (last = 4 ∧ (scanB B).2.2 = 0 ∧ ¬ B.length < 1000) ∨ (last = 4 ∧ (scanB B).2.2 ≠ 0) := by
            rcases hca with ⟨e, _, _, e1, e2⟩ | ⟨e, _, _, e1⟩
            · exact .inl ⟨e, e1, e2⟩
            · by_cases e2 : (scanB B).2.2 = 0
              · exact .inr (.inl ⟨e, e2, fun e3 => e1 ⟨e2, e3⟩⟩)
              · exact .inr (.inr ⟨e, e2⟩)
          generalize (scanB B).2.2 = st at *
          rcases key with ⟨e0, e1, e2⟩ | ⟨e0, e1, e2⟩ | ⟨e0, e1⟩
          case' inl =>
            have d1 : decide ((last : Int) = 3) = true := decide_eq_true (by omega)
            have d2 : decide ((st : Int) = 0) = true := decide_eq_true (by omega)
            have d3 : decide ((B.length : Int) < 1000) = true := decide_eq_true (by omega)
          case' inr.inl =>
            have d1 : decide ((last : Int) = 3) = false := decide_eq_false (by omega)
            have d2 : decide ((st : Int) = 0) = true := decide_eq_true (by omega)
            have d3 : decide ((B.length : Int) < 1000) = false := decide_eq_false (by omega)
          case' inr.inr =>
            have d1 : decide ((last : Int) = 3) = false := decide_eq_false (by omega)
            have d2 : decide ((st : Int) = 0) = false := decide_eq_false (by omega)
            have d3 : True := trivial
          all_goals (
            (try first | refine EvO.nx ?_ | refine EvA.nx ?_); repeat' (first | refine Abs.goH (Abs.cc g3 (Abs.cc g9 (Abs.cc g11 (Abs.cc g13 (Abs.cc g15 (g16)))))) ?_ | with_reducible refine Abs.fork (fun hb => ?_) (fun hb => ?_))
            refine wlast_ev hn.wl hl10.at_ ⟨_, _, rfl, ?_⟩
            (try first | refine EvO.nx ?_ | refine EvA.nx ?_); repeat' (first | refine Abs.goH (Abs.cc g3 (Abs.cc g9 (Abs.cc g11 (Abs.cc g13 (Abs.cc g15 (Abs.cc g16 (Abs.cc d1 (Abs.cc d2 (d3))))))))) ?_ | with_reducible refine Abs.fork (fun hb => ?_) (fun hb => ?_))
            refine wfirst_ev hn.wl hl10.at_ ⟨_, _, rfl, ?_⟩
            (try first | refine EvO.nx ?_ | refine EvA.nx ?_); repeat' (first | refine Abs.goH (Abs.cc g3 (Abs.cc g9 (Abs.cc g11 (Abs.cc g13 (Abs.cc g15 (g16)))))) ?_ | with_reducible refine Abs.fork (fun hb => ?_) (fun hb => ?_))
            refine vlist_ev hdi hl10.dk fun ks lv s11 hso hkl hk64 k11 lv11 llo => ⟨_, _, rfl, ?_⟩
            obtain ⟨_, ia, ic, rfl⟩ := lv11.src
            (try first | refine EvO.nx ?_ | refine EvA.nx ?_); repeat' (first | refine Abs.goH (Abs.cc g3 (Abs.cc g9 (Abs.cc g11 (Abs.cc g13 (Abs.cc g15 (g16)))))) ?_ | with_reducible refine Abs.fork (fun hb => ?_) (fun hb => ?_))
            refine wlast_ev hn.wl (hl10.at_.old k11) ⟨_, _, rfl, ?_⟩
            (try first | refine EvO.nx ?_ | refine EvA.nx ?_); repeat' (first | refine Abs.goH (Abs.cc g3 (Abs.cc g9 (Abs.cc g11 (Abs.cc g13 (Abs.cc g15 (g16)))))) ?_ | with_reducible refine Abs.fork (fun hb => ?_) (fun hb => ?_))
            exact ⟨_, s11, rfl, by simp (disch := first | omega | assumption) only [go_sem, g3], by simp (disch := first | omega | assumption) only [go_sem, g11], by simp (disch := first | omega | assumption) only [go_sem, g13], by simp (disch := first | omega | assumption) only [go_sem, g15], by simp (disch := first | omega | assumption) only [go_sem, g16], k11⟩)
        · rintro r ⟨T, s11, rfl, g3, g11, g13, g15, g16, k11⟩
          refine Seq.go ?_
          have hl11 := hl10.old k11
          have hap11 := hap10.mv hwf10 (Mv.ofKeep k11)
          have hxl : x.bytes.length ≤ 6160 := by
            rw [hx2]
            split
            · exact hBl
            · exact Nat.zero_le _
          have hmk : ∀ {s' : St}, Keep s4 s' → BytesB s' (.slice ma more.length mc) more := fun k => hm.mono (k4.trans k).old
          (try first | refine EvO.nx ?_ | refine EvA.nx ?_); repeat' (first | refine Abs.goH (Abs.cc g3 (Abs.cc g11 (Abs.cc g13 (Abs.cc g15 (g16))))) ?_ | with_reducible refine Abs.fork (fun hb => ?_) (fun hb => ?_))
          refine wappend_ev hn.wl hwf4 hT4 hl11 (by omega) preC_ok (by decide) ⟨by omega, by omega⟩ (by omega) (by decide) hx1 (by omega) hx3 (hmk hl11.dk.keep) (by omega) (by omega) (by decide) (fun _ hlt => absurd hlt (by omega)) (fun hb hle s12 O12 mw12 hl12 => ⟨_, _, rfl, ?_⟩) (fun hb => absurd hb (by omega)) (fun hb => absurd hb (by omega))
          have hap12 := hap11.mv hl11.dk.keep.wf mw12
          (try first | refine EvO.nx ?_ | refine EvA.nx ?_); repeat' (first | refine Abs.goH (Abs.cc g3 (Abs.cc g11 (Abs.cc g13 (Abs.cc g15 (g16))))) ?_ | with_reducible refine Abs.fork (fun hb => ?_) (fun hb => ?_))
          refine wsync_ev hn.wl hwf4 hT4 hl12 preC_ok (by omega) (Vw.at _ _ _) fun s13 O13 mw13 hl13 => ⟨_, _, rfl, ?_⟩
          have hap13 := hap12.mv hl12.dk.keep.wf mw13
          (try first | refine EvO.nx ?_ | refine EvA.nx ?_); repeat' (first | refine Abs.goH (Abs.cc g3 (Abs.cc g11 (Abs.cc g13 (Abs.cc g15 (g16))))) ?_ | with_reducible refine Abs.fork (fun hb => ?_) (fun hb => ?_))
          refine copen2_ev (more := more) hn hwf4 hT4 (by omega) (by omega) (by omega) hl13.dk hv3 hno hca (x := ⟨x.bytes ++ frameB more, (x.bytes ++ frameB more).length⟩) (by rw [hx2]) (Vw.at _ _ _) (fun k k0 k6 hne => by rw [Vw.off _ _ (seg_ne_seg k6 (by omega) hne), Vw.off _ _ (seg_ne_seg k6 (by omega) hne)]) fun lb2 rv2 s14 O14 mv14 hro14 => ⟨_, _, rfl, ?_⟩
          have hap14 := (hap13.less (fun c _ ho => .inl ho) hl13.dk.keep.wf).mv hl13.dk.keep.wf mv14
          have k14 : Keep s4 s14 := mv14.keep hl13.dk.keep (fun c hc => hl13.dk.ge hc) hwf4
          have hm14 := hmk k14
          clear hap10 hap11 hap12 hap13 mv14 mw12 mw13 hl12 hl13 hl11 hl10 hmk
          by_cases hs2 : (scanB B).2.2 = 2
          · have hrcs : recsC B more = (scanB B).1 := by unfold recsC; rw [if_pos hs2]
            rw [hrcs] at hro14
            obtain ⟨_, ra2, rc2, rfl⟩ := hro14.ex.choose_spec.1.src
            (try first | refine EvO.nx ?_ | refine EvA.nx ?_); repeat' (first | refine Abs.goH (Abs.cc g3 (Abs.cc g11 (Abs.cc g13 (Abs.cc g15 (g16))))) ?_ | with_reducible refine Abs.fork (fun hb => ?_) (fun hb => ?_))
            exact ⟨_, rfl⟩
          · have hrcs : recsC B more = (scanB B).1 ++ [more] := by unfold recsC; rw [if_neg hs2]
            rw [hrcs] at hro14
            clear hrcs hca hx2
            generalize (scanB B).2.2 = st at *
            generalize (scanB B).1 = ps at *
            have hpl : (ps ++ [more]).length = ps.length + 1 := by rw [List.length_append]; rfl
            obtain ⟨vs14, vec14, all14, _⟩ := hro14.ex
            obtain ⟨hsrc14, ra2, rc2, rfl⟩ := vec14.src
            obtain ⟨zb, zo, zc, zw, e, hzw, hzl, hzat⟩ := list_at hsrc14 ⟨_, _, rfl⟩ (by omega)
            cases e
            have hz := hzat ps.length (by omega)
            have hzB := all14.2 ps.length vs14[ps.length] more (List.getElem?_eq_getElem (by omega)) (by simp)
            generalize vs14[ps.length] = y at *
            have cv1 := conv_bytesC hzB
            have cv2 := conv_bytesC hm14
            obtain ⟨ya, yc, rfl⟩ := hzB.1
            simp (disch := first | omega | assumption) only [go_sem] at cv1 cv2
            have hre := hro14.texts
            have hpr : ps <+: ps ++ [more] := List.prefix_append _ _
            generalize ps ++ [more] = rs at *
            rw [hpl] at hre
            have hdl : decide (((ps.length + 1 : Nat) : Int) = (ps.length : Int) + 1) = true := decide_eq_true (by omega)
            (try first | refine EvO.nx ?_ | refine EvA.nx ?_); repeat' (first | refine Abs.goH (Abs.cc g3 (Abs.cc g11 (Abs.cc g13 (Abs.cc g15 (Abs.cc g16 (hpl)))))) ?_ | with_reducible refine Abs.fork (fun hb => ?_) (fun hb => ?_))
            refine Abs.Ev.regionD (n := 0) (l := [.go 0, .go 1, .go 2, .go 3, .go 4, .go 5, .go 6, .go 7, .go 8, .go 9, .go 10, .go 11, .go 12, .go 13, .go 14, .go 15, .go 16, .go 17, .go 18, .go 19, .go 20, .go 21, .go 22, .go 23, .go 24, .go 25, .go 26]) (by kernel_rfl) ?_
            (try first | refine EvO.nx ?_ | refine EvA.nx ?_); repeat' (first | refine Abs.goH (Abs.cc g3 (Abs.cc g11 (Abs.cc g13 (Abs.cc g15 (Abs.cc g16 (Abs.cc hpl (not_true_eq_false))))))) ?_ | with_reducible refine Abs.fork (fun hb => ?_) (fun hb => ?_))
            apply Abs.Ev.goCallY rfl rfl rfl
            · simp (disch := omega) only [go_sem, ne_eq, not_true_eq_false, decide_false, decide_true, hdl]
            (try first | refine EvO.nx ?_ | refine EvA.nx ?_); repeat' (first | refine Abs.go ?_ | with_reducible refine Abs.fork (fun hb => ?_) (fun hb => ?_))
            refine wsame_ev hS hap14.texts hre hpr (by omega) ⟨_, _, rfl, ?_⟩
            (try first | refine EvO.nx ?_ | refine EvA.nx ?_); repeat' (first | refine Abs.goH (Abs.cc g3 (Abs.cc g11 (Abs.cc g13 (Abs.cc g15 (Abs.cc g16 (Abs.cc hpl (Abs.cc hzw (Abs.cc hz (Abs.cc cv1 (Abs.cc cv2 (Abs.cc hdl (not_true_eq_false)))))))))))) ?_ | with_reducible refine Abs.fork (fun hb => ?_) (fun hb => ?_))
            exact ⟨_, rfl⟩
  · (try first | refine EvO.nx ?_ | refine EvA.nx ?_); repeat' (first | refine Abs.go ?_ | with_reducible refine Abs.fork (fun hb => ?_) (fun hb => ?_))
    all_goals exact ⟨_, rfl⟩
end
end Go.Proofs.YtbakhdgiimjnkaaGreatDoor
