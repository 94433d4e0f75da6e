/-
  The law WalTwo at the evaluator: it says true.
-/
import Derived.Test.YtbakhdgiimjnkaaGreatDoorWlC
import Derived.Test.YtbakhdgiimjnkaaGreatDoorGoV
import Derived.Test.YtbakhdgiimjnkaaGreatDoorEvSet
set_option linter.unusedVariables false
set_option linter.unusedSimpArgs false
namespace Go.Proofs.YtbakhdgiimjnkaaGreatDoor
open Abs
set_option maxHeartbeats 16000000
set_option maxRecDepth 20000
set_option linter.unusedSimpArgs false
attribute [local irreducible] Abs.Ev Abs.EvF Abs.EvO Abs.EvA Abs.Seq Abs.Blk Abs.Body Abs.Scp Abs.EvG Abs.EvAg Abs.Nx
attribute [local go_sem] Tryz.underlying3 Ty.sz3 Ty.by3 Ty.ag3 Ty.ze3 Tryz.underlying4 Ty.sz4 Ty.by4 Ty.ag4 Ty.ze4 Tryz.underlying5 Ty.sz5 Ty.by5 Ty.ag5 Ty.ze5 Tryz.underlying9 Ty.sz9 Ty.by9 Ty.ag9 Ty.ze9 Tryz.underlying28 Ty.sz28 Ty.by28 Ty.ag28 Ty.ze28 Tryz.underlying59 Ty.sz59 Ty.by59 Ty.ag59 Ty.ze59 Tryz.underlying96 Ty.sz96 Ty.by96 Ty.ag96 Ty.ze96 Tryz.underlying117 Ty.sz117 Ty.by117 Ty.ag117 Ty.ze117
section
variable {Sm : Summ} {Q : Ans → Prop}
def preA : Nm := [97, 45]
def preB : Nm := [98, 45]
theorem preA_ok : PreOk preA := ⟨by decide, by decide, by decide⟩
theorem preB_ok : PreOk preB := ⟨by decide, by decide, by decide⟩
theorem pre_ne {p p' : Nm} (hl : p.length = p'.length) (hne : p ≠ p') (i j : Nat) : segN p i ≠ segN p' j := fun h => hne (List.append_inj h hl).1
theorem Lt.cong {V V' : Vw} {p : Nm} {a last : Nat} {R : Nat → List Rec} {j : Nat} (h : Lt V p a last R j) (hV : ∀ k, V' (segN p k) = V (segN p k)) : Lt V' p a last R j :=
  ⟨h.a1, h.le, h.jle, fun k k0 k6 => by rw [hV]; exact h.segs k k0 k6, fun k h1 h2 => by rw [hV]; exact h.all k h1 h2⟩
theorem Lw.cong {V V' : Vw} {p : Nm} {a last by_ : Nat} {R : Nat → List Rec} {j : Nat} (h : Lw V p a last by_ R j) (hV : ∀ k, V' (segN p k) = V (segN p k)) : Lw V' p a last by_ R j :=
  ⟨h.lt.cong hV, by rw [hV]; exact h.top, h.len, h.fit⟩
theorem OffP.seg {V V' : Vw} {p p' : Nm} (h : OffP V V' p) (hl : p'.length = p.length) (hne : p' ≠ p) (k : Nat) : V' (segN p' k) = V (segN p' k) := h _ fun i => pre_ne hl hne k i
theorem Lg.other {s0 s s' : St} {O O' : Nat → Prop} {lx ly b : Nat} {p : Nm} {most first last by_ rec : Nat} {q q' : Int} {V V' : Vw} {t t' n n' c c' : Nat} (h : Lg s0 s O ly b p most first last by_ rec q V t n c) (hne : ly ≠ lx) (mw : Mw lx O O' s s') (hd : Dk s0 s' O' b q' V' t' n' c') : Lg s0 s' O' ly b p most first last by_ rec q' V' t' n' c' :=
  have h1 : ¬ (O ly ∨ ly = lx) := fun h' => h'.elim h.off hne
  ⟨hd, mw.old ly _ h1 h.at_, fun h' => mw.off h.dk.keep.wf h.at_ h1 (.inl h'), h.lo⟩
theorem ints_lt {s : St} (hwf : s.wf) {v : Value} {l : List Int} (h : IntsB s v l) {c : Nat} (hc : inBlk v c) : c < s.next := by
  obtain ⟨o, n, k, rfl⟩ := hc
  obtain ⟨⟨a, k', e⟩, h2⟩ := h
  cases e
  obtain ⟨u, hu, _, _⟩ := src_parts h2
  cases hg : s.heap.get c with
  | none => rw [hg] at hu; cases hu
  | some x => exact hwf _ _ hg
theorem Lw.synced {V : Vw} {p : Nm} {a last by_ : Nat} {R : Nat → List Rec} {j : Nat} (h : Lw V p a last by_ R j) (hl : last < 1000000) : Lw (V.set (segN p last) (some ⟨frames (R last), (frames (R last)).length⟩)) p a last by_ R (R last).length := by
  obtain ⟨x, x1, _, _, x4, _⟩ := h.lt.all last h.lt.le (Nat.le_refl _)
  rw [h.top] at x1
  obtain rfl := Option.some.inj x1
  have h1 := h.put (l := []) (i := (R last).length) hl (fun r hr => by cases hr) (by rw [List.append_nil]; exact x4) (by rw [List.append_nil]; exact Nat.le_refl _)
  have e : updR R last (R last) = R := by
    funext k
    unfold updR
    split
    · rename_i h; rw [h]
    · rfl
  rw [List.append_nil, List.take_length, e] at h1
  rw [h.len]
  exact h1
theorem RecsO.less {s : St} {O O' : Nat → Prop} {v : Value} {ps : List Rec} (h : RecsO s O v ps) (hO : ∀ c, O' c → O c) : RecsO s O' v ps := by
  obtain ⟨vs, h1, h2, h3⟩ := h.ex
  exact ⟨⟨vs, h1, h2, fun w hw c hc ho => h3 w hw c hc (hO c ho)⟩, fun c hc => ⟨(h.room c hc).1, fun ho => (h.room c hc).2 (hO c ho)⟩, h.small⟩
set_option maxRecDepth 20000 in
theorem walTwo_ev (hn : NoWO Sm) (hF : Sm 12 = none) (hS : Sm 42 = none) {g : List Value → St → Rs (Value × St)} (hA : Sm 31 = some g) {s : St} (hg : ∀ s', Keep s s' → g [] s' = .ok (.bool true, s')) (hwf : s.wf) (hT : P10At s) {av bv pv : Value} {ps qs : List Rec} {picks : List Int} (ha : Texts s av ps) (hb : Texts s bv qs) (hp : IntsB s pv picks) :
    Ev Tryz.prog Sm (.inv (.fn (.func 12) #[]) [av, bv, pv] s) fun r => ∃ s', r = .val (.bool true) s' := by
  refine Ev.func hF Tryz.func12 rfl (m := 159) rfl ?_
  simp only [Array.toList_empty, List.append_nil, ofList_cons, ofList_nil]
  obtain ⟨vs, l1, ⟨aa, ac, rfl⟩, l2⟩ := id ha
  obtain ⟨ws, r1, ⟨ba, bc, rfl⟩, r2⟩ := id hb
  (try first | refine EvO.nx ?_ | refine EvA.nx ?_); repeat' (first | refine Abs.go ?_ | with_reducible refine Abs.fork (fun hb => ?_) (fun hb => ?_))
  refine Ev.summ hA (hg s (Keep.refl hwf)) ⟨_, _, rfl, ?_⟩
  by_cases hc : ps.length ≤ 20 ∧ qs.length ≤ 20
  · obtain ⟨c1, c2⟩ := hc
    (try first | refine EvO.nx ?_ | refine EvA.nx ?_); repeat' (first | refine Abs.go ?_ | with_reducible refine Abs.fork (fun hb => ?_) (fun hb => ?_))
    refine vnew_ev hn.wl.wn.disk hwf (by decide) fun s1 O1 b dk1 => ⟨_, _, rfl, ?_⟩
    (try first | refine EvO.nx ?_ | refine EvA.nx ?_); repeat' (first | refine Abs.go ?_ | with_reducible refine Abs.fork (fun hb => ?_) (fun hb => ?_))
    refine ropen_ev hn hwf hT dk1 preA_ok (most := 64) (by decide) (a := 1) (.inl ⟨rfl, rfl, rfl, rfl, fun _ _ _ => rfl⟩) (by decide) (by decide) fun lx rv s2 O2 V2 t2 m2 la ba2 Ra ja mv2 hlx hx2 wx2 rx2 nx2 tx2 mx2 _ off2 _ => ⟨_, _, rfl, ?_⟩
    (try first | refine EvO.nx ?_ | refine EvA.nx ?_); repeat' (first | refine Abs.go ?_ | with_reducible refine Abs.fork (fun hb => ?_) (fun hb => ?_))
    refine ropen_ev hn hwf hT hx2.dk preB_ok (most := 100) (by decide) (a := 1) (.inl ⟨rfl, rfl, rfl, rfl, fun k _ _ => off2.seg (p' := preB) rfl (by decide) k⟩) (by decide) (by omega) fun ly rv3 s3 O3 V3 t3 m3 lb bb Rb jb mv3 hly hy3 wy3 ry3 ny3 ty3 my3 _ off3 _ => ⟨_, _, rfl, ?_⟩
    have hx3 := hx2.mv mv3 hy3.dk
    have wx3 := wx2.cong (off3.seg (p' := preA) rfl (by decide))
    have hxy : ly ≠ lx := by have := hx2.at_.lt hx2.dk.keep.wf; omega
    have ra0 : recsR 1 la Ra = [] := rx2
    have rb0 : recsR 1 lb Rb = [] := ry3
    (try first | refine EvO.nx ?_ | refine EvA.nx ?_); repeat' (first | refine Abs.go ?_ | with_reducible refine Abs.fork (fun hb => ?_) (fun hb => ?_))
    refine Ev.loop (fun k a' s' => ∃ T, ∃ i : Nat, ∃ O V, ∃ tt m la bya ra lb byb rb : Nat, ∃ Ra ja Rb jb, a' = ⟨T, 159, []⟩ ∧ T.get 0 = some (.slice aa ps.length ac) ∧ T.get 1 = some (.slice ba qs.length bc) ∧ T.get 2 = some pv ∧ T.get 7 = some (.pointer (some ⟨b, 0, none⟩)) ∧ T.get 9 = some (.pointer (some ⟨lx, 0, none⟩)) ∧ T.get 12 = some (.pointer (some ⟨ly, 0, none⟩)) ∧ T.get 15 = some (.int .i64 ((i : Nat) : Int)) ∧ i ≤ 20 ∧ k = 20 - i ∧
        Lg s s' O lx b preA 64 1 la bya ra 1048576 V tt m 0 ∧ Lg s s' O ly b preB 100 1 lb byb rb 1048576 V tt m 0 ∧ Lw V preA 1 la bya Ra ja ∧ Lw V preB 1 lb byb Rb jb ∧ recsR 1 la Ra = ps.take i ∧ recsR 1 lb Rb = qs.take i ∧ la ≤ 1 + i ∧ lb ≤ 1 + i ∧ m ≤ la + lb ∧ tt ≤ 1016 * i ∧ ra ≤ i ∧ rb ≤ i) (k := 20)
      ⟨_, 0, O3, V3, t3, m3, la, ba2, 0, lb, bb, 0, Ra, ja, Rb, jb, rfl, ?g0, ?g1, ?g2, ?g7, ?g9, ?g12, ?g15, Nat.zero_le _, rfl, hx3, hy3, wx3, wy3, ra0, rb0, by omega, by omega, by omega, by omega, Nat.le_refl _, Nat.le_refl _⟩ ?_
    case g0 => simp (disch := first | omega | assumption) only [go_sem, ]
    case g1 => simp (disch := first | omega | assumption) only [go_sem, ]
    case g2 => simp (disch := first | omega | assumption) only [go_sem, ]
    case g7 => simp (disch := first | omega | assumption) only [go_sem, ]
    case g9 => simp (disch := first | omega | assumption) only [go_sem, ]
    case g12 => simp (disch := first | omega | assumption) only [go_sem, ]
    case g15 => simp (disch := first | omega | assumption) only [go_sem, ]; try rfl
    clear hx2 wx2 rx2 nx2 tx2 mx2 off2 hy3 wy3 ry3 ny3 ty3 my3 off3 hx3 wx3 ra0 rb0 mv2 mv3 hlx hly dk1
    rintro k a' s2 ⟨T, i, O, V, tt, m, la, bya, ra, lb, byb, rb, Ra, ja, Rb, jb, rfl, g0, g1, g2, g7, g9, g12, g15, hi, rfl, hx, hy, wx, wy, rea, reb, b1, b2, b3, b4, b5, b6⟩
    by_cases hlp : i < ps.length ∨ i < qs.length
    · have hi20 : i < 20 := by omega
      by_cases ia : i < ps.length
      case' pos =>
        obtain ⟨xb, xo, xc', w, e, hw, hvl, hat⟩ := list_at l1 ⟨_, _, rfl⟩ (by omega)
        have g0' : T.get 0 = some (.slice (some ⟨xb, xo, none⟩) ps.length xc') := by rw [g0, e]
        have hxv := hat i (by omega)
        have hxB := l2.2 i vs[i] ps[i] (List.getElem?_eq_getElem (by omega)) (List.getElem?_eq_getElem ia)
        have htk : ps.take (i + 1) = ps.take i ++ [ps[i]] := (List.take_append_getElem ia).symm
        have hw' := keep_obj hx.dk.keep.old hw
        generalize vs[i] = x at *
        generalize ps[i] = r at *
        obtain ⟨ya, yc, rfl⟩ := hxB.1
        clear hat hvl
      case' neg =>
        have htk : ps.take (i + 1) = ps.take i := by rw [List.take_of_length_le (by omega), List.take_of_length_le (by omega)]
      case pos =>
        by_cases h500 : 500 < r.length
        · (try first | refine EvO.nx ?_ | refine EvA.nx ?_); repeat' (first | refine Abs.goHV (Abs.cc g0' (Abs.cc g1 (Abs.cc g2 (Abs.cc g7 (Abs.cc g9 (Abs.cc g12 (Abs.cc g15 (Abs.cc hw' (hxv))))))))) ?_ | with_reducible refine Abs.fork (fun hb => ?_) (fun hb => ?_))
          all_goals exact ⟨_, by rw [decide_eq_true (by omega : (500 : Int) < (r.length : Int))]⟩
        · have b9 : la ≤ 990 := by omega
          have b8 : m < 1000 := by omega
          (try first | refine EvO.nx ?_ | refine EvA.nx ?_); repeat' (first | refine Abs.goHV (Abs.cc g0' (Abs.cc g1 (Abs.cc g2 (Abs.cc g7 (Abs.cc g9 (Abs.cc g12 (Abs.cc g15 (Abs.cc hw' (hxv))))))))) ?_ | with_reducible refine Abs.fork (fun hb => ?_) (fun hb => ?_))
          refine rappend_ev hn.wl hwf hT hx wx preA_ok (by decide) b9 b8 ⟨by decide, by decide⟩ (hxB.mono hx.dk.keep.old) (by omega) (by omega) (fun hlt => absurd hlt (by omega)) fun hle s3 O3 V3 la3 bya3 Ra3 ja3 m3 mw3 hx3 wx3 rea3 nx3 mx3 _ off3 => ⟨_, _, rfl, ?_⟩
          have hy3 := hy.other hxy mw3 hx3.dk
          have wy3 := wy.cong (off3.seg (p' := preB) rfl (by decide))
          have rea3 := rea3 1 wx3.lt.le
          rw [if_pos wx.lt.le, rea, ← htk] at rea3
          by_cases ib : i < qs.length
          · obtain ⟨zb, zo, zc', u, e', hu, hvl2, hat2⟩ := list_at r1 ⟨_, _, rfl⟩ (by omega)
            have g1' : T.get 1 = some (.slice (some ⟨zb, zo, none⟩) qs.length zc') := by rw [g1, e']
            have hyv := hat2 i (by omega)
            have hyB := r2.2 i ws[i] qs[i] (List.getElem?_eq_getElem (by omega)) (List.getElem?_eq_getElem ib)
            have htq : qs.take (i + 1) = qs.take i ++ [qs[i]] := (List.take_append_getElem ib).symm
            have hu' := keep_obj hx3.dk.keep.old hu
            generalize ws[i] = y at *
            generalize qs[i] = r' at *
            obtain ⟨za, zc, rfl⟩ := hyB.1
            clear hat2 hvl2
            by_cases h500' : 500 < r'.length
            · (try first | refine EvO.nx ?_ | refine EvA.nx ?_); repeat' (first | refine Abs.goHV (Abs.cc g0 (Abs.cc g1' (Abs.cc g2 (Abs.cc g7 (Abs.cc g9 (Abs.cc g12 (Abs.cc g15 (Abs.cc hu' (hyv))))))))) ?_ | with_reducible refine Abs.fork (fun hb => ?_) (fun hb => ?_))
              all_goals exact ⟨_, by rw [decide_eq_true (by omega : (500 : Int) < (r'.length : Int))]⟩
            · have b9' : lb ≤ 990 := by omega
              have b8' : m3 < 1000 := by omega
              (try first | refine EvO.nx ?_ | refine EvA.nx ?_); repeat' (first | refine Abs.goHV (Abs.cc g0 (Abs.cc g1' (Abs.cc g2 (Abs.cc g7 (Abs.cc g9 (Abs.cc g12 (Abs.cc g15 (Abs.cc hu' (hyv))))))))) ?_ | with_reducible refine Abs.fork (fun hb => ?_) (fun hb => ?_))
              refine rappend_ev hn.wl hwf hT hy3 wy3 preB_ok (by decide) b9' b8' ⟨by decide, by decide⟩ (hyB.mono hx3.dk.keep.old) (by omega) (by omega) (fun hlt => absurd hlt (by omega)) fun hle' s4 O4 V4 lb4 byb4 Rb4 jb4 m4 mw4 hy4 wy4 reb4 ny4 my4 _ off4 => ⟨_, _, rfl, ?_⟩
              have hx4 := hx3.other (Ne.symm hxy) mw4 hy4.dk
              have wx4 := wx3.cong (off4.seg (p' := preA) rfl (by decide))
              have reb4 := reb4 1 wy4.lt.le
              rw [if_pos wy3.lt.le, reb, ← htq] at reb4
              (try first | refine EvO.nx ?_ | refine EvA.nx ?_); repeat' (first | refine Abs.goHV (Abs.cc g0 (Abs.cc g1 (Abs.cc g2 (Abs.cc g7 (Abs.cc g9 (Abs.cc g12 (g15))))))) ?_ | with_reducible refine Abs.fork (fun hb => ?_) (fun hb => ?_))
              refine ⟨20 - (i + 1), by omega, _, i + 1, O4, V4, (tt + (8 + r.length)) + (8 + r'.length), m4, la3, bya3, (ra + 1), lb4, byb4, rb + 1, Ra3, ja3, Rb4, jb4, rfl, ?_, ?_, ?_, ?_, ?_, ?_, ?_, by omega, rfl, hx4, hy4, wx4, wy4, rea3, reb4, by omega, by omega, by omega, by omega, by omega, by omega⟩
              · simp (disch := first | omega | assumption) only [go_sem, g0]
              · simp (disch := first | omega | assumption) only [go_sem, g1]
              · simp (disch := first | omega | assumption) only [go_sem, g2]
              · simp (disch := first | omega | assumption) only [go_sem, g7]
              · simp (disch := first | omega | assumption) only [go_sem, g9]
              · simp (disch := first | omega | assumption) only [go_sem, g12]
              · simp (disch := first | omega | assumption) only [go_sem, Int.natCast_add, Int.natCast_one]
          · have htq : qs.take (i + 1) = qs.take i := by rw [List.take_of_length_le (by omega), List.take_of_length_le (by omega)]
            (try first | refine EvO.nx ?_ | refine EvA.nx ?_); repeat' (first | refine Abs.goHV (Abs.cc g0 (Abs.cc g1 (Abs.cc g2 (Abs.cc g7 (Abs.cc g9 (Abs.cc g12 (g15))))))) ?_ | with_reducible refine Abs.fork (fun hb => ?_) (fun hb => ?_))
            refine ⟨20 - (i + 1), by omega, _, i + 1, O3, V3, (tt + (8 + r.length)), m3, la3, bya3, (ra + 1), lb, byb, rb, Ra3, ja3, Rb, jb, rfl, ?_, ?_, ?_, ?_, ?_, ?_, ?_, by omega, rfl, hx3, hy3, wx3, wy3, rea3, by rw [htq]; exact reb, by omega, by omega, by omega, by omega, by omega, by omega⟩
            · simp (disch := first | omega | assumption) only [go_sem, g0]
            · simp (disch := first | omega | assumption) only [go_sem, g1]
            · simp (disch := first | omega | assumption) only [go_sem, g2]
            · simp (disch := first | omega | assumption) only [go_sem, g7]
            · simp (disch := first | omega | assumption) only [go_sem, g9]
            · simp (disch := first | omega | assumption) only [go_sem, g12]
            · simp (disch := first | omega | assumption) only [go_sem, Int.natCast_add, Int.natCast_one]
      case neg =>
        by_cases ib : i < qs.length
        · obtain ⟨zb, zo, zc', u, e', hu, hvl2, hat2⟩ := list_at r1 ⟨_, _, rfl⟩ (by omega)
          have g1' : T.get 1 = some (.slice (some ⟨zb, zo, none⟩) qs.length zc') := by rw [g1, e']
          have hyv := hat2 i (by omega)
          have hyB := r2.2 i ws[i] qs[i] (List.getElem?_eq_getElem (by omega)) (List.getElem?_eq_getElem ib)
          have htq : qs.take (i + 1) = qs.take i ++ [qs[i]] := (List.take_append_getElem ib).symm
          have hu' := keep_obj hx.dk.keep.old hu
          generalize ws[i] = y at *
          generalize qs[i] = r' at *
          obtain ⟨za, zc, rfl⟩ := hyB.1
          clear hat2 hvl2
          by_cases h500' : 500 < r'.length
          · (try first | refine EvO.nx ?_ | refine EvA.nx ?_); repeat' (first | refine Abs.goHV (Abs.cc g0 (Abs.cc g1' (Abs.cc g2 (Abs.cc g7 (Abs.cc g9 (Abs.cc g12 (Abs.cc g15 (Abs.cc hu' (hyv))))))))) ?_ | with_reducible refine Abs.fork (fun hb => ?_) (fun hb => ?_))
            all_goals exact ⟨_, by rw [decide_eq_true (by omega : (500 : Int) < (r'.length : Int))]⟩
          · have b9' : lb ≤ 990 := by omega
            have b8' : m < 1000 := by omega
            (try first | refine EvO.nx ?_ | refine EvA.nx ?_); repeat' (first | refine Abs.goHV (Abs.cc g0 (Abs.cc g1' (Abs.cc g2 (Abs.cc g7 (Abs.cc g9 (Abs.cc g12 (Abs.cc g15 (Abs.cc hu' (hyv))))))))) ?_ | with_reducible refine Abs.fork (fun hb => ?_) (fun hb => ?_))
            refine rappend_ev hn.wl hwf hT hy wy preB_ok (by decide) b9' b8' ⟨by decide, by decide⟩ (hyB.mono hx.dk.keep.old) (by omega) (by omega) (fun hlt => absurd hlt (by omega)) fun hle' s4 O4 V4 lb4 byb4 Rb4 jb4 m4 mw4 hy4 wy4 reb4 ny4 my4 _ off4 => ⟨_, _, rfl, ?_⟩
            have hx4 := hx.other (Ne.symm hxy) mw4 hy4.dk
            have wx4 := wx.cong (off4.seg (p' := preA) rfl (by decide))
            have reb4 := reb4 1 wy4.lt.le
            rw [if_pos wy.lt.le, reb, ← htq] at reb4
            (try first | refine EvO.nx ?_ | refine EvA.nx ?_); repeat' (first | refine Abs.goHV (Abs.cc g0 (Abs.cc g1 (Abs.cc g2 (Abs.cc g7 (Abs.cc g9 (Abs.cc g12 (g15))))))) ?_ | with_reducible refine Abs.fork (fun hb => ?_) (fun hb => ?_))
            refine ⟨20 - (i + 1), by omega, _, i + 1, O4, V4, tt + (8 + r'.length), m4, la, bya, ra, lb4, byb4, rb + 1, Ra, ja, Rb4, jb4, rfl, ?_, ?_, ?_, ?_, ?_, ?_, ?_, by omega, rfl, hx4, hy4, wx4, wy4, (by rw [htk]; exact rea), reb4, by omega, by omega, by omega, by omega, by omega, by omega⟩
            · simp (disch := first | omega | assumption) only [go_sem, g0]
            · simp (disch := first | omega | assumption) only [go_sem, g1]
            · simp (disch := first | omega | assumption) only [go_sem, g2]
            · simp (disch := first | omega | assumption) only [go_sem, g7]
            · simp (disch := first | omega | assumption) only [go_sem, g9]
            · simp (disch := first | omega | assumption) only [go_sem, g12]
            · simp (disch := first | omega | assumption) only [go_sem, Int.natCast_add, Int.natCast_one]
        · exfalso
          omega
    · rw [List.take_of_length_le (by omega)] at rea reb
      have hla1 : la ≤ 30 := by omega
      (try first | refine EvO.nx ?_ | refine EvA.nx ?_); repeat' (first | refine Abs.goHV (Abs.cc g0 (Abs.cc g1 (Abs.cc g2 (Abs.cc g7 (Abs.cc g9 (Abs.cc g12 (g15))))))) ?_ | with_reducible refine Abs.fork (fun hb => ?_) (fun hb => ?_))
      refine wsync_ev hn.wl hwf hT hx preA_ok (by omega) wx.top fun s3 O3 mw3 hx3 => ⟨_, _, rfl, ?_⟩
      have hy3 := hy.other hxy mw3 hx3.dk
      have wx3 := wx.synced (by omega : la < 1000000)
      have wy3 : Lw (V.set (segN preA la) (some ⟨frames (Ra la), (frames (Ra la)).length⟩)) preB 1 lb byb Rb jb := wy.cong fun k => Vw.off _ _ (pre_ne (p := preB) (p' := preA) rfl (by decide) k la)
      (try first | refine EvO.nx ?_ | refine EvA.nx ?_); repeat' (first | refine Abs.goHV (Abs.cc g0 (Abs.cc g1 (Abs.cc g2 (Abs.cc g7 (Abs.cc g9 (Abs.cc g12 (g15))))))) ?_ | with_reducible refine Abs.fork (fun hb => ?_) (fun hb => ?_))
      refine vcrash_ev hn.wl.wn.disk hwf hx3.dk (hp.mono fun c x _ hx => hx3.dk.keep.old c x hx) (fun c hc ho => by have := hx3.dk.ge ho; have := ints_lt hwf hp hc; omega) fun s4 O4 V4 t4 mv4 dk4 hcut => ⟨_, _, rfl, ?_⟩
      obtain ⟨ja4, ja1, ja2, lta⟩ := wx3.crash hcut
      obtain ⟨jb4, jb1, jb2, ltb⟩ := wy3.crash hcut
      have e1 : updR Ra la ((Ra la).take ja4) = Ra := by
        funext k
        unfold updR
        split
        · rename_i h; rw [h, List.take_of_length_le ja1]
        · rfl
      rw [e1] at lta
      have hpre : recsR 1 lb (updR Rb lb ((Rb lb).take jb4)) <+: qs := by
        rw [← reb, recsR_top ltb.le, recsR_top ltb.le, flat_upd _ _ _ _ _ (by omega), updR_at]
        exact (List.prefix_append_right_inj _).2 (List.take_prefix _ _)
      (try first | refine EvO.nx ?_ | refine EvA.nx ?_); repeat' (first | refine Abs.goHV (Abs.cc g0 (Abs.cc g1 (Abs.cc g2 (Abs.cc g7 (Abs.cc g9 (Abs.cc g12 (g15))))))) ?_ | with_reducible refine Abs.fork (fun hb => ?_) (fun hb => ?_))
      refine ropen_ev hn hwf hT dk4 preA_ok (most := 64) (by decide) (.inr lta) (by omega) (by omega) fun lx5 rv s5 O5 V5 t5 m5 la5 bya5 Ra5 ja5 mv5 hlx5 hx5 wx5 re5 nx5 tx5 mx5 _ off5 hro5 => ⟨_, _, rfl, ?_⟩
      rw [rea] at hro5
      (try first | refine EvO.nx ?_ | refine EvA.nx ?_); repeat' (first | refine Abs.goHV (Abs.cc g0 (Abs.cc g1 (Abs.cc g2 (Abs.cc g7 (Abs.cc g9 (Abs.cc g12 (g15))))))) ?_ | with_reducible refine Abs.fork (fun hb => ?_) (fun hb => ?_))
      refine ropen_ev hn hwf hT hx5.dk preB_ok (most := 100) (by decide) (.inr (ltb.cong (off5.seg (p' := preB) rfl (by decide)))) (by omega) (by omega) fun ly6 rv6 s6 O6 V6 t6 m6 lb6 byb6 Rb6 jb6 mv6 hly6 hy6 wy6 re6 ny6 ty6 my6 _ off6 hro6 => ⟨_, _, rfl, ?_⟩
      have hta : Texts s6 rv ps := ((hro5.less (O' := O5) fun c hc => .inl hc).mv hx5.dk.keep.wf mv6).texts
      obtain ⟨_, _, ⟨ka, kc, rfl⟩, _⟩ := id hta
      have htb := hro6.texts
      obtain ⟨_, _, ⟨ka6, kc6, rfl⟩, _⟩ := id htb
      (try first | refine EvO.nx ?_ | refine EvA.nx ?_); repeat' (first | refine Abs.goHV (Abs.cc g0 (Abs.cc g1 (Abs.cc g2 (Abs.cc g7 (Abs.cc g9 (Abs.cc g12 (g15))))))) ?_ | with_reducible refine Abs.fork (fun hb => ?_) (fun hb => ?_))
      refine wsame_ev hS hta (ha.mono hy6.dk.keep.old) (List.prefix_refl _) (by omega) ⟨_, _, rfl, ?_⟩
      (try first | refine EvO.nx ?_ | refine EvA.nx ?_); repeat' (first | refine Abs.goHV (Abs.cc g0 (Abs.cc g1 (Abs.cc g2 (Abs.cc g7 (Abs.cc g9 (Abs.cc g12 (g15))))))) ?_ | with_reducible refine Abs.fork (fun hb => ?_) (fun hb => ?_))
      refine wsame_ev hS htb (hb.mono hy6.dk.keep.old) hpre (by omega) ⟨_, _, rfl, ?_⟩
      (try first | refine EvO.nx ?_ | refine EvA.nx ?_); repeat' (first | refine Abs.goHV (Abs.cc g0 (Abs.cc g1 (Abs.cc g2 (Abs.cc g7 (Abs.cc g9 (Abs.cc g12 (g15))))))) ?_ | with_reducible refine Abs.fork (fun hb => ?_) (fun hb => ?_))
      exact ⟨_, rfl⟩
  · (try first | refine EvO.nx ?_ | refine EvA.nx ?_); repeat' (first | refine Abs.go ?_ | with_reducible refine Abs.fork (fun hb => ?_) (fun hb => ?_))
    all_goals exact ⟨_, rfl⟩
end
end Go.Proofs.YtbakhdgiimjnkaaGreatDoor
