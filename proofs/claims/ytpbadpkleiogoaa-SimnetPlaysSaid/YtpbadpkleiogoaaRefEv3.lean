/-
  The document's own network at the evaluator: the numbers. No law in sight.
-/
import Derived.Test.YtpbadpkleiogoaaRefEv2
import Derived.Test.YtpbadpkleiogoaaEvSet
set_option linter.unusedVariables false
set_option linter.unusedSimpArgs false
namespace Go.Proofs.Ytpbadpkleiogoaa
open Abs
set_option maxHeartbeats 16000000
set_option maxRecDepth 20000
set_option linter.unusedSimpArgs false
attribute [local irreducible] Abs.Ev Abs.EvF Abs.EvO Abs.EvA Abs.Seq Abs.Blk Abs.Body Abs.Scp Abs.EvG Abs.EvAg Abs.Nx
attribute [local go_sem] Try.underlying2 Ty.sz2 Ty.by2 Ty.ag2 Ty.ze2 Try.underlying3 Ty.sz3 Ty.by3 Ty.ag3 Ty.ze3 Try.underlying4 Ty.sz4 Ty.by4 Ty.ag4 Ty.ze4 Try.underlying5 Ty.sz5 Ty.by5 Ty.ag5 Ty.ze5 Try.underlying29 Ty.sz29 Ty.by29 Ty.ag29 Ty.ze29 Try.underlying45 Ty.sz45 Ty.by45 Ty.ag45 Ty.ze45 Try.underlying57 Ty.sz57 Ty.by57 Ty.ag57 Ty.ze57 Try.underlying58 Ty.sz58 Ty.by58 Ty.ag58 Ty.ze58 Try.underlying60 Ty.sz60 Ty.by60 Ty.ag60 Ty.ze60 Try.underlying67 Ty.sz67 Ty.by67 Ty.ag67 Ty.ze67
section
variable {Sm : Summ} {Q : Ans → Prop}
/-- numbers put behind none -/
theorem EvO.nums0 {st : St} {zb : Nat} {x : Value} {l : List Nat} {K : Value → St → Prop} (hwf : st.wf) (hz : st.heap.get zb = some (.cells [] 29 0 false (0, 0))) (hx : srcCells st.heap 1 x = .ok (l.length, u64C l)) (hl : l.length ≤ 1000)
    (h : ∀ v' st', Fd st' v' l → (∀ c, inBlk v' c → (c = zb ∨ c = st.next) ∧ ∃ l sz op, st'.heap.get c = some (.cells l 29 sz op (0, 0))) → Keep st st' → K v' st') :
    EvO (fun _ k => aAppend Try.prog st (58 :: [58]) (.slice (some ⟨zb, 0, none⟩) 0 0) x fun v s => k v [] s) K := by
  cases l with
  | nil =>
    refine EvO.append0 Try.underlying58 Ty.sz29 Ty.by29 Ty.ze29 rfl ((appSrc_slice Try.underlying58).trans hx) (by decide) (by decide) ?_
    exact h _ _ (.vec (.full (src_cells hz rfl)) fun h => absurd rfl h) (fun c hc => by obtain ⟨_, _, _, e⟩ := hc; cases e; exact ⟨.inl rfl, _, _, _, hz⟩) (Keep.refl hwf)
  | cons a l =>
    have hlu : (u64C (a :: l)).length = (a :: l).length * 1 := by unfold u64C; rw [List.length_map, Nat.mul_one]
    refine EvO.appendV (n := 0) (cs := []) (m := (a :: l).length) (nw := u64C (a :: l)) hwf Try.underlying58 Ty.sz29 Ty.by29 Ty.ze29 rfl (by decide) (.full (src_cells hz rfl)) (by decide) ((appSrc_slice Try.underlying58).trans hx) hlu (by
      rw [List.all_eq_true]
      intro y hy
      unfold u64C at hy
      obtain ⟨w, _, rfl⟩ := List.mem_map.1 hy
      rfl) (by simp) (by omega) (by omega) fun v' st' k1 k2 k3 k4 k5 k6 => ?_
    rw [Nat.zero_add, List.nil_append] at k1
    rw [Nat.zero_add] at k2
    obtain ⟨bb, o, rfl, hbb⟩ := k2
    obtain ⟨w, hw⟩ := k1.kind ⟨_, _, rfl⟩ (by unfold open_; omega)
    have e : bb = st.next := hbb.elim id fun hr => by obtain ⟨_, _, e⟩ := hr; cases e
    refine h _ _ (.vec k1 fun _ c hc => ?_) (fun c hc => ?_) ⟨k3, k4, fun c y hy => k6 c y hy fun hr => by obtain ⟨_, _, e⟩ := hr; cases e⟩
    · obtain ⟨_, _, _, e⟩ := hc
      cases e
      exact ⟨_, _, rfl⟩
    · obtain ⟨_, _, _, e'⟩ := hc
      cases e'
      exact ⟨.inr e, w, _, _, hw⟩
attribute [local go_sem] u64_lit0 List.set_cons_zero List.set_cons_succ
theorem rrand_ev (n : NoRef Sm) {s : St} (hwf : s.wf) {O : Nat → Prop} {b : Nat} {L : Pks} {sent : Nat} {now : Int} {fed : List Nat} {z : Nat} (hd : RN s O b L sent now fed z) (hf : fed.length ≤ 1000)
    (h1 : fed = [] → ∀ s', Mv O O s s' → RN s' O b L sent now [] (uAdd z) → Q (.val (.int .u64 ((uMix (uAdd z) : Nat) : Int)) s'))
    (h2 : ∀ x r, fed = x :: r → ∀ s' O', Mv O O' s s' → RN s' O' b L sent now r z → Q (.val (.int .u64 ((x : Nat) : Int)) s')) :
    Ev Try.prog Sm (.inv (.fn (.func 36) #[]) [.pointer (some ⟨b, 0, none⟩)] s) Q := by
  refine Ev.func n.rand Try.func36 rfl (m := 54) rfl ?_
  simp only [Array.toList_empty, List.append_nil, ofList_cons, ofList_nil]
  obtain ⟨pv, fv, g1, g2, g3, g4, g5, g6⟩ := hd.ex
  obtain ⟨fa, fc, rfl⟩ := g3.len
  cases fed with
  | cons x r =>
    cases g3 with
    | gone _ hl _ => cases hl
    | vec g3 hr =>
      obtain ⟨pb, o, l, e, hb, ho, hl, hc⟩ := room_of g3 (hr (by simp)) (by simp) (by unfold open_; simp only [List.length_cons] at hf ⊢; omega)
      cases e
      simp only [List.length_cons, Nat.mul_one] at hl hc hf g1
      have hx : l[o]? = some (.int .u64 ((x : Nat) : Int)) := by
        have := congrArg (fun l => l[0]?) hc
        simpa [u64C] using this
      have hc' : (l.drop (o + 1)).take r.length = u64C r := by
        have := congrArg (fun l => l.drop 1) hc
        rw [List.drop_take, List.drop_drop] at this
        simpa [u64C] using this
      have hop : r.length + 1 < open_ := by unfold open_; omega
      have kb := (Keep.refl hwf).new (.cells [] 29 0 false (0, 0))
      have g1b := kb.old _ _ g1
      have hbb := kb.old _ _ hb
      (try first | refine EvO.nx ?_ | refine EvA.nx ?_); repeat' (first | refine Abs.goH (Abs.cc g1 (Abs.cc g1b (Abs.cc hb (Abs.cc hbb (hx))))) ?_ | with_reducible refine Abs.fork (fun hb => ?_) (fun hb => ?_))
      simp only [Nat.add_sub_cancel]
      refine EvO.nums0 (l := r) kb.wf (get_same _ _ _) (by
        have := src_room (o := o + 1) (n := r.length) (c := open_) hbb (by omega)
        rw [Nat.mul_one] at this
        rw [this, hc']) (by omega) fun v' s2 k1 k2 k3 => ?_
      have hn2 : s.next + 1 ≤ s2.next := k3.next
      have k3' := kb.trans k3
      have g1c := k3'.old _ _ g1
      obtain ⟨wa, wc, rfl⟩ := k1.len
      (try first | refine EvO.nx ?_ | refine EvA.nx ?_); repeat' (first | refine Abs.goH g1c ?_ | with_reducible refine Abs.fork (fun hb => ?_) (fun hb => ?_))
      have hO : ∀ c x, O c → s.heap.get c = some x → s2.heap.get c = some x := fun c x _ hx => k3'.old c x hx
      refine h2 x r rfl _ (fun c => O c ∨ s.next ≤ c ∧ c < s2.next) ⟨fun c y hy => ?_, (by omega : s.next ≤ s2.next), fun c y hc hy => ?_, fun c hc => hc.imp id fun h => h.1⟩ (NetAt.put kdR ⟨_, g1c⟩ (Vec.mono (s := s) (fun c x hc hx => k3'.old c x hx) g2) k1 (g4.mono (fun c hc => .inl hc) hO) (fun c hc => ?_) g6 (fun e he => ?_) (.inl hd.own) fun c hc => hc.elim (fun h => by have := hd.lt c h; omega) fun h => h.2)
      · rcases Tr.get_set hy with ⟨rfl, _⟩ | ⟨_, hy⟩
        · exact k3.wf _ _ g1c
        · exact k3.wf _ _ hy
      · exact (get_other _ _ _ _ fun e => hc (by rw [e]; exact hd.own)).trans (k3'.old c y hy)
      · obtain ⟨q1, w, sz, op, q2⟩ := k2 c hc
        have q3 : c = s.next ∨ c = s.next + 1 := q1
        exact ⟨.inr ⟨by omega, k3.wf _ _ q2⟩, w, sz, op, q2⟩
      · have q := hd.bytes e he
        exact ⟨q.1.of q.2 hO, q.2.mono (fun c hc => .inl hc) hO⟩
  | nil =>
    obtain ⟨x1, x2, x3, y1, y2, v1, v2, v3, r, a1, a2, a3, a4, a5, a6, a7, a8, a9, e1, e2⟩ := rand_ops z
    simp only [List.length_nil] at g1
    iterate 26 (first | refine Abs.Ev.seq ?_ | refine Abs.Ev.region ?_ | refine Abs.Ev.skip ?_ | refine Abs.Seq.go ?_ | refine Ev.runNil ?_ | ((apply Abs.Ev.kcond2); (· (intros; simp (disch := first | omega | assumption) only [go_sem, g1]; exact rfl)); refine Abs.goR ?_ ?_; (· intro hb; simp at hb)) | (apply Abs.Ev.kT rfl; (· (intros; simp (disch := first | omega | assumption) only [go_sem, g1]; exact rfl))))
    refine Abs.Ev.kBin (a := .int .u64 ((z : Nat) : Int)) (b := .int .u64 11400714819323198485) ?_ ?_ ?_ (a1 _ _ _ _) ?_
    · rfl
    · simp only [go_sem]
    · rfl
    repeat (first | refine Abs.Ev.seq ?_ | refine Abs.Ev.region ?_ | refine Abs.Ev.skip ?_ | refine Abs.Seq.go ?_ | refine Ev.runNil ?_ | (refine Abs.Ev.kBin (a := .int .u64 ((x1 : Nat) : Int)) (b := .int .u64 30) ?_ ?_ ?_ (a2 _ _ _ _) ?_; (· rfl); (· simp (disch := omega) only [go_sem]; done); (· first | rfl | (simp (disch := omega) only [go_sem]; done))) | (refine Abs.Ev.kBin (a := .int .u64 ((x1 : Nat) : Int)) (b := .int .u64 ((v1 : Nat) : Int)) ?_ ?_ ?_ (a3 _ _ _ _) ?_; (· rfl); (· simp (disch := omega) only [go_sem]; done); (· first | rfl | (simp (disch := omega) only [go_sem]; done))) | (refine Abs.Ev.kBin (a := .int .u64 ((y1 : Nat) : Int)) (b := .int .u64 13787848793156543929) ?_ ?_ ?_ (a4 _ _ _ _) ?_; (· rfl); (· simp (disch := omega) only [go_sem]; done); (· first | rfl | (simp (disch := omega) only [go_sem]; done))) | (refine Abs.Ev.kBin (a := .int .u64 ((x2 : Nat) : Int)) (b := .int .u64 27) ?_ ?_ ?_ (a5 _ _ _ _) ?_; (· rfl); (· simp (disch := omega) only [go_sem]; done); (· first | rfl | (simp (disch := omega) only [go_sem]; done))) | (refine Abs.Ev.kBin (a := .int .u64 ((x2 : Nat) : Int)) (b := .int .u64 ((v2 : Nat) : Int)) ?_ ?_ ?_ (a6 _ _ _ _) ?_; (· rfl); (· simp (disch := omega) only [go_sem]; done); (· first | rfl | (simp (disch := omega) only [go_sem]; done))) | (refine Abs.Ev.kBin (a := .int .u64 ((y2 : Nat) : Int)) (b := .int .u64 10723151780598845931) ?_ ?_ ?_ (a7 _ _ _ _) ?_; (· rfl); (· simp (disch := omega) only [go_sem]; done); (· first | rfl | (simp (disch := omega) only [go_sem]; done))) | (refine Abs.Ev.kBin (a := .int .u64 ((x3 : Nat) : Int)) (b := .int .u64 31) ?_ ?_ ?_ (a8 _ _ _ _) ?_; (· rfl); (· simp (disch := omega) only [go_sem]; done); (· first | rfl | (simp (disch := omega) only [go_sem]; done))) | (refine Abs.Ev.kBin (a := .int .u64 ((x3 : Nat) : Int)) (b := .int .u64 ((v3 : Nat) : Int)) ?_ ?_ ?_ (a9 _ _ _ _) ?_; (· rfl); (· simp (disch := omega) only [go_sem]; done); (· first | rfl | (simp (disch := omega) only [go_sem]; done))) | ((first | apply Abs.Ev.kT rfl | apply Abs.Ev.kN); (· (intros; simp (disch := first | omega | assumption) only [go_sem, g1, List.set_cons_zero, List.set_cons_succ]; exact rfl))))
    (try first | refine EvO.nx ?_ | refine EvA.nx ?_); repeat' (first | refine Abs.go ?_ | with_reducible refine Abs.fork (fun hb => ?_) (fun hb => ?_))
    have h1 := h1 rfl
    rw [← e2, ← e1] at h1
    exact h1 _ (Mv.set hwf g1 hd.own) (NetAt.put kdR ⟨_, g1⟩ g2 g3 g4 g5 g6 hd.bytes hd.own hd.lt)
end
end Go.Proofs.Ytpbadpkleiogoaa
