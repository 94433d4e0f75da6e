/-
  The document's own network at the evaluator: what its functions do. No law in sight.
-/
import Derived.Test.YtpbadpkleiogoaaSNetEv4
import Derived.Test.YtpbadpkleiogoaaEvSet
set_option linter.unusedVariables false
set_option linter.unusedSimpArgs false
namespace Go.Proofs.Ytpbadpkleiogoaa
open Abs
set_option maxHeartbeats 16000000
set_option maxRecDepth 20000
set_option linter.unusedSimpArgs false
attribute [local irreducible] Abs.Ev Abs.EvF Abs.EvO Abs.EvA Abs.Seq Abs.Blk Abs.Body Abs.Scp Abs.EvG Abs.EvAg Abs.Nx
attribute [local go_sem] Try.underlying2 Ty.sz2 Ty.by2 Ty.ag2 Ty.ze2 Try.underlying3 Ty.sz3 Ty.by3 Ty.ag3 Ty.ze3 Try.underlying4 Ty.sz4 Ty.by4 Ty.ag4 Ty.ze4 Try.underlying5 Ty.sz5 Ty.by5 Ty.ag5 Ty.ze5 Try.underlying29 Ty.sz29 Ty.by29 Ty.ag29 Ty.ze29 Try.underlying45 Ty.sz45 Ty.by45 Ty.ag45 Ty.ze45 Try.underlying57 Ty.sz57 Ty.by57 Ty.ag57 Ty.ze57 Try.underlying58 Ty.sz58 Ty.by58 Ty.ag58 Ty.ze58 Try.underlying60 Ty.sz60 Ty.by60 Ty.ag60 Ty.ze60 Try.underlying67 Ty.sz67 Ty.by67 Ty.ag67 Ty.ze67
section
variable {Sm : Summ} {Q : Ans → Prop}
structure NoRef (Sm : Summ) : Prop where
  place : Sm 30 = none
  send : Sm 32 = none
  take : Sm 33 = none
  rand : Sm 36 = none
theorem kdR : Kd 60 67 := ⟨by decide, by decide, by decide, by decide, by decide⟩
abbrev RN (s : St) (O : Nat → Prop) (b : Nat) (L : Pks) (sent : Nat) (now : Int) (fed : List Nat) (z : Nat) : Prop := NetAt 60 67 False s O b L sent now fed z
theorem rpk_lit (a b c d : Value) : aSliceLit Try.prog 67 1 [(0, .agg ⟨[a, b, c, d]⟩)] = .ok (.cells [a, b, c, d] 67 0 false (0, 0), fun n => .slice (some ⟨n, 0, none⟩) 1 1) := lit1 Ty.sz67 Ty.ze67 rfl rfl (by decide)
theorem rpk_lit0 : aSliceLit Try.prog 67 0 [] = .ok (.cells [] 67 0 false (0, 0), fun n => .slice (some ⟨n, 0, none⟩) 0 0) := lit0 Ty.sz67 Ty.ze67 rfl
theorem u64_lit0 : aSliceLit Try.prog 29 0 [] = .ok (.cells [] 29 0 false (0, 0), fun n => .slice (some ⟨n, 0, none⟩) 0 0) := lit0 Ty.sz29 Ty.ze29 rfl
/-- bytes put behind an empty text -/
theorem EvO.bytes0 {st : St} {zb : Nat} {x : Value} {l : List UInt8} {K : Value → St → Prop} (hwf : st.wf) (hz : st.heap.get zb = some (.cells [] 5 0 false (0, 0))) (hx : srcCells st.heap 1 x = .ok (l.length, byteCells l)) (hl : l.length ≤ 140737488351232)
    (h : ∀ v' st', TxtB st' 0 v' l → (∀ c, inBlk v' c → c = zb ∨ c = st.next) → Keep st st' → K v' st') :
    EvO (fun _ k => aAppend Try.prog st (45 :: [45]) (.slice (some ⟨zb, 0, none⟩) 0 0) x fun v s => k v [] s) K := by
  by_cases hl0 : l = []
  · subst hl0
    refine EvO.append0B ⟨_, _, rfl⟩ ((appSrc_slice Try.underlying45).trans hx) (by decide) ?_
    exact h _ _ (.zero hz) (fun c hc => by obtain ⟨_, _, _, e⟩ := hc; cases e; exact .inl rfl) (Keep.refl hwf)
  · refine EvO.appendO hwf (l := []) (.full (src_cells hz rfl)) ((appSrc_slice Try.underlying45).trans hx) hl0 (by simp only [List.length_nil]; omega) fun st' k1 k3 k4 k5 => ?_
    rw [List.nil_append] at k1 ⊢
    exact h _ _ (.own k1 hl0 (Nat.zero_le _)) (fun c hc => by obtain ⟨_, _, _, e⟩ := hc; cases e; exact .inr rfl) ⟨k4, by omega, fun c y hy => k5 c y hy fun ho => by obtain ⟨_, e⟩ := ho; cases e⟩
theorem rplace_ev (n : NoRef Sm) {s : St} {O : Nat → Prop} {b : Nat} {L : Pks} {sent : Nat} {now : Int} {fed : List Nat} {z : Nat} (hd : RN s O b L sent now fed z) (id : Int) (hL : L.length ≤ 1000)
    (h : Q (.val (.int .i64 (posP (L.map (·.2)) id 0)) s)) :
    Ev Try.prog Sm (.inv (.fn (.func 30) #[]) [.pointer (some ⟨b, 0, none⟩), .int .i64 id] s) Q := by
  refine Ev.func n.place Try.func30 rfl (m := 26) rfl ?_
  simp only [Array.toList_empty, List.append_nil, ofList_cons, ofList_nil]
  obtain ⟨pv, fv, g1, g2, g3, g4, g5, g6⟩ := hd.ex
  obtain ⟨hsrc, pa, pc, rfl⟩ := g2.src
  (try first | refine EvO.nx ?_ | refine EvA.nx ?_); repeat' (first | refine Abs.go ?_ | with_reducible refine Abs.fork (fun hb => ?_) (fun hb => ?_))
  refine Ev.loop (fun k a' s' => ∃ T, ∃ i : Nat, a' = ⟨T, 26, []⟩ ∧ T.get 0 = some (.pointer (some ⟨b, 0, none⟩)) ∧ T.get 1 = some (.int .i64 id) ∧ T.get 5 = some (.int .i64 ((i : Nat) : Int)) ∧ i ≤ L.length ∧ k = L.length - i ∧ s' = s ∧ posP ((L.map (·.2)).drop i) id i = posP (L.map (·.2)) id 0) (k := L.length) ⟨_, 0, rfl, ?g0, ?g1, ?g5, Nat.zero_le _, rfl, rfl, rfl⟩ ?_
  case g0 => simp (disch := first | omega | assumption) only [go_sem, ]
  case g1 => simp (disch := first | omega | assumption) only [go_sem, ]
  case g5 => simp (disch := first | omega | assumption) only [go_sem, ]; try rfl
  rintro k a' s2 ⟨T, i, rfl, t0, t1, t5, hi, rfl, rfl, hp⟩
  have hml : (L.map (·.2)).length = L.length := List.length_map ..
  by_cases hil : i < L.length
  · obtain ⟨xb, xo, xc, w, e, hw, hcut⟩ := pks_at hsrc rfl ⟨_, _, rfl⟩ hil
    cases e
    have hci := hcut i hil
    have hpd := posP_drop (L.map (·.2)) id (i := i) (by omega)
    rw [List.getElem_map] at hpd
    generalize L[i] = e at *
    obtain ⟨bv, q⟩ := e
    unfold pkC at hci
    simp only at hci hpd
    have hc0 : w[xo + i * 4]? = some (.int .i64 q.id) := cut_at hci (i := 0) rfl
    by_cases hq : q.id = id
    · rw [if_pos hq, hp] at hpd
      (try first | refine EvO.nx ?_ | refine EvA.nx ?_); repeat' (first | refine Abs.goH (Abs.cc t0 (Abs.cc t1 (Abs.cc t5 (Abs.cc g1 (Abs.cc hw (Abs.cc hci (hc0))))))) ?_ | with_reducible refine Abs.fork (fun hb => ?_) (fun hb => ?_))
      rw [← hpd]
      exact h
    · rw [if_neg hq, hp] at hpd
      (try first | refine EvO.nx ?_ | refine EvA.nx ?_); repeat' (first | refine Abs.goH (Abs.cc t0 (Abs.cc t1 (Abs.cc t5 (Abs.cc g1 (Abs.cc hw (Abs.cc hci (hc0))))))) ?_ | with_reducible refine Abs.fork (fun hb => ?_) (fun hb => ?_))
      refine ⟨L.length - (i + 1), by omega, _, i + 1, rfl, ?_, ?_, ?_, by omega, rfl, rfl, hpd.symm⟩
      · simp (disch := first | omega | assumption) only [go_sem, t0]
      · simp (disch := first | omega | assumption) only [go_sem, t1]
      · simp (disch := first | omega | assumption) only [go_sem, t5, Int.natCast_add, Int.natCast_one]
  · obtain rfl : i = L.length := by omega
    rw [posP_end _ _ (by omega)] at hp
    (try first | refine EvO.nx ?_ | refine EvA.nx ?_); repeat' (first | refine Abs.goH (Abs.cc t0 (Abs.cc t1 (Abs.cc t5 (g1)))) ?_ | with_reducible refine Abs.fork (fun hb => ?_) (fun hb => ?_))
    rw [hp]
    exact h
attribute [local go_sem] List.set_cons_zero List.set_cons_succ u8_lit0 rpk_lit
theorem rsend_ev (n : NoRef Sm) {s : St} (hwf : s.wf) {O : Nat → Prop} {b : Nat} {L : Pks} {sent : Nat} {now : Int} {fed : List Nat} {z : Nat} (hd : RN s O b L sent now fed z) {bv : Value} {l : List UInt8} (hb : BytesB s bv l) (hbb : ∀ c, inBlk bv c → c ≠ b) (hl : l.length ≤ 140737488351232) (from_ to : Int) (hL : L.length ≤ 1000) (hs : sent ≤ 1000)
    (h : ∀ s' O' v', Mv O O' s s' → RN s' O' b (L ++ [(v', ⟨((sent + 1 : Nat) : Int), from_, to, l⟩)]) (sent + 1) now fed z → Q (.val (.int .i64 ((sent + 1 : Nat) : Int)) s')) :
    Ev Try.prog Sm (.inv (.fn (.func 32) #[]) [.pointer (some ⟨b, 0, none⟩), .int .i64 from_, .int .i64 to, bv] s) Q := by
  refine Ev.func n.send Try.func32 rfl (m := 39) rfl ?_
  simp only [Array.toList_empty, List.append_nil, ofList_cons, ofList_nil]
  obtain ⟨pv, fv, h1, h2, h3, h4, h5, h6⟩ := hd.ex
  obtain ⟨⟨ba, bc, rfl⟩, _⟩ := id hb
  (try first | refine EvO.nx ?_ | refine EvA.nx ?_); repeat' (first | refine Abs.goH h1 ?_ | with_reducible refine Abs.fork (fun hb => ?_) (fun hb => ?_))
  have e1 : ((sent : Nat) : Int) + 1 = ((sent + 1 : Nat) : Int) := rfl
  rw [e1]
  have hd1 : RN ⟨s.heap.set b (.cells [pv, .int .i64 ((sent + 1 : Nat) : Int), .int .i64 now, fv, .int .u64 ((z : Nat) : Int)] 60 0 false (0, 0)), s.next⟩ O b L (sent + 1) now fed z := NetAt.put kdR ⟨_, h1⟩ h2 h3 h4 h5 h6 hd.bytes hd.own hd.lt
  have mv1 : Mv O O s ⟨s.heap.set b (.cells [pv, .int .i64 ((sent + 1 : Nat) : Int), .int .i64 now, fv, .int .u64 ((z : Nat) : Int)] 60 0 false (0, 0)), s.next⟩ := Mv.set hwf h1 hd.own
  have hb1 : BytesB ⟨s.heap.set b (.cells [pv, .int .i64 ((sent + 1 : Nat) : Int), .int .i64 now, fv, .int .u64 ((z : Nat) : Int)] 60 0 false (0, 0)), s.next⟩ (.slice ba l.length bc) l := ⟨hb.1, src_mono (fun c x hc hx => (get_other _ _ _ _ (hbb c hc)).trans hx) hb.2⟩
  generalize (⟨s.heap.set b (.cells [pv, .int .i64 ((sent + 1 : Nat) : Int), .int .i64 now, fv, .int .u64 ((z : Nat) : Int)] 60 0 false (0, 0)), s.next⟩ : St) = s1 at hd1 mv1 hb1 ⊢
  clear h1 h2 h3 h4 h5 h6 pv fv
  obtain ⟨pv, fv, g1, g2, g3, g4, g5, g6⟩ := hd1.ex
  have hveq := g2.veq
  obtain ⟨_, pa, pc, rfl⟩ := g2.src
  refine Abs.Ev.regionD (n := 20) (l := [.go 0, .go 1, .go 2, .go 3, .go 4, .go 5, .go 6, .go 7, .go 8, .go 9, .go 10, .go 12, .new 11 11, .go 13, .again 4, .again 8, .go 14, .new 15 15, .go 16, .go 17, .go 18, .go 19]) (by kernel_rfl) ?_
  (try first | refine EvO.nx ?_ | refine EvA.nx ?_); repeat' (first | refine Abs.goH (Abs.cc g1 (hveq)) ?_ | with_reducible refine Abs.fork (fun hb => ?_) (fun hb => ?_))
  have k0 := Keep.set2 ((Keep.refl mv1.wf).grow (Nat.le_add_right s1.next 20)) (b := s1.next + 11) (x := .cells [] 5 0 false (0, 0)) (by omega) (by omega) mv1.wf
  refine EvO.bytes0 k0.wf (get_same _ _ _) (srcCells_mono k0.old hb1.2) hl fun v' s2 t2 lo2 k2 => ?_
  have k02 := k0.trans k2
  have hn2 : s1.next + 20 ≤ s2.next := k2.next
  have hn1 := mv1.next
  have lo2 : ∀ c, inBlk v' c → c = s1.next + 11 ∨ c = s1.next + 20 := lo2
  have hkk : ∀ c x, O c → s1.heap.get c = some x → s2.heap.get c = some x := fun c x _ hx => k02.old c x hx
  have g1' := k02.old _ _ g1
  have w2 : Vec s2 67 4 (.slice pa L.length pc) L.length (cellsP L) := Vec.mono (s := s1) (fun c x _ hx => k02.old c x hx) g2
  have w3 : Fd s2 fv fed := g3.mono fun c x _ hx => k02.old c x hx
  have tb := t2.bytes
  have tk := t2.kb k2.wf (lo' := s.next) fun c hc => by have := lo2 c hc; omega
  obtain ⟨⟨va, vc, rfl⟩, _⟩ := id tb
  (try first | refine EvO.nx ?_ | refine EvA.nx ?_); repeat' (first | refine Abs.goH (Abs.cc g1' (hveq)) ?_ | with_reducible refine Abs.fork (fun hb => ?_) (fun hb => ?_))
  have kb := Keep.set2 k02 (b := s1.next + 15) (x := .cells [.int .i64 ((sent + 1 : Nat) : Int), .int .i64 from_, .int .i64 to, .slice va l.length vc] 67 0 false (0, 0)) (by omega) (by omega) mv1.wf
  have kbO : ∀ c x, O c → s2.heap.get c = some x → (s2.heap.set (s1.next + 15) (.cells [.int .i64 ((sent + 1 : Nat) : Int), .int .i64 from_, .int .i64 to, .slice va l.length vc] 67 0 false (0, 0))).get c = some x := fun c x hc hx => (get_other _ _ _ _ (by have := hd1.lt c hc; omega)).trans hx
  have kbV : ∀ c x, inBlk (.slice va l.length vc) c → s2.heap.get c = some x → (s2.heap.set (s1.next + 15) (.cells [.int .i64 ((sent + 1 : Nat) : Int), .int .i64 from_, .int .i64 to, .slice va l.length vc] 67 0 false (0, 0))).get c = some x := fun c x hc hx => (get_other _ _ _ _ (by have := lo2 c hc; omega)).trans hx
  have hgs : srcCells (s2.heap.set (s1.next + 15) (.cells [.int .i64 ((sent + 1 : Nat) : Int), .int .i64 from_, .int .i64 to, .slice va l.length vc] 67 0 false (0, 0))) 4 (.slice (some ⟨s1.next + 15, 0, none⟩) 1 1) = .ok (1, [.int .i64 ((sent + 1 : Nat) : Int), .int .i64 from_, .int .i64 to, .slice va l.length vc]) := src_cells (get_same _ _ _) rfl
  refine EvO.appendV (m := 1) (nw := [.int .i64 ((sent + 1 : Nat) : Int), .int .i64 from_, .int .i64 to, .slice va l.length vc]) kb.wf Try.underlying57 Ty.sz67 Ty.by67 Ty.ze67 rfl (by decide) (w2.mono fun c x hc hx => kbO c x (g4 c hc).1 hx) (by unfold open_; omega) ((appSrc_slice Try.underlying57).trans hgs) rfl rfl (by decide) (by omega) (by omega) fun v2 s3 k1 k2' k3 k4 k5 k6 => ?_
  have hn3 : s2.next ≤ s3.next := k4
  have g1'' := k5 _ _ (kbO _ _ hd1.own g1') fun l e => by cases e
  obtain ⟨bb, o, rfl, hbb2⟩ := k2'
  (try first | refine EvO.nx ?_ | refine EvA.nx ?_); repeat' (first | refine Abs.goH g1'' ?_ | with_reducible refine Abs.fork (fun hb => ?_) (fun hb => ?_))
  refine h _ _ _ ?_ (NetAt.snoc (st := ⟨s2.heap.set (s1.next + 15) (.cells [.int .i64 ((sent + 1 : Nat) : Int), .int .i64 from_, .int .i64 to, .slice va l.length vc] 67 0 false (0, 0)), s2.next⟩) (lo := s.next) kdR ⟨_, kbO _ _ hd1.own g1'⟩ (w3.mono fun c x hc hx => kbO c x (g5 c hc).1 hx) ((g4.mono (fun _ h => h) hkk).mono (fun _ h => h) kbO) ((g5.mono (fun _ h => h) hkk).mono (fun _ h => h) kbO) (fun e he => ?_) hd1.own (fun c hc => (by have := hd1.lt c hc; omega : c < s2.next)) ((t2.mono (fun _ _ h => h) (Nat.zero_le _)).keep kbV) (fun c hc => ?_) k1 ⟨bb, o, rfl, hbb2⟩ (by omega) k3 k4 k5 (by omega : s.next ≤ s2.next))
  · refine ⟨fun c x hx => ?_, (by omega : s.next ≤ s3.next), fun c x hc hx => ?_, fun c hc => hc.imp id fun h => h.1⟩
    · rcases Tr.get_set hx with ⟨rfl, _⟩ | ⟨_, hx⟩
      · exact k3 _ _ g1''
      · exact k3 _ _ hx
    · have h0 := mv1.old c x hc hx
      have h00 := mv1.wf _ _ h0
      refine (get_other _ _ _ _ fun e => hc (by rw [e]; exact hd1.own)).trans (k6 c x ((get_other _ _ _ _ (by omega : c ≠ s1.next + 15)).trans (k02.old c x h0)) fun hr => hc (g4 c hr.blk).1)
  · have q := hd1.bytes e he
    have q1 := q.1.of q.2 hkk
    exact ⟨q1.of (q.2.mono (fun _ h => h) hkk) kbO, (q.2.mono (fun _ h => h) hkk).mono (fun _ h => h) kbO⟩
  · obtain ⟨q1, w, sz, op, q2⟩ := tk c hc
    exact ⟨q1, w, sz, op, kbV c _ hc q2⟩
end
end Go.Proofs.Ytpbadpkleiogoaa
