/-
  simnet at the evaluator: numbers that are fed, packets that are told. No law in sight.
-/
import Derived.Test.YtpbadpkleiogoaaSNetEv3
import Derived.Test.YtpbadpkleiogoaaEvSet
set_option linter.unusedVariables false
set_option linter.unusedSimpArgs false
namespace Go.Proofs.Ytpbadpkleiogoaa
open Abs
set_option maxHeartbeats 16000000
set_option maxRecDepth 20000
set_option linter.unusedSimpArgs false
attribute [local irreducible] Abs.Ev Abs.EvF Abs.EvO Abs.EvA Abs.Seq Abs.Blk Abs.Body Abs.Scp Abs.EvG Abs.EvAg Abs.Nx
attribute [local go_sem] Try.underlying2 Ty.sz2 Ty.by2 Ty.ag2 Ty.ze2 Try.underlying3 Ty.sz3 Ty.by3 Ty.ag3 Ty.ze3 Try.underlying4 Ty.sz4 Ty.by4 Ty.ag4 Ty.ze4 Try.underlying5 Ty.sz5 Ty.by5 Ty.ag5 Ty.ze5 Try.underlying29 Ty.sz29 Ty.by29 Ty.ag29 Ty.ze29 Try.underlying45 Ty.sz45 Ty.by45 Ty.ag45 Ty.ze45 Try.underlying53 Ty.sz53 Ty.by53 Ty.ag53 Ty.ze53 Try.underlying58 Ty.sz58 Ty.by58 Ty.ag58 Ty.ze58 Try.underlying84 Ty.sz84 Ty.by84 Ty.ag84 Ty.ze84 Try.underlying85 Ty.sz85 Ty.by85 Ty.ag85 Ty.ze85 Try.underlying87 Ty.sz87 Ty.by87 Ty.ag87 Ty.ze87 Try.underlying90 Ty.sz90 Ty.by90 Ty.ag90 Ty.ze90
section
variable {Sm : Summ} {Q : Ans → Prop}
theorem u64_lit1 (v : Int) : aSliceLit Try.prog 29 1 [(0, .int .u64 v)] = .ok (.cells [.int .u64 v] 29 0 false (0, 0), fun n => .slice (some ⟨n, 0, none⟩) 1 1) := lit1 Ty.sz29 Ty.ze29 rfl rfl (by decide)
theorem u64C_app (l : List Nat) (x : Nat) : u64C (l ++ [x]) = u64C l ++ [.int .u64 ((x : Nat) : Int)] := by
  unfold u64C
  rw [List.map_append]
  rfl
/-- a number is put behind the others -/
theorem EvO.feed {st : St} {v : Value} {fed : List Nat} {O : Nat → Prop} {K : Value → St → Prop} (hwf : st.wf) (hf : Fd st v fed) (kf : KB 29 st O v) (hn : fed.length ≤ 1000) {x : Nat} {y : Value} (hy : srcCells st.heap 1 y = .ok (1, [.int .u64 ((x : Nat) : Int)]))
    (h : ∀ v' st', Fd st' v' (fed ++ [x]) → KB 29 st' (fun c => O c ∨ c = st.next) v' → st'.wf → st.next ≤ st'.next → (∀ c, c = st.next → c < st'.next ∨ ¬ inBlk v' c) → (∀ c y, st.heap.get c = some y → (∀ l, y ≠ .cells l 29 1 true (0, 0)) → st'.heap.get c = some y) → (∀ c y, st.heap.get c = some y → ¬ O c → st'.heap.get c = some y) → K v' st') :
    EvO (fun _ k => aAppend Try.prog st (58 :: [58]) v y fun v s => k v [] s) K := by
  cases hf with
  | vec hv hr =>
    refine EvO.appendV (m := 1) (nw := [.int .u64 ((x : Nat) : Int)]) hwf Try.underlying58 Ty.sz29 Ty.by29 Ty.ze29 rfl (by decide) hv (by unfold open_; omega) ((appSrc_slice Try.underlying58).trans hy) rfl rfl (by decide) (by omega) (by omega) fun v' st' k1 k2 k3 k4 k5 k6 => ?_
    obtain ⟨bb, o, rfl, hbb⟩ := k2
    obtain ⟨lv, hlv⟩ := k1.kind ⟨_, _, rfl⟩ (by unfold open_; omega)
    refine h _ st' (.vec (by rw [List.length_append, u64C_app]; exact k1) fun _ c hc => ?_) (fun c hc => ?_) k3 k4 (fun c hc => ?_) k5 fun c y hy hc => k6 c y hy fun hr => hc (kf c hr.blk).1
    · obtain ⟨_, _, _, e⟩ := hc
      cases e
      exact ⟨_, _, rfl⟩
    · obtain ⟨_, _, _, e⟩ := hc
      cases e
      exact ⟨hbb.elim .inr fun hr => .inl (kf _ hr.blk).1, lv, 1, true, hlv⟩
    · by_cases e : bb = st.next
      · exact .inl (by rw [hc, ← e]; exact k3 _ _ hlv)
      · exact .inr fun hb => by obtain ⟨_, _, _, e'⟩ := hb; cases e'; exact e hc
  | @gone b w hv hl hb =>
    subst hv
    subst hl
    refine EvO.appendEnd (m := 1) (nw := [.int .u64 ((x : Nat) : Int)]) hwf Try.underlying58 Ty.sz29 Ty.by29 Ty.ze29 rfl hb ((appSrc_slice Try.underlying58).trans hy) rfl rfl (by decide) (by decide) (by decide) fun st' k1 k2 k3 k4 => ?_
    refine h _ st' (.vec (.room k1 (Nat.zero_mod _) ⟨by simp, by simp⟩ rfl) fun _ c hc => ?_) (fun c hc => ?_) k2 (by omega) (fun c hc => .inl (by omega)) (fun c y hy hne => k4 c y hy fun e => ?_) fun c y hy hc => k4 c y hy fun e => hc ?_
    · obtain ⟨_, _, _, e⟩ := hc
      cases e
      exact ⟨_, _, rfl⟩
    · obtain ⟨_, _, _, e⟩ := hc
      cases e
      exact ⟨.inr rfl, _, _, _, k1⟩
    · subst e
      rw [hb] at hy
      cases hy
      exact hne _ rfl
    · subst e
      exact (kf _ ⟨_, _, _, rfl⟩).1
/-- the network whose numbers were fed -/
theorem NetAt.fed {tN tP : TypeId} {R : Prop} {st st' : St} {O : Nat → Prop} {b : Nat} {L : Pks} {sent : Nat} {now : Int} {fed' : List Nat} {z lo : Nat} (hK : Kd tN tP) {pv fv' : Value}
    (h1 : ∃ l, st.heap.get b = some (.cells l tN 0 false (0, 0))) (h2 : Vec st tP 4 pv L.length (cellsP L)) (h4 : KB tP st O pv) (h6 : L ≠ [] → ∀ c, inBlk pv c → inRoom pv c) (h7 : ∀ e ∈ L, TxtB st 0 e.1 e.2.b ∧ KB 5 st O e.1) (h8 : O b) (h9 : ∀ c, O c → c < st.next)
    (k1 : Fd st' fv' fed') (k2 : KB 29 st' (fun c => O c ∨ c = st.next) fv') (k3 : st'.wf) (k4 : st.next ≤ st'.next) (k5 : ∀ c y, st.heap.get c = some y → (∀ l, y ≠ .cells l 29 1 true (0, 0)) → st'.heap.get c = some y) (hlo : lo ≤ st.next) :
    NetAt tN tP R ⟨st'.heap.set b (.cells [pv, .int .i64 ((sent : Nat) : Int), .int .i64 now, fv', .int .u64 ((z : Nat) : Int)] tN 0 false (0, 0)), st'.next⟩ (fun c => O c ∨ lo ≤ c ∧ c < st'.next) b L sent now fed' z := by
  obtain ⟨w, h1⟩ := h1
  have kk : ∀ {t : TypeId} {v : Value}, t ≠ 29 → KB t st O v → KB t st' (fun c => O c ∨ lo ≤ c ∧ c < st'.next) v ∧ ∀ c x, inBlk v c → st.heap.get c = some x → st'.heap.get c = some x := fun ht hk => by
    refine ⟨fun c hc => ?_, fun c x hc hx => ?_⟩
    · obtain ⟨q1, l, sz, op, q2⟩ := hk c hc
      exact ⟨.inl q1, l, sz, op, k5 c _ q2 fun l' e => by cases e; exact ht rfl⟩
    · obtain ⟨q1, l, sz, op, q2⟩ := hk c hc
      rw [q2] at hx
      cases hx
      exact k5 c _ q2 fun l' e => by cases e; exact ht rfl
  have kp := kk hK.p64 h4
  have e8 : 5 ≠ 29 := by decide
  refine NetAt.put hK ⟨w, k5 b _ h1 fun l e => by cases e⟩ (h2.mono kp.2) k1 kp.1 (fun c hc => ?_) h6 (fun e he => ?_) (.inl h8) fun c hc => hc.elim (fun h => Nat.lt_of_lt_of_le (h9 c h) k4) fun h => h.2
  · obtain ⟨q1, l, sz, op, q2⟩ := k2 c hc
    exact ⟨q1.elim .inl fun e => .inr ⟨by rw [e]; exact hlo, k3 _ _ q2⟩, l, sz, op, q2⟩
  · have q := kk e8 (h7 e he).2
    exact ⟨(h7 e he).1.keep q.2, q.1⟩
attribute [local go_sem] u64_lit1 List.set_cons_zero List.set_cons_succ
theorem nfeed_ev (n : NoNet Sm) {s : St} (hwf : s.wf) {O : Nat → Prop} {b : Nat} {L : Pks} {sent : Nat} {now : Int} {fed : List Nat} {z : Nat} (hd : SN s O b L sent now fed z) (hf : fed.length ≤ 900) (x : Nat)
    (h : ∀ s' O', Mv O O' s s' → SN s' O' b L sent now (fed ++ [x]) z → Q (.val (.tuple #[]) s')) :
    Ev Try.prog Sm (.inv (.fn (.func 34) #[]) [.pointer (some ⟨b, 0, none⟩), .int .u64 ((x : Nat) : Int)] s) Q := by
  refine Ev.func n.feed Try.func34 rfl (m := 14) rfl ?_
  simp only [Array.toList_empty, List.append_nil, ofList_cons, ofList_nil]
  obtain ⟨pv, fv, g1, g2, g3, g4, g5, g6⟩ := hd.ex
  obtain ⟨fa, fc, rfl⟩ := g3.len
  have kb := (Keep.refl hwf).new (.cells [.int .u64 ((x : Nat) : Int)] 29 0 false (0, 0))
  have g1b := kb.old _ _ g1
  (try first | refine EvO.nx ?_ | refine EvA.nx ?_); repeat' (first | refine Abs.goH g1 ?_ | with_reducible refine Abs.fork (fun hb => ?_) (fun hb => ?_))
  refine EvO.feed kb.wf (g3.mono fun c x _ hx => kb.old c x hx) (g5.mono (fun _ h => h) fun c x _ hx => kb.old c x hx) (by omega) (src_cells (get_same _ _ _) rfl) fun v3 s3 k1 k2 k3 k4 _ k5 k6 => ?_
  have hn3 : s.next + 1 ≤ s3.next := k4
  have g1c := k5 _ _ g1b fun l e => by cases e
  obtain ⟨va, vc, rfl⟩ := k1.len
  (try first | refine EvO.nx ?_ | refine EvA.nx ?_); repeat' (first | refine Abs.goH g1c ?_ | with_reducible refine Abs.fork (fun hb => ?_) (fun hb => ?_))
  refine h _ _ ⟨fun c y hy => ?_, (by omega : s.next ≤ s3.next), fun c y hc hy => ?_, fun c hc => hc.imp id fun h => h.1⟩ (NetAt.fed (lo := s.next) kdN ⟨_, g1b⟩ (Vec.mono (s := s) (fun c x _ hx => kb.old c x hx) g2) (g4.mono (fun _ h => h) fun c x _ hx => kb.old c x hx) g6 (fun e he => ⟨(hd.bytes e he).1.keep fun c x _ hx => kb.old c x hx, (hd.bytes e he).2.mono (fun _ h => h) fun c x _ hx => kb.old c x hx⟩) hd.own (fun c hc => Nat.lt_succ_of_lt (hd.lt c hc)) k1 k2 k3 k4 k5 (Nat.le_succ _))
  · rcases Tr.get_set hy with ⟨rfl, _⟩ | ⟨_, hy⟩
    · exact k3 _ _ g1c
    · exact k3 _ _ hy
  · exact (get_other _ _ _ _ fun e => hc (by rw [e]; exact hd.own)).trans (k6 c y (kb.old c y hy) hc)
def pktC (p : PK) : List Value := [.int .i64 p.id, .int .i64 p.from_, .int .i64 p.to, .int .i64 ((p.b.length : Nat) : Int)]
def cellsK (ps : List PK) : List Value := ps.flatMap pktC
theorem cellsK_snoc (ps : List PK) (p : PK) : cellsK (ps ++ [p]) = cellsK ps ++ pktC p := by
  unfold cellsK
  rw [List.flatMap_append, List.flatMap_singleton]
theorem pkt_lit (a b c d : Value) : aSliceLit Try.prog 84 1 [(0, .agg ⟨[a, b, c, d]⟩)] = .ok (.cells [a, b, c, d] 84 0 false (0, 0), fun n => .slice (some ⟨n, 0, none⟩) 1 1) := lit1 Ty.sz84 Ty.ze84 rfl rfl (by decide)
theorem pkt_build (a b c d : Int) : aBuild Try.prog 84 [(0, .int .i64 a), (1, .int .i64 b), (2, .int .i64 c), (3, .int .i64 d)] = .ok (.agg ⟨[.int .i64 a, .int .i64 b, .int .i64 c, .int .i64 d]⟩) := by kernel_rfl
attribute [local go_sem] pkt_lit pkt_build Abs.pBuild
theorem npackets_ev (n : NoNet Sm) {s : St} (hwf : s.wf) {O : Nat → Prop} {b : Nat} {L : Pks} {sent : Nat} {now : Int} {fed : List Nat} {z : Nat} (hd : SN s O b L sent now fed z) (hL : L.length ≤ 1000) (hlen : ∀ e ∈ L, e.2.b.length ≤ 140737488351232)
    (h : ∀ v s', Keep s s' → Own s' s.next 84 4 v L.length (cellsK (L.map (·.2))) → Q (.val v s')) :
    Ev Try.prog Sm (.inv (.fn (.func 29) #[]) [.pointer (some ⟨b, 0, none⟩)] s) Q := by
  refine Ev.func n.packets Try.func29 rfl (m := 30) rfl ?_
  simp only [Array.toList_empty, List.append_nil, ofList_cons, ofList_nil]
  obtain ⟨pv, fv, g1, g2, g3, g4, g5, g6⟩ := hd.ex
  obtain ⟨hsrc, pa, pc, rfl⟩ := g2.src
  (try first | refine EvO.nx ?_ | refine EvA.nx ?_); repeat' (first | refine Abs.goH g1 ?_ | with_reducible refine Abs.fork (fun hb => ?_) (fun hb => ?_))
  refine Ev.loop (fun k a' s' => ∃ T, ∃ i : Nat, ∃ v, a' = ⟨T, 30, []⟩ ∧ T.get 3 = some v ∧ T.get 9 = some (.slice pa L.length pc) ∧ T.get 10 = some (.int .i64 (L.length : Int)) ∧ T.get 11 = some (.int .i64 ((i : Nat) : Int)) ∧ i ≤ L.length ∧ k = L.length - i ∧ Keep s s' ∧ Own s' s.next 84 4 v i (cellsK ((L.map (·.2)).take i))) (k := L.length) ⟨_, 0, .slice none 0 0, rfl, ?g3, ?g9, ?g10, ?g11, Nat.zero_le _, rfl, Keep.refl hwf, Own.nil⟩ ?_
  case g3 => simp (disch := first | omega | assumption) only [go_sem, ]
  case g9 => simp (disch := first | omega | assumption) only [go_sem, ]
  case g10 => simp (disch := first | omega | assumption) only [go_sem, ]
  case g11 => simp (disch := first | omega | assumption) only [go_sem, ]; try rfl
  rintro k a' s2 ⟨T, i, v, rfl, t3, t9, t10, t11, hi, rfl, k2, ho⟩
  by_cases hil : i < L.length
  · obtain ⟨xb, xo, xc, w, e, hw, hcut⟩ := pks_at hsrc rfl ⟨_, _, rfl⟩ hil
    cases e
    have hw' := obj_old k2.old hw
    have hci := hcut i hil
    have hmem := hd.bytes L[i] (List.getElem_mem hil)
    have hln := hlen L[i] (List.getElem_mem hil)
    have htk : (L.map (·.2)).take (i + 1) = (L.map (·.2)).take i ++ [L[i].2] := by
      rw [List.take_succ_eq_append_getElem (by rw [List.length_map]; exact hil), List.getElem_map]
    generalize L[i] = e at *
    obtain ⟨bv, q⟩ := e
    unfold pkC at hci
    simp only at hci hmem htk hln
    obtain ⟨⟨va, vc, rfl⟩, _⟩ := hmem.1.bytes
    obtain ⟨_, oa, oc, rfl⟩ := ho.vec.src
    have kb := (Keep.refl k2.wf).new2 k2.wf (.cells [.int .i64 0, .int .i64 0, .int .i64 0, .slice none 0 0] 90 0 false (0, 0)) (.cells [.int .i64 q.id, .int .i64 q.from_, .int .i64 q.to, .slice va q.b.length vc] 90 0 false (0, 0))
    have kc := kb.new (.cells [.int .i64 q.id, .int .i64 q.from_, .int .i64 q.to, .int .i64 ((q.b.length : Nat) : Int)] 84 0 false (0, 0))
    (try first | refine EvO.nx ?_ | refine EvA.nx ?_); repeat' (first | refine Abs.goH (Abs.cc t3 (Abs.cc t9 (Abs.cc t10 (Abs.cc t11 (Abs.cc hw' (hci)))))) ?_ | with_reducible refine Abs.fork (fun hb => ?_) (fun hb => ?_))
    have hgs : srcCells (((s2.heap.set s2.next (.cells [.int .i64 0, .int .i64 0, .int .i64 0, .slice none 0 0] 90 0 false (0, 0))).set s2.next (.cells [.int .i64 q.id, .int .i64 q.from_, .int .i64 q.to, .slice va q.b.length vc] 90 0 false (0, 0))).set (s2.next + 1) (.cells [.int .i64 q.id, .int .i64 q.from_, .int .i64 q.to, .int .i64 ((q.b.length : Nat) : Int)] 84 0 false (0, 0))) 4 (.slice (some ⟨s2.next + 1, 0, none⟩) 1 1) = .ok (1, pktC q) := src_cells (get_same _ _ _) rfl
    refine EvO.appendOwn (m := 1) (nw := pktC q) kc.wf Try.underlying53 Ty.sz84 Ty.by84 Ty.ze84 rfl (by decide) (ho.mono fun c l _ hx => kc.old c _ hx) (k2.trans kc).next ((appSrc_slice Try.underlying53).trans hgs) rfl rfl (by decide) (by omega) (by omega) fun v6 s6 o6 w6 n6 b6 p6 => ?_
    (try first | refine EvO.nx ?_ | refine EvA.nx ?_); repeat' (first | refine Abs.goH (Abs.cc t3 (Abs.cc t9 (Abs.cc t10 (t11)))) ?_ | with_reducible refine Abs.fork (fun hb => ?_) (fun hb => ?_))
    refine ⟨L.length - (i + 1), by omega, _, i + 1, v6, rfl, ?_, ?_, ?_, ?_, by omega, rfl, (k2.trans kc).but w6 n6 p6 hwf, by rw [htk, cellsK_snoc]; exact o6⟩
    · simp (disch := first | omega | assumption) only [go_sem, ]
    · simp (disch := first | omega | assumption) only [go_sem, t9]
    · simp (disch := first | omega | assumption) only [go_sem, t10]
    · simp (disch := first | omega | assumption) only [go_sem, t11, Int.natCast_add, Int.natCast_one]
  · obtain rfl : i = L.length := by omega
    (try first | refine EvO.nx ?_ | refine EvA.nx ?_); repeat' (first | refine Abs.goH (Abs.cc t3 (Abs.cc t9 (Abs.cc t10 (t11)))) ?_ | with_reducible refine Abs.fork (fun hb => ?_) (fun hb => ?_))
    rw [List.take_of_length_le (by rw [List.length_map]; exact Nat.le_refl _)] at ho
    exact h _ _ k2 ho
end
end Go.Proofs.Ytpbadpkleiogoaa
