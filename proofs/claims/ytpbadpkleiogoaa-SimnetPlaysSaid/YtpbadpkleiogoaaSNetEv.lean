/-
  simnet at the evaluator: what its functions do. No law in sight.
-/
import Derived.Test.YtpbadpkleiogoaaSNet
import Derived.Test.YtpbadpkleiogoaaEvSet
set_option linter.unusedVariables false
set_option linter.unusedSimpArgs false
namespace Go.Proofs.Ytpbadpkleiogoaa
open Abs
set_option maxHeartbeats 16000000
set_option maxRecDepth 20000
set_option linter.unusedSimpArgs false
attribute [local irreducible] Abs.Ev Abs.EvF Abs.EvO Abs.EvA Abs.Seq Abs.Blk Abs.Body Abs.Scp Abs.EvG Abs.EvAg Abs.Nx
attribute [local go_sem] Try.underlying2 Ty.sz2 Ty.by2 Ty.ag2 Ty.ze2 Try.underlying3 Ty.sz3 Ty.by3 Ty.ag3 Ty.ze3 Try.underlying4 Ty.sz4 Ty.by4 Ty.ag4 Ty.ze4 Try.underlying5 Ty.sz5 Ty.by5 Ty.ag5 Ty.ze5 Try.underlying29 Ty.sz29 Ty.by29 Ty.ag29 Ty.ze29 Try.underlying45 Ty.sz45 Ty.by45 Ty.ag45 Ty.ze45 Try.underlying53 Ty.sz53 Ty.by53 Ty.ag53 Ty.ze53 Try.underlying58 Ty.sz58 Ty.by58 Ty.ag58 Ty.ze58 Try.underlying84 Ty.sz84 Ty.by84 Ty.ag84 Ty.ze84 Try.underlying85 Ty.sz85 Ty.by85 Ty.ag85 Ty.ze85 Try.underlying87 Ty.sz87 Ty.by87 Ty.ag87 Ty.ze87 Try.underlying90 Ty.sz90 Ty.by90 Ty.ag90 Ty.ze90
section
variable {Sm : Summ} {Q : Ans → Prop}
structure NoNet (Sm : Summ) : Prop where
  new : Sm 23 = none
  send : Sm 31 = none
  find : Sm 40 = none
  find1 : Sm 44 = none
  index : Sm 43 = none
  delete : Sm 41 = none
  deliver : Sm 24 = none
  double : Sm 25 = none
  drop : Sm 26 = none
  tick : Sm 27 = none
  feed : Sm 34 = none
  rand : Sm 35 = none
  packets : Sm 29 = none
  sent : Sm 39 = none
  now : Sm 28 = none
  clone : Sm 42 = none
theorem kdN : Kd 87 90 := ⟨by decide, by decide, by decide, by decide, by decide⟩
abbrev SN (s : St) (O : Nat → Prop) (b : Nat) (L : Pks) (sent : Nat) (now : Int) (fed : List Nat) (z : Nat) : Prop := NetAt 87 90 True s O b L sent now fed z
theorem nnew_ev (n : NoNet Sm) {s : St} (hwf : s.wf) (h : ∀ s' O b, Keep s s' → (∀ c, O c → s.next ≤ c) → SN s' O b [] 0 0 [] 0 → Q (.val (.pointer (some ⟨b, 0, none⟩)) s')) :
    Ev Try.prog Sm (.inv (.fn (.func 23) #[]) [] s) Q := by
  refine Ev.func n.new Try.func23 rfl (m := 3) rfl ?_
  simp only [Array.toList_empty, List.append_nil, ofList_cons, ofList_nil]
  (try first | refine EvO.nx ?_ | refine EvA.nx ?_); repeat' (first | refine Abs.go ?_ | with_reducible refine Abs.fork (fun hb => ?_) (fun hb => ?_))
  have k := (Keep.refl hwf).new (.cells [.slice none 0 0, .int .i64 0, .int .i64 0, .slice none 0 0, .int .u64 0] 87 0 false (0, 0))
  refine h _ (fun c => c = s.next) _ k (fun c hc => by omega) ⟨⟨_, _, get_same _ _ _, .nil, .vec .nil fun h => absurd rfl h, KB.nil _ _ _ _ _, KB.nil _ _ _ _ _, fun _ c hc => by obtain ⟨_, _, _, e⟩ := hc; cases e⟩, fun e he => (by cases he), rfl, fun c hc => by subst hc; exact Nat.lt_succ_self _⟩
/-- a packet is put behind the others -/
theorem NetAt.snoc {tN tP : TypeId} {R : Prop} {st st' : St} {O : Nat → Prop} {b : Nat} {L : Pks} {sent : Nat} {now : Int} {fed : List Nat} {z lo : Nat} (hK : Kd tN tP) {pv fv : Value}
    (h1 : ∃ l, st.heap.get b = some (.cells l tN 0 false (0, 0))) (h3 : Fd st fv fed) (h4 : KB tP st O pv) (h5 : KB 29 st O fv) (h7 : ∀ e ∈ L, TxtB st 0 e.1 e.2.b ∧ KB 5 st O e.1) (h8 : O b) (h9 : ∀ c, O c → c < st.next) {v' : Value} {p : PK} (hb : TxtB st 0 v' p.b) (kb : KB 5 st (fun c => lo ≤ c ∧ c < st.next) v')
    {v2 : Value} (k1 : Vec st' tP 4 v2 (L.length + 1) (cellsP L ++ pkC (v', p))) (k2 : ∃ bb o, v2 = .slice (some ⟨bb, o, none⟩) (L.length + 1) open_ ∧ (bb = st.next ∨ inRoom pv bb)) (hL : L.length ≤ 1000000) (k3 : st'.wf) (k4 : st.next ≤ st'.next) (k5 : SameBut tP 4 st st') (hlo : lo ≤ st.next) :
    NetAt tN tP R ⟨st'.heap.set b (.cells [v2, .int .i64 ((sent : Nat) : Int), .int .i64 now, fv, .int .u64 ((z : Nat) : Int)] tN 0 false (0, 0)), st'.next⟩ (fun c => O c ∨ lo ≤ c ∧ c < st'.next) b (L ++ [(v', p)]) sent now fed z := by
  obtain ⟨w, h1⟩ := h1
  obtain ⟨bb, o, rfl, hbb⟩ := k2
  have e1 : (L ++ [(v', p)]).length = L.length + 1 := by rw [List.length_append]; rfl
  have kk : ∀ {t : TypeId} {v : Value} {P : Nat → Prop}, t ≠ tP → (∀ c, P c → O c ∨ lo ≤ c ∧ c < st'.next) → KB t st P v → KB t st' (fun c => O c ∨ lo ≤ c ∧ c < st'.next) v ∧ ∀ c x, inBlk v c → st.heap.get c = some x → st'.heap.get c = some x := fun ht hP hk => by
    refine ⟨fun c hc => ?_, fun c x hc hx => ?_⟩
    · obtain ⟨q1, l, sz, op, q2⟩ := hk c hc
      exact ⟨hP c q1, l, sz, op, k5 c _ q2 fun l' e => by cases e; exact ht rfl⟩
    · obtain ⟨q1, l, sz, op, q2⟩ := hk c hc
      rw [q2] at hx
      cases hx
      exact k5 c _ q2 fun l' e => by cases e; exact ht rfl
  have kf := kk hK.p64.symm (fun c hc => .inl hc) h5
  obtain ⟨lv, hlv⟩ := k1.kind ⟨_, _, rfl⟩ (by unfold open_; omega)
  refine NetAt.put hK ⟨w, k5 b _ h1 fun l e => by cases e⟩ (by rw [e1, cellsP_app, cellsP_one]; exact k1) (h3.mono kf.2) (fun c hc => ?_) kf.1 (fun _ c hc => ?_) (fun e he => ?_) (.inl h8) fun c hc => hc.elim (fun h => Nat.lt_of_lt_of_le (h9 c h) k4) fun h => h.2
  · obtain ⟨_, _, _, e⟩ := hc
    cases e
    refine ⟨?_, lv, 4, true, hlv⟩
    rcases hbb with rfl | hbb
    · exact .inr ⟨hlo, k3 _ _ hlv⟩
    · exact .inl (h4 _ hbb.blk).1
  · obtain ⟨_, _, _, e⟩ := hc
    cases e
    exact ⟨_, _, rfl⟩
  · rcases List.mem_append.1 he with he | he
    · have q := kk hK.p8.symm (fun c hc => .inl hc) (h7 e he).2
      exact ⟨(h7 e he).1.keep q.2, q.1⟩
    · rw [List.mem_singleton] at he
      subst he
      have q := kk hK.p8.symm (fun c hc => .inr ⟨hc.1, Nat.lt_of_lt_of_le hc.2 k4⟩) kb
      exact ⟨hb.keep q.2, q.1⟩
theorem TxtB.kb {s : St} (hwf : s.wf) {lo : Nat} {v : Value} {l : List UInt8} (h : TxtB s lo v l) {lo' : Nat} (hlo : ∀ c, inBlk v c → lo' ≤ c) : KB 5 s (fun c => lo' ≤ c ∧ c < s.next) v := fun c hc => by
  have h0 := hlo c hc
  cases h with
  | nil => obtain ⟨_, _, _, e⟩ := hc; cases e
  | zero hz =>
    obtain ⟨_, _, _, e⟩ := hc
    cases e
    exact ⟨⟨h0, hwf _ _ hz⟩, _, _, _, hz⟩
  | own hz hne hb =>
    obtain ⟨_, _, _, e⟩ := hc
    cases e
    exact ⟨⟨h0, hwf _ _ hz⟩, _, _, _, hz⟩
theorem wtg_lit (a b c d : Value) : aSliceLit Try.prog 90 1 [(0, .agg ⟨[a, b, c, d]⟩)] = .ok (.cells [a, b, c, d] 90 0 false (0, 0), fun n => .slice (some ⟨n, 0, none⟩) 1 1) := lit1 Ty.sz90 Ty.ze90 rfl rfl (by decide)
attribute [local go_sem] List.set_cons_zero List.set_cons_succ wtg_lit
theorem nsend_ev (n : NoNet Sm) {s : St} (hwf : s.wf) {O : Nat → Prop} {b : Nat} {L : Pks} {sent : Nat} {now : Int} {fed : List Nat} {z : Nat} (hd : SN s O b L sent now fed z) {bv : Value} {l : List UInt8} (hb : BytesB s bv l) (hbb : ∀ c, inBlk bv c → c ≠ b) (hl : l.length ≤ 140737488351232) (from_ to : Int) (hL : L.length ≤ 1000) (hs : sent ≤ 1000)
    (h : ∀ s' O' v', Mv O O' s s' → SN s' O' b (L ++ [(v', ⟨((sent + 1 : Nat) : Int), from_, to, l⟩)]) (sent + 1) now fed z → Q (.val (.int .i64 ((sent + 1 : Nat) : Int)) s')) :
    Ev Try.prog Sm (.inv (.fn (.func 31) #[]) [.pointer (some ⟨b, 0, none⟩), .int .i64 from_, .int .i64 to, bv] s) Q := by
  refine Ev.func n.send Try.func31 rfl (m := 38) rfl ?_
  simp only [Array.toList_empty, List.append_nil, ofList_cons, ofList_nil]
  obtain ⟨pv, fv, h1, h2, h3, h4, h5, h6⟩ := hd.ex
  (try first | refine EvO.nx ?_ | refine EvA.nx ?_); repeat' (first | refine Abs.goH h1 ?_ | with_reducible refine Abs.fork (fun hb => ?_) (fun hb => ?_))
  have e1 : ((sent : Nat) : Int) + 1 = ((sent + 1 : Nat) : Int) := rfl
  rw [e1]
  have hd1 : SN ⟨s.heap.set b (.cells [pv, .int .i64 ((sent + 1 : Nat) : Int), .int .i64 now, fv, .int .u64 ((z : Nat) : Int)] 87 0 false (0, 0)), s.next⟩ O b L (sent + 1) now fed z := NetAt.put kdN ⟨_, h1⟩ h2 h3 h4 h5 h6 hd.bytes hd.own hd.lt
  have mv1 : Mv O O s ⟨s.heap.set b (.cells [pv, .int .i64 ((sent + 1 : Nat) : Int), .int .i64 now, fv, .int .u64 ((z : Nat) : Int)] 87 0 false (0, 0)), s.next⟩ := Mv.set hwf h1 hd.own
  have hb1 : BytesB ⟨s.heap.set b (.cells [pv, .int .i64 ((sent + 1 : Nat) : Int), .int .i64 now, fv, .int .u64 ((z : Nat) : Int)] 87 0 false (0, 0)), s.next⟩ bv l := ⟨hb.1, src_mono (fun c x hc hx => (get_other _ _ _ _ (hbb c hc)).trans hx) hb.2⟩
  generalize (⟨s.heap.set b (.cells [pv, .int .i64 ((sent + 1 : Nat) : Int), .int .i64 now, fv, .int .u64 ((z : Nat) : Int)] 87 0 false (0, 0)), s.next⟩ : St) = s1 at hd1 mv1 hb1 ⊢
  clear h1 h2 h3 h4 h5 h6 pv fv
  obtain ⟨pv, fv, g1, g2, g3, g4, g5, g6⟩ := hd1.ex
  refine Abs.Ev.regionD (n := 19) (l := [.go 0, .go 1, .go 2, .go 3, .go 4, .go 5, .go 6, .go 7, .go 8, .go 9, .go 10, .go 11, .go 12, .again 4, .again 8, .go 13, .new 14 14, .go 15, .go 16, .go 17, .go 18]) (by kernel_rfl) ?_
  (try first | refine EvO.nx ?_ | refine EvA.nx ?_); repeat' (first | refine Abs.goH g1 ?_ | with_reducible refine Abs.fork (fun hb => ?_) (fun hb => ?_))
  have k0 := (Keep.refl mv1.wf).grow (Nat.le_add_right s1.next 19)
  refine clone_ev n.clone k0.wf (hb1.mono k0.old) hl fun v' s2 k2 t2 lo2 => ⟨_, _, rfl, ?_⟩
  have hn2 : s1.next + 19 ≤ s2.next := k2.next
  have hn1 := mv1.next
  have hkk : ∀ c x, O c → s1.heap.get c = some x → s2.heap.get c = some x := fun c x _ hx => k2.old c x hx
  have g1' := k2.old _ _ g1
  have w2 : Vec s2 90 4 pv L.length (cellsP L) := Vec.mono (s := s1) (fun c x _ hx => k2.old c x hx) g2
  have w3 : Fd s2 fv fed := g3.mono fun c x _ hx => k2.old c x hx
  have hveq := g2.veq
  obtain ⟨_, pa, pc, rfl⟩ := g2.src
  have tb := t2.bytes
  have tk := t2.kb k2.wf (lo' := s.next) fun c hc => Nat.le_trans hn1 (Nat.le_trans (Nat.le_add_right _ _) (lo2 c hc))
  obtain ⟨⟨va, vc, rfl⟩, _⟩ := id tb
  (try first | refine EvO.nx ?_ | refine EvA.nx ?_); repeat' (first | refine Abs.goH (Abs.cc g1' (hveq)) ?_ | with_reducible refine Abs.fork (fun hb => ?_) (fun hb => ?_))
  have kb := Keep.set2 (k0.trans k2) (b := s1.next + 14) (x := .cells [.int .i64 ((sent + 1 : Nat) : Int), .int .i64 from_, .int .i64 to, .slice va l.length vc] 90 0 false (0, 0)) (by omega) (by omega) mv1.wf
  have kbO : ∀ c x, O c → s2.heap.get c = some x → (s2.heap.set (s1.next + 14) (.cells [.int .i64 ((sent + 1 : Nat) : Int), .int .i64 from_, .int .i64 to, .slice va l.length vc] 90 0 false (0, 0))).get c = some x := fun c x hc hx => (get_other _ _ _ _ (by have := hd1.lt c hc; omega)).trans hx
  have kbV : ∀ c x, inBlk (.slice va l.length vc) c → s2.heap.get c = some x → (s2.heap.set (s1.next + 14) (.cells [.int .i64 ((sent + 1 : Nat) : Int), .int .i64 from_, .int .i64 to, .slice va l.length vc] 90 0 false (0, 0))).get c = some x := fun c x hc hx => (get_other _ _ _ _ (by have : s1.next + 19 ≤ c := lo2 c hc; omega)).trans hx
  have hgs : srcCells (s2.heap.set (s1.next + 14) (.cells [.int .i64 ((sent + 1 : Nat) : Int), .int .i64 from_, .int .i64 to, .slice va l.length vc] 90 0 false (0, 0))) 4 (.slice (some ⟨s1.next + 14, 0, none⟩) 1 1) = .ok (1, [.int .i64 ((sent + 1 : Nat) : Int), .int .i64 from_, .int .i64 to, .slice va l.length vc]) := src_cells (get_same _ _ _) rfl
  refine EvO.appendV (m := 1) (nw := [.int .i64 ((sent + 1 : Nat) : Int), .int .i64 from_, .int .i64 to, .slice va l.length vc]) kb.wf Try.underlying85 Ty.sz90 Ty.by90 Ty.ze90 rfl (by decide) (w2.mono fun c x hc hx => kbO c x (g4 c hc).1 hx) (by unfold open_; omega) ((appSrc_slice Try.underlying85).trans hgs) rfl rfl (by decide) (by omega) (by omega) fun v2 s3 k1 k2' k3 k4 k5 k6 => ?_
  have hn3 : s2.next ≤ s3.next := k4
  have g1'' := k5 _ _ (kbO _ _ hd1.own g1') fun l e => by cases e
  obtain ⟨bb, o, rfl, hbb2⟩ := k2'
  (try first | refine EvO.nx ?_ | refine EvA.nx ?_); repeat' (first | refine Abs.goH g1'' ?_ | with_reducible refine Abs.fork (fun hb => ?_) (fun hb => ?_))
  refine h _ _ _ ?_ (NetAt.snoc (st := ⟨s2.heap.set (s1.next + 14) (.cells [.int .i64 ((sent + 1 : Nat) : Int), .int .i64 from_, .int .i64 to, .slice va l.length vc] 90 0 false (0, 0)), s2.next⟩) (lo := s.next) kdN ⟨_, kbO _ _ hd1.own g1'⟩ (w3.mono fun c x hc hx => kbO c x (g5 c hc).1 hx) ((g4.mono (fun _ h => h) hkk).mono (fun _ h => h) kbO) ((g5.mono (fun _ h => h) hkk).mono (fun _ h => h) kbO) (fun e he => ?_) hd1.own (fun c hc => (by have := hd1.lt c hc; omega : c < s2.next)) ((t2.mono (fun _ _ h => h) (Nat.zero_le _)).keep kbV) (fun c hc => ?_) k1 ⟨bb, o, rfl, hbb2⟩ (by omega) k3 k4 k5 (by omega : s.next ≤ s2.next))
  · refine ⟨fun c x hx => ?_, (by omega : s.next ≤ s3.next), fun c x hc hx => ?_, fun c hc => hc.imp id fun h => h.1⟩
    · rcases Tr.get_set hx with ⟨rfl, _⟩ | ⟨_, hx⟩
      · exact k3 _ _ g1''
      · exact k3 _ _ hx
    · have h0 := mv1.old c x hc hx
      have h00 := mv1.wf _ _ h0
      refine (get_other _ _ _ _ fun e => hc (by rw [e]; exact hd1.own)).trans (k6 c x ((get_other _ _ _ _ (by omega : c ≠ s1.next + 14)).trans (k2.old c x h0)) fun hr => hc (g4 c hr.blk).1)
  · have q := hd1.bytes e he
    have q1 := q.1.of q.2 hkk
    exact ⟨q1.of (q.2.mono (fun _ h => h) hkk) kbO, (q.2.mono (fun _ h => h) hkk).mono (fun _ h => h) kbO⟩
  · obtain ⟨q1, w, sz, op, q2⟩ := tk c hc
    exact ⟨q1, w, sz, op, kbV c _ hc q2⟩
theorem pks_at {s : St} {v : Value} {n : Nat} {L : Pks} (hv : srcCells s.heap 4 v = .ok (n, cellsP L)) (hn : n = L.length) (hx : ∃ a c, v = .slice a n c) {i : Nat} (hi : i < L.length) : ∃ (b o c : Nat) (w : List Value), v = .slice (some ⟨b, o, none⟩) n c ∧ objCells (s.heap.get b) = .ok w ∧ ∀ i (h : i < L.length), cutN w (o + i * 4) 4 = some (pkC L[i]) := by
  subst hn
  obtain ⟨a, c, rfl⟩ := hx
  cases a with
  | none =>
    exfalso
    have e : (0 : Nat) = L.length := congrArg (fun r => match r with | .ok (n, _) => n | _ => 0) hv
    omega
  | some q =>
    obtain ⟨b, o, sp⟩ := q
    cases sp with
    | some _ => cases hv
    | none =>
      obtain ⟨w, hw, hcut, hlen⟩ := src_parts hv
      refine ⟨b, o, c, w, rfl, hw, fun j hj => ?_⟩
      rw [cutN_eq, if_pos (by omega), ← cellsP_at L j hj, ← hcut, List.drop_take, List.take_take, List.drop_drop, Nat.min_eq_left (by omega)]
theorem obj_old {s s' : St} (hk : ∀ b x, s.heap.get b = some x → s'.heap.get b = some x) {b : Nat} {w : List Value} (h : objCells (s.heap.get b) = .ok w) : objCells (s'.heap.get b) = .ok w := by
  cases hb : s.heap.get b with
  | none => rw [hb] at h; cases h
  | some x => rw [hb] at h; rw [hk b x hb]; exact h
/-- a packet is looked for -/
theorem index_ev (n : NoNet Sm) {s : St} (hwf : s.wf) {a : Option Addr} {c : Nat} {L : Pks} (hv : srcCells s.heap 4 (.slice a L.length c) = .ok (L.length, cellsP L)) {id : Int} {fb : Nat} {ft : TypeId} (hf : s.heap.get fb = some (.cells [.int .i64 id] ft 0 false (0, 0))) (hL : L.length ≤ 1000)
    (h : ∀ s', Keep s s' → Q (.val (.int .i64 (posP (L.map (·.2)) id 0)) s')) :
    Ev Try.prog Sm (.inv (.fn (.func 43) #[]) [.slice a L.length c, .func (.func 44) #[] #[.pointer (some ⟨fb, 0, none⟩)]] s) Q := by
  refine Ev.func n.index Try.func43 rfl (m := 19) rfl ?_
  simp only [Array.toList_empty, List.append_nil, ofList_cons, ofList_nil]
  (try first | refine EvO.nx ?_ | refine EvA.nx ?_); repeat' (first | refine Abs.go ?_ | with_reducible refine Abs.fork (fun hb => ?_) (fun hb => ?_))
  refine Ev.loop (fun k a' s' => ∃ T, ∃ i : Nat, a' = ⟨T, 19, []⟩ ∧ T.get 0 = some (.slice a L.length c) ∧ T.get 1 = some (.func (.func 44) #[] #[.pointer (some ⟨fb, 0, none⟩)]) ∧ T.get 7 = some (.int .i64 (L.length : Int)) ∧ T.get 8 = some (.int .i64 ((i : Nat) : Int)) ∧ i ≤ L.length ∧ k = L.length - i ∧ Keep s s' ∧ posP ((L.map (·.2)).drop i) id i = posP (L.map (·.2)) id 0) (k := L.length) ⟨_, 0, rfl, ?g0, ?g1, ?g7, ?g8, Nat.zero_le _, rfl, Keep.refl hwf, rfl⟩ ?_
  case g0 => simp (disch := first | omega | assumption) only [go_sem, ]
  case g1 => simp (disch := first | omega | assumption) only [go_sem, ]
  case g7 => simp (disch := first | omega | assumption) only [go_sem, ]
  case g8 => simp (disch := first | omega | assumption) only [go_sem, ]; try rfl
  rintro k a' s2 ⟨T, i, rfl, g0, g1, g7, g8, hi, rfl, k2, hp⟩
  have hml : (L.map (·.2)).length = L.length := List.length_map ..
  by_cases hil : i < L.length
  · obtain ⟨xb, xo, xc, w, e, hw, hcut⟩ := pks_at hv rfl ⟨_, _, rfl⟩ hil
    cases e
    have hw' := obj_old k2.old hw
    have hci := hcut i hil
    have hf' := k2.old _ _ hf
    have hpd := posP_drop (L.map (·.2)) id (i := i) (by omega)
    rw [List.getElem_map] at hpd
    generalize L[i] = e at *
    obtain ⟨bv, q⟩ := e
    unfold pkC at hci
    simp only at hci hpd
    (try first | refine EvO.nx ?_ | refine EvA.nx ?_); repeat' (first | refine Abs.goH (Abs.cc g0 (Abs.cc g1 (Abs.cc g7 (Abs.cc g8 (Abs.cc hw' (hci)))))) ?_ | with_reducible refine Abs.fork (fun hb => ?_) (fun hb => ?_))
    refine Ev.opCall (g := .func 44) (first := #[]) (cap := #[.pointer (some ⟨fb, 0, none⟩)]) (args := [.agg ⟨[.int .i64 q.id, .int .i64 q.from_, .int .i64 q.to, bv]⟩]) rfl (by simp (disch := first | omega | assumption) only [go_sem, ]) (by simp (disch := first | omega | assumption) only [go_sem, ]) rfl ?_
    refine Ev.func n.find1 Try.func44 rfl (m := 8) rfl ?_
    simp only [Array.toList_empty, List.nil_append, List.toList_toArray, List.cons_append, ofList_cons, ofList_nil]
    have kb := (Keep.refl k2.wf).new (.cells [.int .i64 q.id, .int .i64 q.from_, .int .i64 q.to, bv] 90 0 false (0, 0))
    have hf2 := kb.old _ _ hf'
    (try first | refine EvO.nx ?_ | refine EvA.nx ?_); repeat' (first | refine Abs.goH hf2 ?_ | with_reducible refine Abs.fork (fun hb => ?_) (fun hb => ?_))
    refine ⟨_, _, rfl, ?_⟩
    by_cases hq : q.id = id
    · rw [if_pos hq, hp] at hpd
      (try first | refine EvO.nx ?_ | refine EvA.nx ?_); repeat' (first | refine Abs.goH (Abs.cc g0 (Abs.cc g1 (Abs.cc g7 (g8)))) ?_ | with_reducible refine Abs.fork (fun hb => ?_) (fun hb => ?_))
      rw [← hpd]
      exact h _ (k2.trans kb)
    · rw [if_neg hq, hp] at hpd
      (try first | refine EvO.nx ?_ | refine EvA.nx ?_); repeat' (first | refine Abs.goH (Abs.cc g0 (Abs.cc g1 (Abs.cc g7 (g8)))) ?_ | with_reducible refine Abs.fork (fun hb => ?_) (fun hb => ?_))
      refine ⟨L.length - (i + 1), by omega, _, i + 1, rfl, ?_, ?_, ?_, ?_, by omega, rfl, k2.trans kb, hpd.symm⟩
      · simp (disch := first | omega | assumption) only [go_sem, g0]
      · simp (disch := first | omega | assumption) only [go_sem, g1]
      · simp (disch := first | omega | assumption) only [go_sem, g7]
      · simp (disch := first | omega | assumption) only [go_sem, g8, Int.natCast_add, Int.natCast_one]
  · obtain rfl : i = L.length := by omega
    rw [posP_end _ _ (by omega)] at hp
    (try first | refine EvO.nx ?_ | refine EvA.nx ?_); repeat' (first | refine Abs.goH (Abs.cc g0 (Abs.cc g1 (Abs.cc g7 (g8)))) ?_ | with_reducible refine Abs.fork (fun hb => ?_) (fun hb => ?_))
    rw [hp]
    exact h _ k2
theorem find_ev (n : NoNet Sm) {s : St} (hwf : s.wf) {O : Nat → Prop} {b : Nat} {L : Pks} {sent : Nat} {now : Int} {fed : List Nat} {z : Nat} (hd : SN s O b L sent now fed z) (id : Int) (hL : L.length ≤ 1000)
    (h : ∀ s', Keep s s' → Q (.val (.int .i64 (posP (L.map (·.2)) id 0)) s')) :
    Ev Try.prog Sm (.inv (.fn (.func 40) #[]) [.pointer (some ⟨b, 0, none⟩), .int .i64 id] s) Q := by
  refine Ev.func n.find Try.func40 rfl (m := 11) rfl ?_
  simp only [Array.toList_empty, List.append_nil, ofList_cons, ofList_nil]
  obtain ⟨pv, fv, h1, h2, h3, h4, h5, h6⟩ := hd.ex
  obtain ⟨hsrc, pa, pc, rfl⟩ := h2.src
  have kb := (Keep.refl hwf).new (.cells [.int .i64 id] 3 0 false (0, 0))
  have h1' := kb.old _ _ h1
  (try first | refine EvO.nx ?_ | refine EvA.nx ?_); repeat' (first | refine Abs.goH (Abs.cc h1 (h1')) ?_ | with_reducible refine Abs.fork (fun hb => ?_) (fun hb => ?_))
  refine index_ev n kb.wf (src_mono (s := s) (fun c x _ hx => kb.old c x hx) hsrc) (get_same _ _ _) hL fun s' k => ⟨_, _, rfl, ?_⟩
  (try first | refine EvO.nx ?_ | refine EvA.nx ?_); repeat' (first | refine Abs.go ?_ | with_reducible refine Abs.fork (fun hb => ?_) (fun hb => ?_))
  exact h _ (kb.trans k)
attribute [local go_sem] Abs.eClear
/-- what is cut out of a slice with room: the others move on -/
theorem delete_ev (n : NoNet Sm) {s : St} (hwf : s.wf) {b o m : Nat} {l : List Value} (hb : s.heap.get b = some (.cells l 90 4 true (0, 0))) (ho : o % 4 = 0) (hl : o + m * 4 ≤ l.length ∧ o < l.length) (hone : ((l.drop o).take (m * 4)).all oneB = true) {i : Nat} (hi : i < m) (hm : m ≤ 1000)
    (h : ∀ s' l', s'.next = s.next → s'.wf → s'.heap.get b = some (.cells l' 90 4 true (0, 0)) → (∀ c, c ≠ b → s'.heap.get c = s.heap.get c) → l'.length = l.length → (l'.drop o).take ((m - 1) * 4) = ((l.drop o).take (m * 4)).take (i * 4) ++ ((l.drop o).take (m * 4)).drop ((i + 1) * 4) → Q (.val (.slice (some ⟨b, o, none⟩) (m - 1) open_) s')) :
    Ev Try.prog Sm (.inv (.fn (.func 41) #[]) [.slice (some ⟨b, o, none⟩) m open_, .int .i64 ((i : Nat) : Int), .int .i64 ((i : Nat) + 1 : Int)] s) Q := by
  refine Ev.func n.delete Try.func41 rfl (m := 33) rfl ?_
  simp only [Array.toList_empty, List.append_nil, ofList_cons, ofList_nil]
  have hop : m < open_ := by unfold open_; omega
  (try first | refine EvO.nx ?_ | refine EvA.nx ?_); repeat' (first | refine Abs.goH hb ?_ | with_reducible refine Abs.fork (fun hb => ?_) (fun hb => ?_))
  refine Abs.Ev.regionD (n := 0) (l := [.go 0, .go 1, .go 2, .go 3, .go 4, .go 5, .go 6, .go 7]) (by kernel_rfl) ?_
  (try first | refine EvO.nx ?_ | refine EvA.nx ?_); repeat' (first | refine Abs.goH hb ?_ | with_reducible refine Abs.fork (fun hb => ?_) (fun hb => ?_))
  have e1 : ((i : Int) + 1).toNat = i + 1 := by omega
  have hb' : (⟨s.heap, s.next⟩ : St).heap.get b = some (.cells l 90 4 true (0, 0)) := hb
  have hnw : ((l.drop (o + (i + 1) * 4)).take ((m - (i + 1)) * 4)).length = (m - (i + 1)) * 4 := by
    rw [List.length_take, List.length_drop]
    omega
  have hsrc := src_room (st := ⟨s.heap, s.next⟩) (o := o + (i + 1) * 4) (n := m - (i + 1)) (c := open_) hb' (by omega)
  have hcs : ((l.drop o).take (m * 4)).take (i * 4) ++ ((l.drop o).take (m * 4)).drop ((i + 1) * 4) = (l.drop o).take (i * 4) ++ (l.drop (o + (i + 1) * 4)).take ((m - (i + 1)) * 4) := by
    rw [List.take_take, Nat.min_eq_left (by omega), List.drop_take, List.drop_drop, show m * 4 - (i + 1) * 4 = (m - (i + 1)) * 4 by omega]
  rw [hcs] at h
  simp only [e1, Nat.zero_mul, Nat.add_zero, Nat.sub_zero]
  have hnl : ((l.drop o).take (m * 4)).drop ((i + 1) * 4) = (l.drop (o + (i + 1) * 4)).take ((m - (i + 1)) * 4) := by
    rw [List.drop_take, List.drop_drop, show m * 4 - (i + 1) * 4 = (m - (i + 1)) * 4 by omega]
  have hone2 : ((l.drop (o + (i + 1) * 4)).take ((m - (i + 1)) * 4)).all oneB = true := by
    rw [← hnl, List.all_eq_true]
    intro x hx
    exact List.all_eq_true.1 hone x (List.mem_of_mem_drop hx)
  generalize hzs : [Value.int .i64 0, .int .i64 0, .int .i64 0, .slice none 0 0] = zs
  have hz4 : zs.length = 4 := by subst hzs; rfl
  have hzo : zs.all oneB = true := by subst hzs; rfl
  have fin : ∀ l1 : List Value, l1.length = l.length → (l1.drop o).take ((m - 1) * 4) = (l.drop o).take (i * 4) ++ (l.drop (o + (i + 1) * 4)).take ((m - (i + 1)) * 4) → (l1.take (o + (m - 1) * 4) ++ (zs ++ l1.drop (o + (m - 1) * 4 + 4))).length = l.length ∧ ((l1.take (o + (m - 1) * 4) ++ (zs ++ l1.drop (o + (m - 1) * 4 + 4))).drop o).take ((m - 1) * 4) = (l.drop o).take (i * 4) ++ (l.drop (o + (i + 1) * 4)).take ((m - (i + 1)) * 4) := fun l1 hll he => by
    refine ⟨?_, ?_⟩
    · simp only [List.length_append, List.length_take, List.length_drop, hz4]
      omega
    · have := take_keep (l := l1) (x := zs ++ l1.drop (o + (m - 1) * 4 + 4)) (o := o) (p := o + (m - 1) * 4) (by omega) (by omega)
      rw [Nat.add_sub_cancel_left] at this
      rw [this, he]
  by_cases hm1 : m = i + 1
  · subst hm1
    refine EvO.append0 Try.underlying85 Ty.sz90 Ty.by90 Ty.ze90 rfl ((appSrc_slice Try.underlying85).trans (by rw [hsrc, Nat.sub_self])) (by omega) (by omega) ?_
    have hr : reps [Value.int .i64 0, .int .i64 0, .int .i64 0, .slice none 0 0] 1 = zs := by
      rw [← hzs]
      rfl
    have e3 : i + 1 - i = 1 := by omega
    have hbd : o + i * 4 + 4 ≤ l.length := by omega
    (try first | refine EvO.nx ?_ | refine EvA.nx ?_); repeat' (first | refine Abs.goH (Abs.cc hb (Abs.cc hr (Abs.cc hz4 (Abs.cc hzo (e3))))) ?_ | with_reducible refine Abs.fork (fun hb => ?_) (fun hb => ?_))
    have q := fin l rfl (by
      rw [show i + 1 - 1 = i by omega, show i + 1 - (i + 1) = 0 by omega, Nat.zero_mul, List.take_zero, List.append_nil])
    rw [show i + 1 - 1 = i by omega] at h q
    exact h _ _ rfl (fun c x hx => by
      rcases Tr.get_set hx with ⟨rfl, _⟩ | ⟨_, hx⟩
      · exact hwf _ _ hb
      · exact hwf c x hx) (get_same _ _ _) (fun c hc => get_other _ _ _ _ hc) q.1 q.2
  · refine EvO.appendIn Try.underlying85 Ty.sz90 Ty.by90 Ty.ze90 rfl hb' ho (by omega) ((appSrc_slice Try.underlying85).trans hsrc) hnw hone2 (by omega) (by omega) (by omega) ?_
    have hto := take_over (l := l) (nw := (l.drop (o + (i + 1) * 4)).take ((m - (i + 1)) * 4)) (o := o) (p := o + i * 4) (by omega) (by rw [hnw]; omega)
    rw [Nat.add_sub_cancel_left, hnw, show i * 4 + (m - (i + 1)) * 4 = (m - 1) * 4 by omega] at hto
    rw [hnw]
    have hll : (l.take (o + i * 4) ++ ((l.drop (o + (i + 1) * 4)).take ((m - (i + 1)) * 4) ++ l.drop (o + i * 4 + (m - (i + 1)) * 4))).length = l.length := by
      simp only [List.length_append, hnw]
      simp only [List.length_take, List.length_drop]
      omega
    generalize l.take (o + i * 4) ++ ((l.drop (o + (i + 1) * 4)).take ((m - (i + 1)) * 4) ++ l.drop (o + i * 4 + (m - (i + 1)) * 4)) = l1 at *
    have e2 : i + (m - (i + 1)) = m - 1 := by omega
    have e3 : m - (m - 1) = 1 := by omega
    have hr : reps [Value.int .i64 0, .int .i64 0, .int .i64 0, .slice none 0 0] 1 = zs := by
      rw [← hzs]
      rfl
    rw [e2]
    (try first | refine EvO.nx ?_ | refine EvA.nx ?_); repeat' (first | refine Abs.goH (Abs.cc hr (Abs.cc hz4 (Abs.cc hzo (e3)))) ?_ | with_reducible refine Abs.fork (fun hb => ?_) (fun hb => ?_))
    have q := fin l1 hll hto
    exact h _ _ rfl (fun c x hx => by
      rcases Tr.get_set hx with ⟨rfl, _⟩ | ⟨_, hx⟩
      · exact hwf _ _ hb
      · rcases Tr.get_set hx with ⟨rfl, _⟩ | ⟨_, hx⟩
        · exact hwf _ _ hb
        · exact hwf c x hx) (get_same _ _ _) (fun c hc => (get_other _ _ _ _ hc).trans (get_other _ _ _ _ hc)) q.1 q.2
end
end Go.Proofs.Ytpbadpkleiogoaa
