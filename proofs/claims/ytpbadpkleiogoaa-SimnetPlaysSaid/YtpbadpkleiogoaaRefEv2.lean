/-
  The document's own network at the evaluator: a packet that is taken out; the numbers. No law in sight.
-/
import Derived.Test.YtpbadpkleiogoaaRefEv
import Derived.Test.YtpbadpkleiogoaaEvSet
set_option linter.unusedVariables false
set_option linter.unusedSimpArgs false
namespace Go.Proofs.Ytpbadpkleiogoaa
open Abs
set_option maxHeartbeats 16000000
set_option maxRecDepth 20000
set_option linter.unusedSimpArgs false
attribute [local irreducible] Abs.Ev Abs.EvF Abs.EvO Abs.EvA Abs.Seq Abs.Blk Abs.Body Abs.Scp Abs.EvG Abs.EvAg Abs.Nx
attribute [local go_sem] Try.underlying2 Ty.sz2 Ty.by2 Ty.ag2 Ty.ze2 Try.underlying3 Ty.sz3 Ty.by3 Ty.ag3 Ty.ze3 Try.underlying4 Ty.sz4 Ty.by4 Ty.ag4 Ty.ze4 Try.underlying5 Ty.sz5 Ty.by5 Ty.ag5 Ty.ze5 Try.underlying29 Ty.sz29 Ty.by29 Ty.ag29 Ty.ze29 Try.underlying45 Ty.sz45 Ty.by45 Ty.ag45 Ty.ze45 Try.underlying57 Ty.sz57 Ty.by57 Ty.ag57 Ty.ze57 Try.underlying58 Ty.sz58 Ty.by58 Ty.ag58 Ty.ze58 Try.underlying60 Ty.sz60 Ty.by60 Ty.ag60 Ty.ze60 Try.underlying67 Ty.sz67 Ty.by67 Ty.ag67 Ty.ze67
section
variable {Sm : Summ} {Q : Ans → Prop}
/-- packets put behind packets of one's own, none or some -/
theorem EvO.appendP {st : St} {v x : Value} {n m : Nat} {cs nw : List Value} {K : Value → St → Prop} (hwf : st.wf) (hv : Vec st 67 4 v n cs) (hr : n ≠ 0 → ∀ c, inBlk v c → inRoom v c) (hk : ∀ c, inBlk v c → ∃ l sz op, st.heap.get c = some (.cells l 67 sz op (0, 0))) (hx : srcCells st.heap 4 x = .ok (m, nw)) (hnw : nw.length = m * 4) (hone : nw.all oneB = true) (h1 : n + m ≤ 1000)
    (h : ∀ v' st', Vec st' 67 4 v' (n + m) (cs ++ nw) → (n + m ≠ 0 → ∀ c, inBlk v' c → inRoom v' c) → (∀ c, inBlk v' c → (inBlk v c ∨ c = st.next) ∧ ∃ l sz op, st'.heap.get c = some (.cells l 67 sz op (0, 0))) → st'.wf → st.next ≤ st'.next → SameBut 67 4 st st' → (∀ b y, st.heap.get b = some y → ¬ inRoom v b → st'.heap.get b = some y) → K v' st') :
    EvO (fun _ k => aAppend Try.prog st (57 :: [57]) v x fun v s => k v [] s) K := by
  by_cases hm : m = 0
  · subst hm
    have e : nw = [] := List.eq_nil_of_length_eq_zero (by omega)
    subst e
    obtain ⟨_, a, c, rfl⟩ := hv.src
    refine EvO.append0 Try.underlying57 Ty.sz67 Ty.by67 Ty.ze67 rfl ((appSrc_slice Try.underlying57).trans hx) (by omega) (by omega) ?_
    rw [List.append_nil] at h
    exact h _ _ hv hr (fun c hc => ⟨.inl hc, hk c hc⟩) hwf (Nat.le_refl _) (fun c y hy _ => hy) fun b y hy _ => hy
  · refine EvO.appendV hwf Try.underlying57 Ty.sz67 Ty.by67 Ty.ze67 rfl (by decide) hv (by unfold open_; omega) ((appSrc_slice Try.underlying57).trans hx) hnw hone (by omega) (by omega) (by omega) fun v' st' k1 k2 k3 k4 k5 k6 => ?_
    obtain ⟨bb, o, rfl, hbb⟩ := k2
    refine h _ st' k1 (fun _ c hc => ?_) (fun c hc => ?_) k3 k4 k5 k6
    · obtain ⟨_, _, _, e⟩ := hc
      cases e
      exact ⟨_, _, rfl⟩
    · obtain ⟨_, _, _, e⟩ := hc
      cases e
      obtain ⟨l, hl⟩ := k1.kind ⟨_, _, rfl⟩ (by unfold open_; omega)
      exact ⟨hbb.elim .inr fun hb => .inl hb.blk, l, _, _, hl⟩
theorem Abs.Keep.newR {s s' : St} (h : Keep s s') (hwf : s.wf) (x y : AObj) : Keep s ⟨(s'.heap.set s'.next x).set s'.next y, s'.next + 1⟩ := Keep.set (h.new x) h.next (Nat.lt_succ_self _) hwf y
attribute [local go_sem] rpk_lit0 List.set_cons_zero List.set_cons_succ
theorem rtake_ev (n : NoRef Sm) {s : St} (hwf : s.wf) {O : Nat → Prop} {b : Nat} {L : Pks} {sent : Nat} {now : Int} {fed : List Nat} {z : Nat} (hd : RN s O b L sent now fed z) (hL : L.length ≤ 1000) {i : Nat} (hi : i < L.length)
    (h : ∀ s' O', Mv O O' s s' → RN s' O' b (L.eraseIdx i) sent now fed z → TxtB s' 0 L[i].1 L[i].2.b → (∀ c, inBlk L[i].1 c → O c) → Q (.val (.agg ⟨pkC L[i]⟩) s')) :
    Ev Try.prog Sm (.inv (.fn (.func 33) #[]) [.pointer (some ⟨b, 0, none⟩), .int .i64 ((i : Nat) : Int)] s) Q := by
  refine Ev.func n.take Try.func33 rfl (m := 33) rfl ?_
  simp only [Array.toList_empty, List.append_nil, ofList_cons, ofList_nil]
  obtain ⟨pv, fv, g1, g2, g3, g4, g5, g6⟩ := hd.ex
  have hne : L ≠ [] := fun e => by rw [e] at hi; exact absurd hi (Nat.not_lt_zero _)
  obtain ⟨pb, o, l, rfl, hb, ho, hl, hc⟩ := room_of g2 (g6 hne) (by omega) (by unfold open_; omega)
  obtain ⟨xb, xo, xc, w, e, hw, hcut⟩ := pks_at g2.src.1 rfl ⟨_, _, rfl⟩ hi
  cases e
  have hci := hcut i hi
  have hmem := hd.bytes L[i] (List.getElem_mem hi)
  generalize hq : L[i] = e at *
  obtain ⟨bv, q⟩ := e
  unfold pkC at hci h
  simp only at hci hmem h
  obtain ⟨⟨va, vc, rfl⟩, _⟩ := hmem.1.bytes
  have k1 := (Keep.refl hwf).new (.cells [.int .i64 0, .int .i64 0, .int .i64 0, .slice none 0 0] 67 0 false (0, 0))
  have g1a := k1.old _ _ g1
  have hwa := obj_old k1.old hw
  have k3 := k1.newR hwf (.cells [.int .i64 0, .int .i64 0, .int .i64 0, .slice none 0 0] 67 0 false (0, 0)) (.cells [.int .i64 q.id, .int .i64 q.from_, .int .i64 q.to, .slice va q.b.length vc] 67 0 false (0, 0))
  (try first | refine EvO.nx ?_ | refine EvA.nx ?_); repeat' (first | refine Abs.goH (Abs.cc g1a (Abs.cc hwa (hci))) ?_ | with_reducible refine Abs.fork (fun hb => ?_) (fun hb => ?_))
  have hact : (⟨((s.heap.set s.next (.cells [.int .i64 0, .int .i64 0, .int .i64 0, .slice none 0 0] 67 0 false (0, 0))).set (s.next + 1) (.cells [.int .i64 0, .int .i64 0, .int .i64 0, .slice none 0 0] 67 0 false (0, 0))).set (s.next + 1) (.cells [.int .i64 q.id, .int .i64 q.from_, .int .i64 q.to, .slice va q.b.length vc] 67 0 false (0, 0)), s.next + 1 + 1⟩ : St).heap.get (s.next + 1) = some (.cells [.int .i64 q.id, .int .i64 q.from_, .int .i64 q.to, .slice va q.b.length vc] 67 0 false (0, 0)) := get_same _ _ _
  have hres : (⟨((s.heap.set s.next (.cells [.int .i64 0, .int .i64 0, .int .i64 0, .slice none 0 0] 67 0 false (0, 0))).set (s.next + 1) (.cells [.int .i64 0, .int .i64 0, .int .i64 0, .slice none 0 0] 67 0 false (0, 0))).set (s.next + 1) (.cells [.int .i64 q.id, .int .i64 q.from_, .int .i64 q.to, .slice va q.b.length vc] 67 0 false (0, 0)), s.next + 1 + 1⟩ : St).heap.get s.next = some (.cells [.int .i64 0, .int .i64 0, .int .i64 0, .slice none 0 0] 67 0 false (0, 0)) := (get_other _ _ _ _ (by omega : s.next ≠ s.next + 1)).trans ((get_other _ _ _ _ (by omega : s.next ≠ s.next + 1)).trans (get_same _ _ _))
  have hn3 : s.next + 2 ≤ (⟨((s.heap.set s.next (.cells [.int .i64 0, .int .i64 0, .int .i64 0, .slice none 0 0] 67 0 false (0, 0))).set (s.next + 1) (.cells [.int .i64 0, .int .i64 0, .int .i64 0, .slice none 0 0] 67 0 false (0, 0))).set (s.next + 1) (.cells [.int .i64 q.id, .int .i64 q.from_, .int .i64 q.to, .slice va q.b.length vc] 67 0 false (0, 0)), s.next + 1 + 1⟩ : St).next := Nat.le_refl _
  generalize (⟨((s.heap.set s.next (.cells [.int .i64 0, .int .i64 0, .int .i64 0, .slice none 0 0] 67 0 false (0, 0))).set (s.next + 1) (.cells [.int .i64 0, .int .i64 0, .int .i64 0, .slice none 0 0] 67 0 false (0, 0))).set (s.next + 1) (.cells [.int .i64 q.id, .int .i64 q.from_, .int .i64 q.to, .slice va q.b.length vc] 67 0 false (0, 0)), s.next + 1 + 1⟩ : St) = s3 at k3 hact hres hn3 ⊢
  have g1c := k3.old _ _ g1
  have hb3 := k3.old _ _ hb
  have hlc : L.length ≤ 1000 := hL
  have hop : L.length < open_ := by unfold open_; omega
  have e1 : ((i : Int) + 1).toNat = i + 1 := by omega
  refine Abs.Ev.regionD (n := 20) (l := [.go 0, .go 2, .go 3, .go 4, .go 5, .go 6, .go 7, .go 9, .go 10, .go 11, .go 12, .go 13, .go 14, .go 15, .new 1 1, .go 8, .again 12, .again 15, .go 16, .go 17, .go 18, .go 19]) (by kernel_rfl) ?_
  (try first | refine EvO.nx ?_ | refine EvA.nx ?_); repeat' (first | refine Abs.goH (Abs.cc g1c (Abs.cc hb3 (e1))) ?_ | with_reducible refine Abs.fork (fun hb => ?_) (fun hb => ?_))
  simp only [Nat.zero_mul, Nat.add_zero, Nat.sub_zero]
  have k4 := Keep.set2 ((Keep.refl k3.wf).grow (Nat.le_add_right s3.next 20)) (b := s3.next + 1) (x := .cells [] 67 0 false (0, 0)) (by omega) (by omega) k3.wf
  have hb4 := k4.old _ _ hb3
  have hz4 : (⟨s3.heap.set (s3.next + 1) (.cells [] 67 0 false (0, 0)), s3.next + 20⟩ : St).heap.get (s3.next + 1) = some (.cells [] 67 0 false (0, 0)) := get_same _ _ _
  have hn4 : s3.next + 20 ≤ (⟨s3.heap.set (s3.next + 1) (.cells [] 67 0 false (0, 0)), s3.next + 20⟩ : St).next := Nat.le_refl _
  generalize (⟨s3.heap.set (s3.next + 1) (.cells [] 67 0 false (0, 0)), s3.next + 20⟩ : St) = s4 at k4 hb4 hz4 hn4 ⊢
  have hones := cells_one L fun e he => by obtain ⟨⟨a, c, hv⟩, _⟩ := (hd.bytes e he).1.bytes; rw [hv]; rfl
  have hcl := cellsP_len L
  have hsA : srcCells s4.heap 4 (.slice (some ⟨pb, o, none⟩) i open_) = .ok (i, cellsP (L.take i)) := by
    rw [src_room hb4 (by omega), cellsP_take L i (by omega), ← hc, List.take_take, Nat.min_eq_left (by omega)]
  have hdr : (l.drop (o + (i + 1) * 4)).take ((L.length - (i + 1)) * 4) = cellsP (L.drop (i + 1)) := by
    rw [cellsP_drop L (i + 1) (by omega), ← hc, List.drop_take, List.drop_drop, show L.length * 4 - (i + 1) * 4 = (L.length - (i + 1)) * 4 by omega]
  refine EvO.appendP (n := 0) (cs := []) k4.wf (.full (src_cells hz4 rfl)) (fun h => absurd rfl h) (fun c hc => ?_) hsA (by rw [cellsP_len, List.length_take, Nat.min_eq_left (by omega)]) (cells_one _ fun e he => ?_) (by omega) fun v1 s5 a1 a2 a3 a4 a5 a6 a7 => ?_
  · obtain ⟨_, _, _, e⟩ := hc
    cases e
    exact ⟨_, _, _, hz4⟩
  · obtain ⟨⟨a, c, hv⟩, _⟩ := (hd.bytes e (List.mem_of_mem_take he)).1.bytes
    rw [hv]
    rfl
  have k5 : ∀ c y, s4.heap.get c = some y → s5.heap.get c = some y := fun c y hy => a7 c y hy fun hr => by obtain ⟨_, _, e⟩ := hr; cases e
  have g1e := k5 _ _ (k4.old _ _ g1c)
  have hb5 := k5 _ _ hb4
  have hk5 : ∀ c y, s3.heap.get c = some y → s5.heap.get c = some y := fun c y hy => k5 c y (k4.old c y hy)
  obtain ⟨_, xa, xc2, rfl⟩ := a1.src
  have hsB : srcCells s5.heap 4 (.slice (some ⟨pb, o + (i + 1) * 4, none⟩) (L.length - (i + 1)) open_) = .ok (L.length - (i + 1), cellsP (L.drop (i + 1))) := by
    rw [src_room hb5 (by omega), hdr]
  (try first | refine EvO.nx ?_ | refine EvA.nx ?_); repeat' (first | refine Abs.goH (Abs.cc g1e (Abs.cc hb5 (e1))) ?_ | with_reducible refine Abs.fork (fun hb => ?_) (fun hb => ?_))
  simp only [Nat.zero_add] at a1 a2 ⊢
  have a3 : ∀ c, inBlk (.slice xa i xc2) c → (c = s3.next + 1 ∨ c = s4.next) ∧ ∃ l sz op, s5.heap.get c = some (.cells l 67 sz op (0, 0)) := fun c hc => by
    rw [Nat.zero_add] at a3
    obtain ⟨q1, q2⟩ := a3 c hc
    exact ⟨q1.elim (fun h => by obtain ⟨_, _, _, e⟩ := h; cases e; exact .inl rfl) .inr, q2⟩
  refine EvO.appendP a4 a1 a2 (fun c hc => (a3 c hc).2) hsB (by rw [cellsP_len, List.length_drop]) (cells_one _ fun e he => ?_) (by omega) fun v2 s6 b1 b2 b3 b4 b5 b6 b7 => ?_
  · obtain ⟨⟨a, c, hv⟩, _⟩ := (hd.bytes e (List.mem_of_mem_drop he)).1.bytes
    rw [hv]
    rfl
  have hn5 : s4.next ≤ s5.next := a5
  have hk6 : ∀ c y, c < s3.next → s3.heap.get c = some y → s6.heap.get c = some y := fun c y hlt hy => b7 c y (hk5 c y hy) fun hr => by
    have := (a3 c hr.blk).1
    omega
  have hlt : ∀ c y, s3.heap.get c = some y → c < s3.next := k3.wf
  have g1f := hk6 _ _ (hlt _ _ g1c) g1c
  have hact6 := hk6 _ _ (hlt _ _ hact) hact
  have hres6 := hk6 _ _ (hlt _ _ hres) hres
  have hbn := hd.lt b hd.own
  have hk : ∀ c x, O c → s.heap.get c = some x → s6.heap.get c = some x := fun c x hc hx => hk6 c x (hlt c x (k3.old c x hx)) (k3.old c x hx)
  obtain ⟨_, ya, yc, rfl⟩ := b1.src
  have hel : (L.eraseIdx i).length = L.length - 1 := List.length_eraseIdx_of_lt hi
  have hcells : cellsP (L.take i) ++ cellsP (L.drop (i + 1)) = cellsP (L.eraseIdx i) := by rw [← cellsP_app, List.eraseIdx_eq_take_drop_succ]
  rw [List.nil_append, hcells] at b1
  have hn6 : i + (L.length - (i + 1)) = (L.eraseIdx i).length := by omega
  have hcut4 : cutN [Value.int .i64 q.id, .int .i64 q.from_, .int .i64 q.to, .slice va q.b.length vc] 0 4 = some [.int .i64 q.id, .int .i64 q.from_, .int .i64 q.to, .slice va q.b.length vc] := rfl
  (try first | refine EvO.nx ?_ | refine EvA.nx ?_); repeat' (first | refine Abs.goH (Abs.cc g1f (Abs.cc hact6 (Abs.cc hres6 (hcut4)))) ?_ | with_reducible refine Abs.fork (fun hb => ?_) (fun hb => ?_))
  have b2 := b2 
  rw [hn6] at b1 b2 b3 ⊢
  have hkb : ∀ {t : TypeId} {v : Value}, KB t s O v → KB t s6 (fun c => O c ∨ s3.next ≤ c ∧ c < s6.next) v := fun h => h.mono (fun c hc => .inl hc) hk
  have hnet : RN ⟨s6.heap.set b (.cells [.slice ya (L.eraseIdx i).length yc, .int .i64 ((sent : Nat) : Int), .int .i64 now, fv, .int .u64 ((z : Nat) : Int)] 60 0 false (0, 0)), s6.next⟩ (fun c => O c ∨ s3.next ≤ c ∧ c < s6.next) b (L.eraseIdx i) sent now fed z := by
    refine NetAt.put kdR ⟨_, g1f⟩ b1 (g3.mono fun c x hc hx => hk c x (g5 c hc).1 hx) (fun c hc => ?_) (hkb g5) (fun hne c hc => b2 (fun e => hne (List.eq_nil_of_length_eq_zero e)) c hc) (fun e he => ?_) (.inl hd.own) fun c hc => hc.elim (fun h => by have := hd.lt c h; have := k3.next; omega) fun h => h.2
    · obtain ⟨q1, l, sz, op, q2⟩ := b3 c hc
      refine ⟨.inr ⟨?_, b4 _ _ q2⟩, l, sz, op, q2⟩
      rcases q1 with q1 | q1
      · have := (a3 c q1).1
        omega
      · omega
    · have q := hd.bytes e (List.mem_of_mem_eraseIdx he)
      exact ⟨q.1.of q.2 hk, hkb q.2⟩
  have hbne : b ≠ s.next := by omega
  have kfin : ∀ c x, c ≠ s.next → (s6.heap.set b (.cells [.slice ya (L.eraseIdx i).length yc, .int .i64 ((sent : Nat) : Int), .int .i64 now, fv, .int .u64 ((z : Nat) : Int)] 60 0 false (0, 0))).get c = some x → ∀ X, ((s6.heap.set b (.cells [.slice ya (L.eraseIdx i).length yc, .int .i64 ((sent : Nat) : Int), .int .i64 now, fv, .int .u64 ((z : Nat) : Int)] 60 0 false (0, 0))).set s.next X).get c = some x := fun c x hc hx X => (get_other _ _ _ _ hc).trans hx
  have hb8 : ∀ c, inBlk (.slice va q.b.length vc) c → O c ∧ c ≠ b := fun c hc => by
    obtain ⟨q1, w', sz, op, q2⟩ := hmem.2 c hc
    exact ⟨q1, fun e => by rw [e, g1] at q2; cases q2⟩
  refine h _ _ ⟨fun c x hx => ?_, (by have := k3.next; omega : s.next ≤ s6.next), fun c x hc hx => ?_, fun c hc => hc.imp id fun h => by omega⟩ (hnet.mono (fun c x hc hx => kfin c x (hc.elim (fun h => by have := hd.lt c h; omega) fun h => by omega) hx _) (Nat.le_refl _)) (hmem.1.keep fun c x hc hx => ?_) fun c hc => (hb8 c hc).1
  · rcases Tr.get_set hx with ⟨rfl, _⟩ | ⟨_, hx⟩
    · exact b4 _ _ hres6
    · rcases Tr.get_set hx with ⟨rfl, _⟩ | ⟨_, hx⟩
      · exact b4 _ _ g1f
      · exact b4 _ _ hx
  · have h0 := hwf c x hx
    exact kfin c x (by omega) ((get_other _ _ _ _ fun e => hc (by rw [e]; exact hd.own)).trans (hk6 c x (hlt c x (k3.old c x hx)) (k3.old c x hx))) _
  · have h0 := hwf c x hx
    exact kfin c x (by omega) ((get_other _ _ _ _ (hb8 c hc).2).trans (hk6 c x (hlt c x (k3.old c x hx)) (k3.old c x hx))) _
end
end Go.Proofs.Ytpbadpkleiogoaa
