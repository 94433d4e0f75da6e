/-
  simnet at the evaluator: packets that are taken out, doubled, dropped; the clock; the numbers. No law in sight.
-/
import Derived.Test.YtpbadpkleiogoaaSNetEv
import Derived.Test.YtpbadpkleiogoaaEvSet
set_option linter.unusedVariables false
set_option linter.unusedSimpArgs false
namespace Go.Proofs.Ytpbadpkleiogoaa
open Abs
set_option maxHeartbeats 16000000
set_option maxRecDepth 20000
set_option linter.unusedSimpArgs false
attribute [local irreducible] Abs.Ev Abs.EvF Abs.EvO Abs.EvA Abs.Seq Abs.Blk Abs.Body Abs.Scp Abs.EvG Abs.EvAg Abs.Nx
attribute [local go_sem] Try.underlying2 Ty.sz2 Ty.by2 Ty.ag2 Ty.ze2 Try.underlying3 Ty.sz3 Ty.by3 Ty.ag3 Ty.ze3 Try.underlying4 Ty.sz4 Ty.by4 Ty.ag4 Ty.ze4 Try.underlying5 Ty.sz5 Ty.by5 Ty.ag5 Ty.ze5 Try.underlying29 Ty.sz29 Ty.by29 Ty.ag29 Ty.ze29 Try.underlying45 Ty.sz45 Ty.by45 Ty.ag45 Ty.ze45 Try.underlying53 Ty.sz53 Ty.by53 Ty.ag53 Ty.ze53 Try.underlying58 Ty.sz58 Ty.by58 Ty.ag58 Ty.ze58 Try.underlying84 Ty.sz84 Ty.by84 Ty.ag84 Ty.ze84 Try.underlying85 Ty.sz85 Ty.by85 Ty.ag85 Ty.ze85 Try.underlying87 Ty.sz87 Ty.by87 Ty.ag87 Ty.ze87 Try.underlying90 Ty.sz90 Ty.by90 Ty.ag90 Ty.ze90
section
variable {Sm : Summ} {Q : Ans → Prop}
theorem NetAt.del {st s3 : St} {O : Nat → Prop} {b : Nat} {L : Pks} {sent : Nat} {now : Int} {fed : List Nat} {z : Nat} (hd : SN st O b L sent now fed z) {pb o : Nat} {l : List Value} {fv : Value}
    (h1 : st.heap.get b = some (.cells [.slice (some ⟨pb, o, none⟩) L.length open_, .int .i64 ((sent : Nat) : Int), .int .i64 now, fv, .int .u64 ((z : Nat) : Int)] 87 0 false (0, 0))) (h3 : Fd st fv fed) (h4 : KB 90 st O (.slice (some ⟨pb, o, none⟩) L.length open_)) (h5 : KB 29 st O fv)
    (hb : st.heap.get pb = some (.cells l 90 4 true (0, 0))) (ho : o % 4 = 0) (hl : o + L.length * 4 ≤ l.length ∧ o < l.length) (hc : (l.drop o).take (L.length * 4) = cellsP L) {i : Nat} (hi : i < L.length) {l' : List Value} (n3 : s3.next = st.next) (hb' : s3.heap.get pb = some (.cells l' 90 4 true (0, 0))) (hold : ∀ c, c ≠ pb → s3.heap.get c = st.heap.get c) (hll : l'.length = l.length)
    (he : (l'.drop o).take ((L.length - 1) * 4) = ((l.drop o).take (L.length * 4)).take (i * 4) ++ ((l.drop o).take (L.length * 4)).drop ((i + 1) * 4)) :
    SN ⟨s3.heap.set b (.cells [.slice (some ⟨pb, o, none⟩) (L.length - 1) open_, .int .i64 ((sent : Nat) : Int), .int .i64 now, fv, .int .u64 ((z : Nat) : Int)] 87 0 false (0, 0)), s3.next⟩ O b (L.eraseIdx i) sent now fed z := by
  have hne : b ≠ pb := fun e => by rw [e, hb] at h1; cases h1
  have el : (L.eraseIdx i).length = L.length - 1 := List.length_eraseIdx_of_lt hi
  have kp : ∀ {t : TypeId} {v : Value}, t ≠ 90 → KB t st O v → ∀ c x, inBlk v c → st.heap.get c = some x → s3.heap.get c = some x := fun ht hk c x hc hx => by
    obtain ⟨_, w, sz, op, h⟩ := hk c hc
    exact (hold c fun e => by rw [e, hb] at h; cases h; exact ht rfl).trans hx
  have kk : ∀ {t : TypeId} {v : Value}, t ≠ 90 → KB t st O v → KB t s3 O v := fun ht hk c hc => by
    obtain ⟨q1, w, sz, op, q2⟩ := hk c hc
    exact ⟨q1, w, sz, op, kp ht hk c _ hc q2⟩
  have e1 : 5 ≠ 90 := by decide
  have e2 : 29 ≠ 90 := by decide
  refine NetAt.put kdN ⟨_, (hold b hne).trans h1⟩ ?_ (h3.mono (kp e2 h5)) (fun c hc => ?_) (kk e2 h5) (fun _ c hc => ?_) (fun e he => ?_) hd.own fun c hc => by rw [n3]; exact hd.lt c hc
  · rw [el]
    refine .room hb' ho ⟨by omega, by omega⟩ ?_
    rw [he, hc, List.eraseIdx_eq_take_drop_succ, cellsP_app, cellsP_take L i (by omega), cellsP_drop L (i + 1) (by omega)]
  · obtain ⟨_, _, _, e⟩ := hc
    cases e
    exact ⟨(h4 _ ⟨_, _, _, rfl⟩).1, l', 4, true, hb'⟩
  · obtain ⟨_, _, _, e⟩ := hc
    cases e
    exact ⟨_, _, rfl⟩
  · have q := hd.bytes e (List.mem_of_mem_eraseIdx he)
    exact ⟨q.1.keep (kp e1 q.2), kk e1 q.2⟩
theorem Abs.Keep.new2 {s s' : St} (h : Keep s s') (hwf : s.wf) (x y : AObj) : Keep s ⟨(s'.heap.set s'.next x).set s'.next y, s'.next + 1⟩ := Keep.set (h.new x) h.next (Nat.lt_succ_self _) hwf y
theorem pos_nat {L : Pks} {id : Int} (h : ¬ posP (L.map (·.2)) id 0 < 0) : ∃ i : Nat, posP (L.map (·.2)) id 0 = (i : Int) ∧ i < L.length := by
  rcases posP_bd (L.map (·.2)) id 0 with h1 | ⟨h1, h2⟩
  · omega
  · rw [List.length_map] at h2
    exact ⟨(posP (L.map (·.2)) id 0).toNat, by omega, by omega⟩
attribute [local go_sem] List.set_cons_zero List.set_cons_succ
theorem ndrop_ev (n : NoNet Sm) {s : St} (hwf : s.wf) {O : Nat → Prop} {b : Nat} {L : Pks} {sent : Nat} {now : Int} {fed : List Nat} {z : Nat} (hd : SN s O b L sent now fed z) (id : Int) (hL : L.length ≤ 1000)
    (h1 : posP (L.map (·.2)) id 0 < 0 → ∀ s', Keep s s' → Q (.val (.int .i64 4) s'))
    (h2 : ∀ i : Nat, posP (L.map (·.2)) id 0 = (i : Int) → i < L.length → ∀ s', Mv O O s s' → SN s' O b (L.eraseIdx i) sent now fed z → Q (.val (.int .i64 0) s')) :
    Ev Try.prog Sm (.inv (.fn (.func 26) #[]) [.pointer (some ⟨b, 0, none⟩), .int .i64 id] s) Q := by
  refine Ev.func n.drop Try.func26 rfl (m := 22) rfl ?_
  simp only [Array.toList_empty, List.append_nil, ofList_cons, ofList_nil]
  (try first | refine EvO.nx ?_ | refine EvA.nx ?_); repeat' (first | refine Abs.go ?_ | with_reducible refine Abs.fork (fun hb => ?_) (fun hb => ?_))
  refine find_ev n hwf hd id hL fun s1 k1 => ⟨_, _, rfl, ?_⟩
  have hd1 := hd.old k1
  by_cases hp : posP (L.map (·.2)) id 0 < 0
  · (try first | refine EvO.nx ?_ | refine EvA.nx ?_); repeat' (first | refine Abs.go ?_ | with_reducible refine Abs.fork (fun hb => ?_) (fun hb => ?_))
    exact h1 hp s1 k1
  · obtain ⟨i, hi, hil⟩ := pos_nat hp
    rw [hi] at hp ⊢
    obtain ⟨pv, fv, g1, g2, g3, g4, g5, g6⟩ := hd1.ex
    obtain ⟨pb, o, l, rfl, hb, ho, hl, hc⟩ := room_of g2 (g6 fun e => by rw [e] at hil; exact absurd hil (Nat.not_lt_zero _)) (by omega) (by unfold open_; omega)
    (try first | refine EvO.nx ?_ | refine EvA.nx ?_); repeat' (first | refine Abs.goH g1 ?_ | with_reducible refine Abs.fork (fun hb => ?_) (fun hb => ?_))
    refine delete_ev n k1.wf hb ho hl (by rw [hc]; exact cells_one L fun e he => by obtain ⟨⟨a, c, hv⟩, _⟩ := (hd1.bytes e he).1.bytes; rw [hv]; rfl) hil hL fun s3 l' n3 w3 hb' hold hll he => ⟨_, _, rfl, ?_⟩
    have hne : b ≠ pb := fun e => by rw [e, hb] at g1; cases g1
    have g1' := (hold b hne).trans g1
    (try first | refine EvO.nx ?_ | refine EvA.nx ?_); repeat' (first | refine Abs.goH g1' ?_ | with_reducible refine Abs.fork (fun hb => ?_) (fun hb => ?_))
    refine h2 i hi hil _ ⟨fun c x hx => ?_, by rw [n3]; exact k1.next, fun c x hc' hx => ?_, fun c hc' => .inl hc'⟩ (hd1.del g1 g3 g4 g5 hb ho hl hc hil n3 hb' hold hll he)
    · rcases Tr.get_set hx with ⟨rfl, _⟩ | ⟨_, hx⟩
      · exact w3 _ _ g1'
      · exact w3 _ _ hx
    · refine (get_other _ _ _ _ fun e => hc' (by rw [e]; exact hd1.own)).trans ((hold c fun e => hc' ?_).trans (k1.old c x hx))
      rw [e]
      exact (g4 pb ⟨_, _, _, rfl⟩).1
theorem TxtB.own_of {s : St} {lo : Nat} {v : Value} {l : List UInt8} (h : TxtB s lo v l) (hl : l ≠ []) : ∃ bb, v = .slice (some ⟨bb, 0, none⟩) l.length open_ ∧ s.heap.get bb = some (.cells (byteCells l) 5 1 true (0, 0)) := by
  cases h with
  | nil => exact absurd rfl hl
  | zero h => exact absurd rfl hl
  | own h h0 hb => exact ⟨_, rfl, h⟩
theorem txt_take {s : St} {bb : Nat} {l : List UInt8} (h : s.heap.get bb = some (.cells (byteCells l) 5 1 true (0, 0))) {m : Nat} (hm : m ≤ l.length) (c : Nat) : BytesB s (.slice (some ⟨bb, 0, none⟩) m c) (l.take m) := by
  have e : (l.take m).length = m := by rw [List.length_take, Nat.min_eq_left hm]
  have h1 := src_take (c' := c) (src_cells (c := c) h (by rw [byteCells_len, Nat.mul_one])) hm
  refine ⟨⟨_, _, by rw [e]⟩, ?_⟩
  rw [e, h1, byteCells_eq, byteCells_eq, List.map_take, Nat.mul_one]
/-- the bytes that are told of a packet -/
def wantB (l : List UInt8) (most : Int) : List UInt8 := if 0 ≤ most ∧ most < (l.length : Int) then l.take most.toNat else l
theorem ndeliver_ev (n : NoNet Sm) {s : St} (hwf : s.wf) {O : Nat → Prop} {b : Nat} {L : Pks} {sent : Nat} {now : Int} {fed : List Nat} {z : Nat} (hd : SN s O b L sent now fed z) (id most : Int) (hL : L.length ≤ 1000) (hlen : ∀ e ∈ L, e.2.b.length ≤ 140737488351232)
    (h1 : posP (L.map (·.2)) id 0 < 0 → ∀ s', Keep s s' → Q (.val (.tuple #[.int .i64 0, .int .i64 0, .slice none 0 0, .int .i64 4]) s'))
    (h2 : ∀ (i : Nat) (hi : i < L.length), posP (L.map (·.2)) id 0 = (i : Int) → ∀ s' bv, Mv O O s s' → SN s' O b (L.eraseIdx i) sent now fed z → BytesB s' bv (wantB L[i].2.b most) → (∀ c, inBlk bv c → O c) → Q (.val (.tuple #[.int .i64 L[i].2.from_, .int .i64 L[i].2.to, bv, .int .i64 0]) s')) :
    Ev Try.prog Sm (.inv (.fn (.func 24) #[]) [.pointer (some ⟨b, 0, none⟩), .int .i64 id, .int .i64 most] s) Q := by
  refine Ev.func n.deliver Try.func24 rfl (m := 56) rfl ?_
  simp only [Array.toList_empty, List.append_nil, ofList_cons, ofList_nil]
  (try first | refine EvO.nx ?_ | refine EvA.nx ?_); repeat' (first | refine Abs.go ?_ | with_reducible refine Abs.fork (fun hb => ?_) (fun hb => ?_))
  refine find_ev n hwf hd id hL fun s1 k1 => ⟨_, _, rfl, ?_⟩
  have hd1 := hd.old k1
  by_cases hp : posP (L.map (·.2)) id 0 < 0
  · (try first | refine EvO.nx ?_ | refine EvA.nx ?_); repeat' (first | refine Abs.go ?_ | with_reducible refine Abs.fork (fun hb => ?_) (fun hb => ?_))
    exact h1 hp s1 k1
  · obtain ⟨i, hi, hil⟩ := pos_nat hp
    have h2 := h2 i hil hi
    rw [hi] at hp ⊢
    obtain ⟨pv, fv, g1, g2, g3, g4, g5, g6⟩ := hd1.ex
    obtain ⟨pb, o, l, rfl, hb, ho, hl, hc⟩ := room_of g2 (g6 fun e => by rw [e] at hil; exact absurd hil (Nat.not_lt_zero _)) (by omega) (by unfold open_; omega)
    obtain ⟨xb, xo, xc, w, e, hw, hcut⟩ := pks_at g2.src.1 rfl ⟨_, _, rfl⟩ hil
    cases e
    have hci := hcut i hil
    have hmem := hd1.bytes L[i] (List.getElem_mem hil)
    have hlen := hlen L[i] (List.getElem_mem hil)
    have hcells := cells_one L fun e he => by obtain ⟨⟨a, c, hv⟩, _⟩ := (hd1.bytes e he).1.bytes; rw [hv]; rfl
    generalize L[i] = e at *
    obtain ⟨bv, q⟩ := e
    unfold pkC at hci
    simp only at hci hmem hlen h2
    obtain ⟨⟨va, vc, rfl⟩, _⟩ := hmem.1.bytes
    have kb := (Keep.refl k1.wf).new2 k1.wf (.cells [.int .i64 0, .int .i64 0, .int .i64 0, .slice none 0 0] 90 0 false (0, 0)) (.cells [.int .i64 q.id, .int .i64 q.from_, .int .i64 q.to, .slice va q.b.length vc] 90 0 false (0, 0))
    have g1k := kb.old _ _ g1
    (try first | refine EvO.nx ?_ | refine EvA.nx ?_); repeat' (first | refine Abs.goH (Abs.cc g1 (Abs.cc hw (Abs.cc hci (g1k)))) ?_ | with_reducible refine Abs.fork (fun hb => ?_) (fun hb => ?_))
    have hact : (⟨(s1.heap.set s1.next (.cells [.int .i64 0, .int .i64 0, .int .i64 0, .slice none 0 0] 90 0 false (0, 0))).set s1.next (.cells [.int .i64 q.id, .int .i64 q.from_, .int .i64 q.to, .slice va q.b.length vc] 90 0 false (0, 0)), s1.next + 1⟩ : St).heap.get s1.next = some (.cells [.int .i64 q.id, .int .i64 q.from_, .int .i64 q.to, .slice va q.b.length vc] 90 0 false (0, 0)) := get_same _ _ _
    have hd4 := hd1.old kb
    have hb4 := kb.old _ _ hb
    have g3 := g3.mono fun c x _ hx => kb.old c x hx
    have g4 := g4.mono (fun _ h => h) fun c x _ hx => kb.old c x hx
    have g5 := g5.mono (fun _ h => h) fun c x _ hx => kb.old c x hx
    have hm4 := hmem.1.keep fun c x _ hx => kb.old c x hx
    have hk4 := hmem.2.mono (fun _ h => h) fun c x _ hx => kb.old c x hx
    generalize (⟨(s1.heap.set s1.next (.cells [.int .i64 0, .int .i64 0, .int .i64 0, .slice none 0 0] 90 0 false (0, 0))).set s1.next (.cells [.int .i64 q.id, .int .i64 q.from_, .int .i64 q.to, .slice va q.b.length vc] 90 0 false (0, 0)), s1.next + 1⟩ : St) = s4 at *
    have hab : ¬ O s1.next := fun h => absurd (hd1.lt _ h) (Nat.lt_irrefl _)
    have hlo : s.next ≤ s1.next := k1.next
    generalize s1.next = ab at *
    refine delete_ev n kb.wf hb4 ho hl (by rw [hc]; exact hcells) hil hL fun s5 l' n5 w5 hb' hold hll he => ⟨_, _, rfl, ?_⟩
    have hne : b ≠ pb := fun e => by rw [e, hb4] at g1k; cases g1k
    have g1' := (hold b hne).trans g1k
    have hap : ab ≠ pb := fun e => hab (by rw [e]; exact (g4 pb ⟨_, _, _, rfl⟩).1)
    have hao : ab ≠ b := fun e => hab (by rw [e]; exact hd1.own)
    have hact5 := (hold ab hap).trans hact
    have hdel := hd4.del g1k g3 g4 g5 hb4 ho hl hc hil n5 hb' hold hll he
    have mv5 : Mv O O s ⟨s5.heap.set b (.cells [.slice (some ⟨pb, o, none⟩) (L.length - 1) open_, .int .i64 ((sent : Nat) : Int), .int .i64 now, fv, .int .u64 ((z : Nat) : Int)] 87 0 false (0, 0)), s5.next⟩ := by
      refine ⟨fun c x hx => ?_, by rw [n5]; exact Nat.le_trans k1.next kb.next, fun c x hc' hx => ?_, fun c hc' => .inl hc'⟩
      · rcases Tr.get_set hx with ⟨rfl, _⟩ | ⟨_, hx⟩
        · exact w5 _ _ g1'
        · exact w5 _ _ hx
      · refine (get_other _ _ _ _ fun e => hc' (by rw [e]; exact hd1.own)).trans ((hold c fun e => hc' ?_).trans (kb.old c x (k1.old c x hx)))
        rw [e]
        exact (g4 pb ⟨_, _, _, rfl⟩).1
    have ne8 : ∀ c, inBlk (.slice va q.b.length vc) c → c ≠ pb ∧ c ≠ b := fun c hc' => by
      obtain ⟨_, w', sz, op, q2⟩ := hk4 c hc'
      exact ⟨fun e => (by rw [e, hb4] at q2; cases q2), fun e => (by rw [e, g1k] at q2; cases q2)⟩
    have hm5 : TxtB ⟨s5.heap.set b (.cells [.slice (some ⟨pb, o, none⟩) (L.length - 1) open_, .int .i64 ((sent : Nat) : Int), .int .i64 now, fv, .int .u64 ((z : Nat) : Int)] 87 0 false (0, 0)), s5.next⟩ 0 (.slice va q.b.length vc) q.b := hm4.keep fun c x hc' hx => (get_other _ _ _ _ (ne8 c hc').2).trans ((hold c (ne8 c hc').1).trans hx)
    have hact6 : (s5.heap.set b (.cells [.slice (some ⟨pb, o, none⟩) (L.length - 1) open_, .int .i64 ((sent : Nat) : Int), .int .i64 now, fv, .int .u64 ((z : Nat) : Int)] 87 0 false (0, 0))).get ab = some (.cells [.int .i64 q.id, .int .i64 q.from_, .int .i64 q.to, .slice va q.b.length vc] 90 0 false (0, 0)) := (get_other _ _ _ _ hao).trans hact5
    unfold wantB at h2
    by_cases hmost : 0 ≤ most ∧ most < (q.b.length : Int)
    · rw [if_pos hmost] at h2
      obtain ⟨hm0, hml⟩ := hmost
      obtain ⟨mm, rfl⟩ : ∃ mm : Nat, most = (mm : Int) := ⟨most.toNat, by omega⟩
      rw [Int.toNat_natCast] at h2
      obtain ⟨bb, e, hbb⟩ := hm5.own_of fun e => by rw [e] at hml; simp only [List.length_nil] at hml; omega
      cases e
      have hlen8 := byteCells_len q.b
      have hop : mm < open_ := by unfold open_; omega
      have hbb' : (s5.heap.set b (.cells [.slice (some ⟨pb, o, none⟩) (L.length - 1) open_, .int .i64 ((sent : Nat) : Int), .int .i64 now, fv, .int .u64 ((z : Nat) : Int)] 87 0 false (0, 0))).get bb = some (.cells (byteCells q.b) 5 1 true (0, 0)) := hbb
      have habb : bb ≠ ab := fun e => hab (by rw [← e]; exact (hk4 bb ⟨_, _, _, rfl⟩).1)
      have mv6 : ∀ X : AObj, Mv O O s ⟨(s5.heap.set b (.cells [.slice (some ⟨pb, o, none⟩) (L.length - 1) open_, .int .i64 ((sent : Nat) : Int), .int .i64 now, fv, .int .u64 ((z : Nat) : Int)] 87 0 false (0, 0))).set ab X, s5.next⟩ := fun X => ⟨fun c x hx => by
          rcases Tr.get_set hx with ⟨rfl, _⟩ | ⟨_, hx⟩
          · exact mv5.wf _ _ hact6
          · exact mv5.wf _ _ hx, mv5.next, fun c x hc' hx => (get_other _ _ _ _ (by have := hwf c x hx; omega)).trans (mv5.old c x hc' hx), fun c hc' => .inl hc'⟩
      have hdel6 : ∀ X : AObj, SN ⟨(s5.heap.set b (.cells [.slice (some ⟨pb, o, none⟩) (L.length - 1) open_, .int .i64 ((sent : Nat) : Int), .int .i64 now, fv, .int .u64 ((z : Nat) : Int)] 87 0 false (0, 0))).set ab X, s5.next⟩ O b (L.eraseIdx i) sent now fed z := fun X => hdel.mono (fun c x hc' hx => (get_other _ _ _ _ fun e => hab (by rw [← e]; exact hc')).trans hx) (Nat.le_refl _)
      have hbb6 : ∀ X : AObj, (⟨(s5.heap.set b (.cells [.slice (some ⟨pb, o, none⟩) (L.length - 1) open_, .int .i64 ((sent : Nat) : Int), .int .i64 now, fv, .int .u64 ((z : Nat) : Int)] 87 0 false (0, 0))).set ab X, s5.next⟩ : St).heap.get bb = some (.cells (byteCells q.b) 5 1 true (0, 0)) := fun X => (get_other _ _ _ _ habb).trans hbb'
      by_cases hz : mm = 0
      · subst hz
        (try first | refine EvO.nx ?_ | refine EvA.nx ?_); repeat' (first | refine Abs.goH (Abs.cc g1' (Abs.cc hact6 (Abs.cc hbb' (hlen8)))) ?_ | with_reducible refine Abs.fork (fun hb => ?_) (fun hb => ?_))
        refine Abs.Ev.regionD (n := 0) (l := [.go 0, .go 1, .go 2, .go 3, .go 4, .go 5, .go 6, .go 7, .go 8, .go 9]) (by kernel_rfl) ?_
        (try first | refine EvO.nx ?_ | refine EvA.nx ?_); repeat' (first | refine Abs.go ?_ | with_reducible refine Abs.fork (fun hb => ?_) (fun hb => ?_))
        refine h2 _ _ (mv6 _) (hdel6 _) (txt_take (m := 0) (hbb6 _) (by omega) _) fun c hc' => ?_
        obtain ⟨_, _, _, e⟩ := hc'
        cases e
        exact (hk4 bb ⟨_, _, _, rfl⟩).1
      · (try first | refine EvO.nx ?_ | refine EvA.nx ?_); repeat' (first | refine Abs.goH (Abs.cc g1' (Abs.cc hact6 (Abs.cc hbb' (hlen8)))) ?_ | with_reducible refine Abs.fork (fun hb => ?_) (fun hb => ?_))
        refine Abs.Ev.regionD (n := 0) (l := [.go 0, .go 1, .go 2, .go 3, .go 4, .go 5, .go 6, .go 7, .go 8, .go 9]) (by kernel_rfl) ?_
        (try first | refine EvO.nx ?_ | refine EvA.nx ?_); repeat' (first | refine Abs.go ?_ | with_reducible refine Abs.fork (fun hb => ?_) (fun hb => ?_))
        refine h2 _ _ (mv6 _) (hdel6 _) (txt_take (m := mm) (hbb6 _) (by omega) _) fun c hc' => ?_
        obtain ⟨_, _, _, e⟩ := hc'
        cases e
        exact (hk4 bb ⟨_, _, _, rfl⟩).1
    · rw [if_neg hmost] at h2
      by_cases hm0 : 0 ≤ most
      · have hml : ¬ most < (q.b.length : Int) := fun h => hmost ⟨hm0, h⟩
        (try first | refine EvO.nx ?_ | refine EvA.nx ?_); repeat' (first | refine Abs.goH (Abs.cc g1' (hact6)) ?_ | with_reducible refine Abs.fork (fun hb => ?_) (fun hb => ?_))
        refine Abs.Ev.regionD (n := 0) (l := [.go 0, .go 1, .go 2, .go 3, .go 4, .go 5, .go 6, .go 7, .go 8, .go 9]) (by kernel_rfl) ?_
        (try first | refine EvO.nx ?_ | refine EvA.nx ?_); repeat' (first | refine Abs.goH hact6 ?_ | with_reducible refine Abs.fork (fun hb => ?_) (fun hb => ?_))
        exact h2 _ _ mv5 hdel hm5.bytes fun c hc' => (hk4 c hc').1
      · (try first | refine EvO.nx ?_ | refine EvA.nx ?_); repeat' (first | refine Abs.goH (Abs.cc g1' (hact6)) ?_ | with_reducible refine Abs.fork (fun hb => ?_) (fun hb => ?_))
        refine Abs.Ev.regionD (n := 0) (l := [.go 0, .go 1, .go 2, .go 3, .go 4, .go 5, .go 6, .go 7, .go 8, .go 9]) (by kernel_rfl) ?_
        (try first | refine EvO.nx ?_ | refine EvA.nx ?_); repeat' (first | refine Abs.goH hact6 ?_ | with_reducible refine Abs.fork (fun hb => ?_) (fun hb => ?_))
        exact h2 _ _ mv5 hdel hm5.bytes fun c hc' => (hk4 c hc').1
end
end Go.Proofs.Ytpbadpkleiogoaa
