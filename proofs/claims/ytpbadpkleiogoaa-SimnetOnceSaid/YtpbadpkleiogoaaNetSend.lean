/-
  The walk of a network's Send.
-/
import Derived.Test.YtpbadpkleiogoaaNetA
namespace Go.Proofs.Ytpbadpkleiogoaa
open Go.RowKit
attribute [local go_sem ↓] Go.wp_at_zero Go.wp_at_succ

theorem one4 (a b c : Int) (A : Option Addr) (n k : Nat) : ∀ u ∈ [Value.int .i64 a, .int .i64 b, .int .i64 c, .slice A n k], u.oneCell' = true := by
  intro u hu
  simp at hu
  rcases hu with rfl | rfl | rfl | rfl <;> rfl

/-- what Send's last steps leave is the network with one packet more -/
theorem send_close {tn tw : TypeId} {ρ : Col} {w w0 w1 w2 : World} {nb : Nat} {s : NSt} {A A1 A2 : Option Addr} {c cc1 cc2 n : Nat} {fv : Value} {l : List (Pk × Value)} {fr dst : Int} {bs : List UInt8} {O : Obj}
    (h : GNetAt tn tw ρ w nb s (.slice A l.length c) fv l) (hF : Fit ρ w) (hM0 : OwnMod ρ nb w w0) (hsz : w0.heap.size = w.heap.size) (hb0 : Blk w0 nb #[.slice A l.length c, .int .i64 (s.sent + 1), .int .i64 s.now, fv, .int .u64 s.z] tn)
    (hMn : Mod (· = nb) w w0) (k1 : Sl w1 5 1 (.slice A1 n cc1) n (bcells bs)) (k2 : Mod (fun _ => False) w0.drew w1) (k3 : ∀ b, (Value.slice A1 n cc1).ownBlock = some b → w0.heap.size ≤ b)
    (hp : SlPost (w1.alloc O) tw 4 l.length (l.length + 1) (l.flatMap pkc ++ [.int .i64 (s.sent + 1), .int .i64 fr, .int .i64 dst, .slice A1 n cc1]) (.slice A l.length c) (.slice A2 (l.length + 1) cc2) w2) :
    ∃ ρ', GNet tn tw ρ' (w2.setCell ⟨nb, 0, none⟩ (.slice A2 (l.length + 1) cc2)) nb { s with ps := s.ps ++ [⟨s.sent + 1, fr, dst, bs⟩], sent := s.sent + 1 } ∧ Ext w ρ ρ' ∧ Fit ρ' (w2.setCell ⟨nb, 0, none⟩ (.slice A2 (l.length + 1) cc2)) ∧
      OwnMod ρ nb w (w2.setCell ⟨nb, 0, none⟩ (.slice A2 (l.length + 1) cc2)) := by
  obtain ⟨hs2, hm2, ho2, hz2, _⟩ := hp
  have hnw := h.blk.lt
  have hk2 : w0.heap.size ≤ w1.heap.size := k2.size
  have M1 : Mod (fun b => (Value.slice A l.length c).ownBlock = some b) w0 w2 := ((Mod.alloc (Mod.of_drew k2) O).mono (fun _ _ x => x.elim)).trans hm2 (fun _ _ x => x)
  have hvn : (Value.slice A l.length c).ownBlock ≠ some nb := fun e => by have := h.cp _ e; rw [h.cn] at this; cases this
  have M2 : Mod (fun b => b = nb ∨ (Value.slice A l.length c).ownBlock = some b) w (w2.setCell ⟨nb, 0, none⟩ (.slice A2 (l.length + 1) cc2)) :=
    ((hMn.mono (fun _ _ x => .inl x)).trans M1 (fun _ _ x => .inr x)).setCell (p := ⟨nb, 0, none⟩) (fun _ => .inl rfl) _
  have hOM : OwnMod ρ nb w (w2.setCell ⟨nb, 0, none⟩ (.slice A2 (l.length + 1) cc2)) := M2.mono (fun b _ x => by
    rcases x with rfl | x
    · exact ⟨0, h.cn⟩
    · exact ⟨1, h.cp b x⟩)
  have hn : n = bs.length := by have := k1.1; simpa [bcells] using this.symm
  have hw2 : w1.heap.size + 1 ≤ w2.heap.size := by have := hm2.size; simpa using this
  have hsf : (w2.setCell ⟨nb, 0, none⟩ (.slice A2 (l.length + 1) cc2)).heap.size = w2.heap.size := by simp [World.setCell]
  have fin : ∀ ρ' : Col, Ext w ρ ρ' → Fit ρ' w2 → Vc ρ' (.slice A2 (l.length + 1) cc2) (some (nb, 1)) → Vc ρ' (.slice A1 n cc1) none →
      GNet tn tw ρ' (w2.setCell ⟨nb, 0, none⟩ (.slice A2 (l.length + 1) cc2)) nb { s with ps := s.ps ++ [⟨s.sent + 1, fr, dst, bs⟩], sent := s.sent + 1 } := by
    intro ρ' he _ hv2 hv1
    have hcn : ρ' nb = some (nb, 0) := (he _ hnw).trans h.cn
    have hv2n : (Value.slice A2 (l.length + 1) cc2).ownBlock ≠ some nb := fun e => by have := hv2 _ e; rw [hcn] at this; cases this
    refine ⟨_, fv, l ++ [(⟨s.sent + 1, fr, dst, bs⟩, .slice A1 n cc1)], ?_, ?_, ?_, ?_, ?_, hcn, hv2, h.cf.ext h.fed he, ?_⟩
    · exact (hb0.mod M1 hvn).set 0 _
    · simp [h.ps]
    · have := hs2.setCell (p := ⟨nb, 0, none⟩) hv2n (.slice A2 (l.length + 1) cc2)
      simpa [pkc] using this
    · refine h.fed.mod M2 (fun b hb x => ?_)
      have hf := h.cf b hb
      rcases x with rfl | x
      · rw [h.cn] at hf; cases hf
      · rw [h.cp b x] at hf; cases hf
    · intro x hx
      rcases List.mem_append.1 hx with hx | hx
      · refine (h.bs x hx).mod M2 (fun b hb y => ?_)
        have hf := h.cb x hx b hb
        rcases y with rfl | y
        · rw [h.cn] at hf; cases hf
        · rw [h.cp b y] at hf; cases hf
      · obtain rfl : x = (⟨s.sent + 1, fr, dst, bs⟩, .slice A1 n cc1) := by simpa using hx
        have k1' := k1.alloc O
        have hM3 : Mod (fun b => b = nb ∨ (Value.slice A l.length c).ownBlock = some b) (w1.alloc O) (w2.setCell ⟨nb, 0, none⟩ (.slice A2 (l.length + 1) cc2)) := (hm2.mono (fun _ _ x => .inr x)).setCell (p := ⟨nb, 0, none⟩) (fun _ => .inl rfl) _
        have := k1'.mod hM3 (fun b hb y => by
          have hb1 := k3 b hb
          rcases y with rfl | y
          · omega
          · have := h.pks.lt y
            omega)
        simpa [hn] using this
    · intro x hx
      rcases List.mem_append.1 hx with hx | hx
      · exact (h.cb x hx).ext (h.bs x hx) he
      · obtain rfl : x = (⟨s.sent + 1, fr, dst, bs⟩, .slice A1 n cc1) := by simpa using hx
        exact hv1
  have hv1 : Vc ρ (.slice A1 n cc1) none := fun b hb => hF b (by have := k3 b hb; omega)
  have hF2 : Fit ρ w2 := hF.mono (by omega)
  rcases h.cp.append ho2 with ⟨_, hv2⟩ | ⟨he2, hv2⟩
  · exact ⟨ρ, fin ρ (Ext.refl _ _) hF2 hv2 hv1, Ext.refl _ _, Fit.mono hF2 (by rw [hsf]; omega), hOM⟩
  · have hlt : (w1.alloc O).heap.size < w2.heap.size := hs2.lt he2
    have hlt' : w1.heap.size + 1 = (w1.alloc O).heap.size := by simp
    have hE : Ext w ρ (ρ.put (w1.alloc O).heap.size (nb, 1)) := (Ext.refl _ _).put (by omega) _
    have hv1' : Vc (ρ.put (w1.alloc O).heap.size (nb, 1)) (.slice A1 n cc1) none := fun b hb => by
      rw [put_other _ (by have := k1.lt hb; omega)]
      exact hv1 b hb
    exact ⟨_, fin _ hE (hF2.put hlt _) hv2 hv1', hE, Fit.mono (hF2.put hlt _) (by rw [hsf]; omega), hOM⟩

set_option maxRecDepth 100000 in
set_option maxHeartbeats 2000000 in
theorem send_any (ρ : Col) (w : World) (nb : Nat) (s : NSt) (hN : Net ρ w nb s) (hF : Fit ρ w) (hs0 : 0 ≤ s.sent) (hs1 : s.sent ≤ 1000000) (hl : s.ps.length ≤ 1000000)
    (fr dst : Int) (v : Value) (n : Nat) (bs : List UInt8) (hn : n ≤ 140737488355328) (hv : ∃ A c, v = .slice A n c) (hsrc : Src Try.prog w 1 45 v n (bcells bs)) (hvn : v.ownBlock ≠ some nb) :
    Calls Try.prog 31 #[.pointer (some ⟨nb, 0, none⟩), .int .i64 fr, .int .i64 dst, v] w (SendPost ρ w nb s fr dst bs) := by
  obtain ⟨pv, fv, l, h⟩ := hN
  obtain ⟨i0, hi, hz0, hz1, hz2⟩ := info_parts Net.info_waiting
  have hM0 : OwnMod ρ nb w (w.setCell ⟨nb, 1, none⟩ (.int .i64 (s.sent + 1))) := (OwnMod.refl ρ nb w).setCell h.cn _
  have hb0 := h.blk.set 1 (.int .i64 (s.sent + 1))
  have hMn := (Mod.refl (· = nb) w).setCell (p := ⟨nb, 1, none⟩) (fun _ => rfl) (.int .i64 (s.sent + 1))
  have hp0 := h.pks.setCell (p := ⟨nb, 1, none⟩) (fun e => by have := h.cp _ e; rw [h.cn] at this; cases this) (.int .i64 (s.sent + 1))
  have hsz : (w.setCell ⟨nb, 1, none⟩ (.int .i64 (s.sent + 1))).heap.size = w.heap.size := by simp [World.setCell]
  have hsrc0 := hsrc.mod ((Mod.refl (· = nb) w).setCell (p := ⟨nb, 1, none⟩) (fun _ => rfl) (.int .i64 (s.sent + 1))) (fun b hb e => by subst e; exact hvn hb)
  have d1 : w.cell? ⟨nb, 1, none⟩ = some (.int .i64 s.sent) := h.blk.cell 1
  have z1 : ∀ j, w.frozen? ⟨nb, j, none⟩ = false := h.blk.free
  go_enter Try.func31, Try.ntmps31
  go_wp2_with fail
  generalize w.setCell ⟨nb, 1, none⟩ (.int .i64 (s.sent + 1)) = w0 at *
  obtain ⟨A, c, rfl⟩ := hp0.shape'
  have hps := h.ps
  have hll : l.length = s.ps.length := by rw [← hps]; simp
  have c0 : w0.cell? ⟨nb, 0, none⟩ = some (.slice A l.length c) := hb0.cell 0
  have c1 : w0.cell? ⟨nb, 1, none⟩ = some (.int .i64 (s.sent + 1)) := hb0.cell 1
  have z0 : w0.frozen? ⟨nb, 0, none⟩ = false := hb0.free 0
  have hnb := hb0.lt
  have hne : (Value.slice A l.length c).ownBlock ≠ some nb := fun e => by have := h.cp _ e; rw [h.cn] at this; cases this
  have HPS := Lib.hid hps
  have HLL := Lib.hid hll
  have HSZ := Lib.hid hsz
  have HNE := Lib.hid hne
  clear hps hll hsz z1 d1 hne
  go_region_law (first
      | (refine step_append_sl (by rfl) _ _ _ _ (by rfl) 90 i0 _ 4 48 Try.underlying85 hi hz0 hz1 hz2 rfl _ _ _ (by rfl) ((Sl.mod (w := w0.drew) hp0 k2 (fun _ _ => id)).alloc _) _ 1 [.int .i64 (s.sent + 1), .int .i64 fr, .int .i64 dst, .slice A1 n cc1] (by rfl) (Src.new _ _ _ _ _ Try.underlying85 _ _ _ (by rfl) (one4 _ _ _ _ _ _)) (by unfold maxLen; have := HLL.out; omega) (by have := HLL.out; omega) ?_; rintro v2 w2 hp2; obtain ⟨A2, cc2, rfl⟩ := hp2.1.shape'; have f0 := hp2.2.1.cell (keepA e0) HNE.out; have f1 := hp2.2.1.cell (keepA e1) HNE.out; have f2 := hp2.2.1.free (keepF e2 (Nat.lt_of_lt_of_le hnb (Nat.le_trans k2.size (by simp)))) (Nat.lt_of_lt_of_le hnb (Nat.le_trans k2.size (by simp))) HNE.out)
      | (go_simp; go_at_call 42; refine (clone_any v n bs _ hn ?_ hv).mono ?_; exact hsrc0; rintro e w1 ⟨v1, rfl, k1, k2, k3⟩; obtain ⟨A1, cc1, rfl⟩ := k1.shape'; have e0 := k2.cell c0 id; have e1 := k2.cell c1 id; have e2 := k2.free z0 hnb id; have e4 : nb < w1.heap.size := Nat.lt_of_lt_of_le hnb k2.size; dsimp only))
  all_goals (go_wp2; go_ret; exact ⟨rfl, send_close h hF hM0 HSZ.out hb0 hMn k1 k2 k3 hp2⟩)
end Go.Proofs.Ytpbadpkleiogoaa
