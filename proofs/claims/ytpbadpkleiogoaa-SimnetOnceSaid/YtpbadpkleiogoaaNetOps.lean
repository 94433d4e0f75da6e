/-
  The walks of a network's other calls.
-/
import Derived.Test.YtpbadpkleiogoaaNetSend
import Derived.Test.YtpbadpkleiogoaaNetDel
namespace Go.Proofs.Ytpbadpkleiogoaa
open Go.RowKit
attribute [local go_sem ↓] Go.wp_at_zero Go.wp_at_succ

def OpPost (ρ : Col) (w : World) (nb : Nat) (s' : NSt) (v : Value) (e : Ending) (w' : World) : Prop :=
  e = .returned v ∧ ∃ ρ', Net ρ' w' nb s' ∧ Ext w ρ ρ' ∧ Fit ρ' w' ∧ OwnMod ρ nb w w'

theorem GNetAt.ne_p {tn tw : TypeId} {ρ : Col} {w : World} {nb : Nat} {s : NSt} {pv fv : Value} {l : List (Pk × Value)} (h : GNetAt tn tw ρ w nb s pv fv l) : pv.ownBlock ≠ some nb := fun e => by have := h.cp _ e; rw [h.cn] at this; cases this
theorem GNetAt.ne_f {tn tw : TypeId} {ρ : Col} {w : World} {nb : Nat} {s : NSt} {pv fv : Value} {l : List (Pk × Value)} (h : GNetAt tn tw ρ w nb s pv fv l) : fv.ownBlock ≠ some nb := fun e => by have := h.cf _ e; rw [h.cn] at this; cases this
theorem GNetAt.ne_b {tn tw : TypeId} {ρ : Col} {w : World} {nb : Nat} {s : NSt} {pv fv : Value} {l : List (Pk × Value)} (h : GNetAt tn tw ρ w nb s pv fv l) {x : Pk × Value} (hx : x ∈ l) : x.2.ownBlock ≠ some nb := fun e => by have := h.cb x hx _ e; rw [h.cn] at this; cases this
/-- a cell of the network's own block is stored -/
theorem GNetAt.poke {tn tw : TypeId} {ρ : Col} {w : World} {nb : Nat} {s : NSt} {pv fv : Value} {l : List (Pk × Value)} (h : GNetAt tn tw ρ w nb s pv fv l) (i : Nat) (u : Value) :
    Sl (w.setCell ⟨nb, i, none⟩ u) tw 4 pv l.length (l.flatMap pkc) ∧ Sl (w.setCell ⟨nb, i, none⟩ u) 29 1 fv s.fed.length (s.fed.map (.int .u64 ·)) ∧
      (∀ x ∈ l, Sl (w.setCell ⟨nb, i, none⟩ u) 5 1 x.2 x.1.b.length (bcells x.1.b)) ∧ OwnMod ρ nb w (w.setCell ⟨nb, i, none⟩ u) :=
  ⟨h.pks.setCell h.ne_p u, h.fed.setCell h.ne_f u, fun x hx => (h.bs x hx).setCell (h.ne_b hx) u, (OwnMod.refl ρ nb w).setCell h.cn u⟩

def zero : NSt := ⟨[], 0, 0, [], 0⟩

def NewNet (ρ : Col) (w : World) (e : Ending) (w' : World) : Prop :=
  e = .returned (.pointer (some ⟨w.heap.size, 0, none⟩)) ∧ ∃ ρ', Net ρ' w' w.heap.size zero ∧ Ext w ρ ρ' ∧ Fit ρ' w' ∧ Mod (fun _ => False) w w'

set_option maxHeartbeats 1000000 in
theorem new_any (ρ : Col) (w : World) (hF : Fit ρ w) : Calls Try.prog 23 #[] w (NewNet ρ w) := by
  go_enter Try.func23, Try.ntmps23
  go_wp2
  go_ret
  refine ⟨rfl, ρ.put w.heap.size (w.heap.size, 0), ⟨.slice none 0 0, .slice none 0 0, [], Blk.new _ _ _, rfl, Sl.nil _ _ _, Sl.nil _ _ _, by simp, put_same _ _ _, Vc.nil _ _ _ _, Vc.nil _ _ _ _, by simp⟩, (Ext.refl _ _).put (Nat.le_refl _) _, (Fit.mono hF (by simp)).put (by simp) _, (Mod.refl _ w).alloc _⟩

set_option maxHeartbeats 1000000 in
theorem now_any (ρ : Col) (w : World) (nb : Nat) (s : NSt) (hN : Net ρ w nb s) : Calls Try.prog 28 #[.pointer (some ⟨nb, 0, none⟩)] w fun e w' => e = .returned (.int .i64 s.now) ∧ w = w' := by
  obtain ⟨pv, fv, l, h⟩ := hN
  have c2 : w.cell? ⟨nb, 2, none⟩ = some (.int .i64 s.now) := h.blk.cell 2
  clear h
  go_enter Try.func28, Try.ntmps28
  go_wp2
  go_ret
  exact ⟨rfl, rfl⟩

set_option maxHeartbeats 1000000 in
theorem sent_any (ρ : Col) (w : World) (nb : Nat) (s : NSt) (hN : Net ρ w nb s) : Calls Try.prog 39 #[.pointer (some ⟨nb, 0, none⟩)] w fun e w' => e = .returned (.int .i64 s.sent) ∧ w = w' := by
  obtain ⟨pv, fv, l, h⟩ := hN
  have c1 : w.cell? ⟨nb, 1, none⟩ = some (.int .i64 s.sent) := h.blk.cell 1
  clear h
  go_enter Try.func39, Try.ntmps39
  go_wp2
  go_ret
  exact ⟨rfl, rfl⟩

/-- may the clock go on so far? -/
def mayTick (now d : Int) : Bool := decide (0 ≤ d) && decide (d ≤ 1152921504606846976 - now)
def tickErr (now d : Int) : Int := if mayTick now d then 0 else 1
def ticked (s : NSt) (d : Int) : NSt := if mayTick s.now d then { s with now := s.now + d } else s

set_option maxHeartbeats 1000000 in
theorem tick_any (ρ : Col) (w : World) (nb : Nat) (s : NSt) (hN : Net ρ w nb s) (hF : Fit ρ w) (d : Int) (h0 : 0 ≤ s.now) (h1 : s.now ≤ 1152921504606846976) :
    Calls Try.prog 27 #[.pointer (some ⟨nb, 0, none⟩), .int .i64 d] w (OpPost ρ w nb (ticked s d) (.int .i64 (tickErr s.now d))) := by
  have hN0 := hN
  obtain ⟨pv, fv, l, hA⟩ := hN
  have c2 : w.cell? ⟨nb, 2, none⟩ = some (.int .i64 s.now) := hA.blk.cell 2
  have z2 : w.frozen? ⟨nb, 2, none⟩ = false := hA.blk.free 2
  by_cases d0 : d < 0
  · have hm : Hid (mayTick s.now d = false) := Lib.hid (by unfold mayTick; simp; omega)
    go_enter Try.func27, Try.ntmps27
    go_wp2
    go_ret
    refine ⟨by unfold tickErr; rw [hm.out]; rfl, ρ, ?_, Ext.refl _ _, hF, OwnMod.refl _ _ _⟩
    unfold ticked
    rw [hm.out]
    exact hN0
  · by_cases d1 : 1152921504606846976 - s.now < d
    · have hm : Hid (mayTick s.now d = false) := Lib.hid (by unfold mayTick; simp; omega)
      go_enter Try.func27, Try.ntmps27
      go_wp2
      go_ret
      refine ⟨by unfold tickErr; rw [hm.out]; rfl, ρ, ?_, Ext.refl _ _, hF, OwnMod.refl _ _ _⟩
      unfold ticked
      rw [hm.out]
      exact hN0
    · have hm : Hid (mayTick s.now d = true) := Lib.hid (by unfold mayTick; simp; omega)
      have hb : s.now + d ≤ 1152921504606846976 := by omega
      go_enter Try.func27, Try.ntmps27
      go_wp2
      go_ret
      have hp := hA.poke 2 (.int .i64 (s.now + d))
      refine ⟨by unfold tickErr; rw [hm.out]; rfl, ρ, ?_, Ext.refl _ _, hF.mono (by simp [World.setCell]), hp.2.2.2⟩
      unfold ticked
      rw [hm.out]
      exact ⟨pv, fv, l, hA.blk.set 2 _, hA.ps, hp.1, hp.2.1, hp.2.2.1, hA.cn, hA.cp, hA.cf, hA.cb⟩

theorem Net.info_u64 : (Try.prog.info? 29).map (fun i => (i.zero, i.size, i.bytes)) = some (some (.int .u64 0), 1, 8) := by kernel_rfl

set_option maxHeartbeats 1000000 in
theorem feed_any (ρ : Col) (w : World) (nb : Nat) (s : NSt) (hN : Net ρ w nb s) (hF : Fit ρ w) (x : Int) (hl : s.fed.length ≤ 1000000) :
    Calls Try.prog 34 #[.pointer (some ⟨nb, 0, none⟩), .int .u64 x] w (OpPost ρ w nb { s with fed := s.fed ++ [x] } (.tuple #[])) := by
  obtain ⟨pv, fv, l, hA⟩ := hN
  obtain ⟨i0, hi0, hz0, hz1, hz2⟩ := info_parts Net.info_u64
  obtain ⟨A, c, rfl⟩ := hA.fed.shape'
  have c3 : w.cell? ⟨nb, 3, none⟩ = some (.slice A s.fed.length c) := hA.blk.cell 3
  have z3 : w.frozen? ⟨nb, 3, none⟩ = false := hA.blk.free 3
  have hnb := hA.blk.lt
  have hne := hA.ne_f
  go_enter Try.func34, Try.ntmps34
  go_wp2_with (at_builtin; refine wpList_append_sl rfl (.tmp 8) (.tmp 10) 58 58 rfl 29 i0 _ 1 8 Try.underlying58 hi0 hz0 hz1 hz2 rfl _ _ _ rfl (hA.fed.alloc _) _ 1 [.int .u64 x] rfl (Src.new _ _ _ _ _ Try.underlying58 _ _ _ rfl (by simp [Value.oneCell'])) ?c1 ?c2 ?_)
  case c1 => unfold maxLen; omega
  case c2 => omega
  rintro v2 w2 ⟨hs2, hm2, ho2, hz2', _⟩
  obtain ⟨A2, cc2, rfl⟩ := hs2.shape'
  have f3 := hm2.cell (keepA c3) hne
  have g3 := hm2.free (keepF z3 hnb) (by simp; omega) hne
  go_wp2
  go_end0
  have M : Mod (fun b => (Value.slice A s.fed.length c).ownBlock = some b) w w2 := ((Mod.refl (fun _ => False) w).alloc _).mono (fun _ _ x => x.elim) |>.trans hm2 (fun _ _ x => x)
  have M2 : OwnMod ρ nb w (w2.setCell ⟨nb, 3, none⟩ (.slice A2 (s.fed.length + 1) cc2)) := ((OwnMod.refl ρ nb w).val hA.cf M).setCell hA.cn _
  have fin : ∀ ρ' : Col, Ext w ρ ρ' → Vc ρ' (.slice A2 (s.fed.length + 1) cc2) (some (nb, 2)) → Net ρ' (w2.setCell ⟨nb, 3, none⟩ (.slice A2 (s.fed.length + 1) cc2)) nb { s with fed := s.fed ++ [x] } := by
    intro ρ' he hv2
    have hcn : ρ' nb = some (nb, 0) := (he _ hnb).trans hA.cn
    have hv2n : (Value.slice A2 (s.fed.length + 1) cc2).ownBlock ≠ some nb := fun e => by have := hv2 _ e; rw [hcn] at this; cases this
    refine ⟨pv, _, l, (hA.blk.mod M hne).set 3 _, hA.ps, ?_, ?_, ?_, hcn, hA.cp.ext hA.pks he, hv2, fun y hy => (hA.cb y hy).ext (hA.bs y hy) he⟩
    · exact (hA.pks.mod M (fun b hb e => by have h1 := hA.cp b hb; rw [hA.cf b e] at h1; cases h1)).setCell hA.ne_p _
    · have := hs2.setCell (p := ⟨nb, 3, none⟩) hv2n (.slice A2 (s.fed.length + 1) cc2)
      simpa using this
    · intro y hy
      exact ((hA.bs y hy).mod M (fun b hb e => by have h1 := hA.cb y hy b hb; rw [hA.cf b e] at h1; cases h1)).setCell (hA.ne_b hy) _
  have hF2 : Fit ρ w2 := hF.mono M.size
  have hsf : (w2.setCell ⟨nb, 3, none⟩ (.slice A2 (s.fed.length + 1) cc2)).heap.size = w2.heap.size := by simp [World.setCell]
  rcases hA.cf.append ho2 with ⟨_, hv2⟩ | ⟨he2, hv2⟩
  · exact ⟨rfl, ρ, fin ρ (Ext.refl _ _) hv2, Ext.refl _ _, Fit.mono hF2 (by rw [hsf]; omega), M2⟩
  · have hlt := hs2.lt he2
    have hE := (Ext.refl w ρ).put (b := (w.alloc (.cells [Value.int .u64 x].toArray 29)).heap.size) (by simp) (nb, 2)
    exact ⟨rfl, _, fin _ hE hv2, hE, Fit.mono (hF2.put hlt _) (by rw [hsf]; omega), M2⟩

def IxPost (w : World) (l : List (Pk × Value)) (id : Int) (e : Ending) (w' : World) : Prop := e = .returned (.int .i64 (ixOf id l)) ∧ Mod (fun _ => False) w w'

set_option maxHeartbeats 1000000 in
theorem find_any (w : World) (nb : Nat) (v : Value) (l : List (Pk × Value)) (hc : w.cell? ⟨nb, 0, none⟩ = some v) (hnb : nb < w.heap.size) (hl : l.length ≤ 1000000) (hv : Sl w 90 4 v l.length (l.flatMap pkc)) (id : Int) :
    Calls Try.prog 40 #[.pointer (some ⟨nb, 0, none⟩), .int .i64 id] w (IxPost w l id) := by
  obtain ⟨A, c, rfl⟩ := hv.shape'
  go_enter Try.func40, Try.ntmps40
  go_wp2_with fail
  refine (indexfunc_any _ _ l _ rfl hl (hv.alloc _) id w.heap.size (by simp) (by simp)).mono ?_
  rintro e w1 ⟨rfl, hM⟩
  go_wp2
  go_ret
  exact ⟨rfl, ((Mod.refl _ w).alloc _).trans hM (fun _ _ x => x)⟩

end Go.Proofs.Ytpbadpkleiogoaa
