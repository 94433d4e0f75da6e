/-
  The walk of a network's Rand.
-/
import Derived.Test.YtpbadpkleiogoaaNetOps
namespace Go.Proofs.Ytpbadpkleiogoaa
open Go.RowKit
attribute [local go_sem ↓] Go.wp_at_zero Go.wp_at_succ

def zNext (z : Int) : Int := IntKind.u64.wrap (z + 11400714819323198485)
def zMix1 (x : Int) : Int := IntKind.u64.wrap (bits BinOp.xor IntKind.u64 x (x / 1073741824) * 13787848793156543929)
def zMix2 (x : Int) : Int := IntKind.u64.wrap (bits BinOp.xor IntKind.u64 x (x / 134217728) * 10723151780598845931)
def zMix3 (x : Int) : Int := bits BinOp.xor IntKind.u64 x (x / 2147483648)
def zMix (x : Int) : Int := zMix3 (zMix2 (zMix1 x))
theorem zNext_bd (z : Int) : 0 ≤ zNext z ∧ zNext z < 18446744073709551616 := by
  unfold zNext
  rw [IntKind.wrap_u64]
  exact ⟨Int.emod_nonneg _ (by omega), Int.emod_lt_of_pos _ (by omega)⟩

set_option maxHeartbeats 1000000 in
theorem rand_seed (ρ : Col) (w : World) (nb : Nat) (s : NSt) (hN : Net ρ w nb s) (hF : Fit ρ w) (hf : s.fed = []) (_h0 : 0 ≤ s.z) (h1 : s.z < 18446744073709551616) :
    Calls Try.prog 35 #[.pointer (some ⟨nb, 0, none⟩)] w (OpPost ρ w nb { s with z := zNext s.z } (.int .u64 (zMix (zNext s.z)))) := by
  obtain ⟨pv, fv, l, hA⟩ := hN
  have hfed := hA.fed
  rw [hf] at hfed
  obtain ⟨A, c, rfl⟩ := hfed.shape'
  have c3 : w.cell? ⟨nb, 3, none⟩ = some (.slice A 0 c) := by have := hA.blk.cell 3; simpa [hf] using this
  have c4 : w.cell? ⟨nb, 4, none⟩ = some (.int .u64 s.z) := hA.blk.cell 4
  have z3 : ∀ i, w.frozen? ⟨nb, i, none⟩ = false := hA.blk.free
  have hnb := hA.blk.lt
  have hp := hA.poke 4 (.int .u64 (zNext s.z))
  have hb := hA.blk.set 4 (.int .u64 (zNext s.z))
  generalize hz : s.z = z at *
  have H1 := Lib.hid h1
  have HF := Lib.hid hf
  have HZ := Lib.hid hz
  have HP := Lib.hid hp
  clear h1 hf hfed hz hp
  go_enter Try.func35, Try.ntmps35
  go_wp2
  go_ret
  refine ⟨rfl, ρ, ⟨pv, _, l, hb, hA.ps, HP.out.1, HP.out.2.1, HP.out.2.2.1, hA.cn, hA.cp, hA.cf, hA.cb⟩, Ext.refl _ _, hF.mono (by simp [World.setCell]), HP.out.2.2.2⟩

set_option maxHeartbeats 1000000 in
theorem rand_fed (ρ : Col) (w : World) (nb : Nat) (s : NSt) (hN : Net ρ w nb s) (hF : Fit ρ w) (x : Int) (rest : List Int) (hf : s.fed = x :: rest) (hl : s.fed.length ≤ 1000000) :
    Calls Try.prog 35 #[.pointer (some ⟨nb, 0, none⟩)] w (OpPost ρ w nb { s with fed := rest } (.int .u64 x)) := by
  obtain ⟨pv, fv, l, hA⟩ := hN
  have hfed := hA.fed
  have hlen : s.fed.length = rest.length + 1 := by rw [hf]; rfl
  obtain ⟨g, off, cap, rfl, hc1, hc2, hg, hcell, _⟩ := hfed.at_ (by omega)
  have c3 : w.cell? ⟨nb, 3, none⟩ = some (.slice (some ⟨g, off, none⟩) s.fed.length cap) := hA.blk.cell 3
  have z3 : ∀ i, w.frozen? ⟨nb, i, none⟩ = false := hA.blk.free
  have hnb := hA.blk.lt
  have cx : w.cell? ⟨g, off, none⟩ = some (.int .u64 x) := by
    have := hcell 0 (by simp; omega)
    simpa [hf] using this
  have hcf := hA.cf
  rw [hlen] at hfed c3 hc1 hcf
  have hmap : (s.fed.map (Value.int .u64 ·)).drop 1 = rest.map (.int .u64 ·) := by rw [hf]; rfl
  have hr : s.fed.length ≤ 1000000 := hl
  rw [hlen] at hr
  unfold maxLen at hc2
  have HF := Lib.hid hf
  have HL := Lib.hid hlen
  have HM := Lib.hid hmap
  clear hf hlen hcell hmap hl
  have b0 : (1 : Int) ≤ (rest.length : Int) + 1 := by omega
  have b1 : 1 ≤ rest.length + 1 := by omega
  have b2 : ¬ (rest.length + 1 = 0) := by omega
  by_cases hcap : cap = 1
  · subst hcap
    have hr0 : rest.length = 0 := by omega
    obtain rfl : rest = [] := List.eq_nil_of_length_eq_zero hr0
    have hp := hA.poke 3 (.slice (some ⟨g, off, none⟩) 0 0)
    have hb := hA.blk.set 3 (.slice (some ⟨g, off, none⟩) 0 0)
    go_enter Try.func35, Try.ntmps35
    go_wp2
    go_ret
    refine ⟨rfl, ρ, ⟨pv, _, l, hb, hA.ps, hp.1, ?_, hp.2.2.1, hA.cn, hA.cp, fun b hb => hcf b hb, hA.cb⟩, Ext.refl _ _, hF.mono (by simp [World.setCell]), hp.2.2.2⟩
    exact (Sl.none_of hfed).setCell (fun e => hA.ne_f (by rw [HL.out]; exact e)) _
  · have hp := hA.poke 3 (.slice (some ⟨g, off + 1, none⟩) rest.length (cap - 1))
    have hb := hA.blk.set 3 (.slice (some ⟨g, off + 1, none⟩) rest.length (cap - 1))
    go_enter Try.func35, Try.ntmps35
    go_wp2
    go_ret
    refine ⟨rfl, ρ, ⟨pv, _, l, hb, hA.ps, hp.1, ?_, hp.2.2.1, hA.cn, hA.cp, fun b hb => hcf b hb, hA.cb⟩, Ext.refl _ _, hF.mono (by simp [World.setCell]), hp.2.2.2⟩
    have := Sl.rest hfed (by omega)
    rw [HM.out] at this
    simpa using this.setCell (p := ⟨nb, 3, none⟩) (fun e => hA.ne_f (by rw [HL.out]; exact e)) _
end Go.Proofs.Ytpbadpkleiogoaa
