/-
  The laws of chapter 6 that need no document's network: SimnetKnown, SimnetFed, SimnetClock: the walks.
-/
import Derived.Test.YtpbadpkleiogoaaNetTake
import Derived.Test.YtpbadpkleiogoaaNetPackets
import Derived.Test.YtpbadpkleiogoaaRow
import Derived.Lib.SlBytesConst
namespace Go.Proofs.Ytpbadpkleiogoaa
open Go.RowKit
attribute [local go_sem ↓] Go.wp_at_zero Go.wp_at_succ

/-- What a law keeps: of what was there when it began nothing has turned, and nothing of it has a colour. -/
structure Ch (w : World) (ρ : Col) (wr : World) : Prop where
  m : Mod (fun _ => False) w wr
  c : ∀ b, b < w.heap.size → ρ b = none
  f : Fit ρ wr
theorem Ch.start (w : World) : Ch w (fun _ => none) w := ⟨Mod.refl _ _, fun _ _ => rfl, fun _ _ => rfl⟩
theorem Ch.step {w wr wr' : World} {ρ ρ' : Col} {o : Nat} (h : Ch w ρ wr) (e : Ext wr ρ ρ') (k : OwnMod ρ o wr wr') (f : Fit ρ' wr') : Ch w ρ' wr' :=
  ⟨h.m.trans k (fun b hb ⟨r, hr⟩ => by rw [h.c b hb] at hr; cases hr), fun b hb => (e b (Nat.lt_of_lt_of_le hb h.m.size)).trans (h.c b hb), f⟩
theorem Ch.fresh {w wr wr' : World} {ρ : Col} (h : Ch w ρ wr) (k : Mod (fun _ => False) wr wr') : Ch w ρ wr' := ⟨h.m.trans k (fun _ _ x => x), h.c, h.f.mono k.size⟩
theorem Ch.newNet {w wr wr' : World} {ρ ρ' : Col} (h : Ch w ρ wr) (e : Ext wr ρ ρ') (k : Mod (fun _ => False) wr wr') (f : Fit ρ' wr') : Ch w ρ' wr' :=
  ⟨h.m.trans k (fun _ _ x => x), fun b hb => (e b (Nat.lt_of_lt_of_le hb h.m.size)).trans (h.c b hb), f⟩

theorem abc_one : ∀ u ∈ [Value.int .u8 97, .int .u8 98, .int .u8 99], u.oneCell' = true := by
  intro u hu
  simp at hu
  rcases hu with rfl | rfl | rfl <;> rfl
theorem zmix0 : zMix (zNext 0) = 16294208416658607535 := by decide +kernel

theorem GNet.keep {tn tw : TypeId} {ρ : Col} {w w' : World} {nb : Nat} {s : NSt} (h : GNet tn tw ρ w nb s) (m : Mod (fun _ => False) w w') : GNet tn tw ρ w' nb s := by
  obtain ⟨pv, fv, l, hA⟩ := h
  exact ⟨pv, fv, l, hA.frame m (Ext.refl _ _) (fun _ _ _ h => h) (fun _ _ h => h)⟩
theorem GNet.lt {tn tw : TypeId} {ρ : Col} {w : World} {nb : Nat} {s : NSt} (h : GNet tn tw ρ w nb s) : nb < w.heap.size := by
  obtain ⟨pv, fv, l, hA⟩ := h
  exact hA.blk.lt
/-- a new block of cells, whatever its mark, as what is appended -/
theorem Src.mark {P : Program} (w : World) (cs : List Value) (T tx ex : TypeId) (fz : Nat × Nat) (ht : P.underlying tx = some (.slice ex)) (size m c : Nat) (hl : cs.length = m * size) (h1 : ∀ u ∈ cs, u.oneCell' = true) :
    Src P (w.alloc (.cells cs.toArray T fz)) size tx (.slice (some ⟨w.heap.size, 0, none⟩) m c) m cs := by
  refine ⟨hl, h1, .inr (.inl ⟨ex, _, c, ht, rfl, fun j u hu => ?_⟩)⟩
  rw [Addr.add_lit, Nat.zero_add, World.cell?, heap_alloc_new w _]
  simpa using hu

def abc : List UInt8 := [97, 98, 99]
def n1 : NSt := ⟨[⟨1, 0, 1, abc⟩], 1, 0, [], 0⟩
def n2 : NSt := ⟨[⟨1, 0, 1, abc⟩, ⟨2, 0, 1, abc⟩], 2, 0, [], 0⟩
def n3 : NSt := ⟨[⟨2, 0, 1, abc⟩], 2, 0, [], 0⟩
def n4 : NSt := ⟨[⟨2, 0, 1, abc⟩], 2, 5, [], 0⟩
def n5 : NSt := ⟨[⟨2, 0, 1, abc⟩], 2, 5, [], zNext 0⟩
def n6 : NSt := ⟨[⟨2, 0, 1, abc⟩], 2, 5, [7], zNext 0⟩
def n7 : NSt := ⟨[⟨2, 0, 1, abc⟩], 2, 5, [], zNext 0⟩

set_option maxRecDepth 100000 in
set_option maxHeartbeats 4000000 in
theorem nawake_any (w : World) : Calls Try.prog 22 #[] w (TrueMod w) := by
  have C0 := Ch.start w
  have kc := fun (w : World) (C : Array Value) (n c : Nat) => Lib.run_convert_bytes_const (P := Try.prog) w 45 5 C n c Try.underlying45 Try.underlying5
  go_enter Try.func22, Try.ntmps22
  go_wp2_with fail
  refine (new_any _ w C0.f).mono ?_
  rintro e w1 ⟨rfl, ρ1, hN1, hE1, hF1, hM1⟩
  have C1 := C0.newNet hE1 hM1 hF1
  generalize w.heap.size = nb at hN1
  go_wp2_with fail
  have hMa := (Mod.refl (fun _ => False) w1).alloc (.cells [Value.int .u8 97, .int .u8 98, .int .u8 99].toArray 5 (3, 4))
  refine (send_any ρ1 _ nb zero (hN1.keep hMa) (C1.f.mono hMa.size) (by decide) (by decide) (by decide) 0 1 _ 3 abc (by omega) ⟨_, _, rfl⟩ (Src.mark w1 _ 5 _ _ (3, 4) Try.underlying45 1 3 3 rfl abc_one)
    (fun e => by have := hN1.lt; simp [Value.ownBlock] at e; omega)).mono ?_
  rintro e w2 ⟨rfl, ρ2, hN2', hE2, hF2, hM2⟩
  have hN2 : Net ρ2 w2 nb n1 := hN2'
  have C2 := (C1.fresh hMa).step hE2 hM2 hF2
  clear hN2' hN1 hMa
  go_wp2_with fail
  refine (double_any ρ2 w2 nb n1 hN2 C2.f 1 (by decide) (by decide) (by decide) (by decide)).mono ?_
  rintro e w3 h3
  rcases h3 with ⟨hx, _⟩ | ⟨hx, rfl, ρ3, hN3', hE3, hF3, hM3⟩
  · exact absurd hx (by decide)
  have hN3 : Net ρ3 w3 nb n2 := hN3'
  have C3 := C2.step hE3 hM3 hF3
  clear hN3' hx
  go_wp2_with fail
  refine (deliver_any ρ3 w3 nb n2 hN3 C3.f 1 2 (by decide)).mono ?_
  rintro e w4 h4
  rcases h4 with ⟨hx, _⟩ | ⟨hx, bv, rfl, ⟨m, bs, hS4, hbs⟩, hV4, hN4', hF4, hM4⟩
  · exact absurd hx (by decide)
  have hN4 : Net ρ3 w4 nb n3 := hN4'
  have C4 := C3.step (Ext.refl _ _) hM4 hF4
  have hbs2 : bs = [97, 98] := hbs
  subst hbs2
  have v3 : (n2.ps[pixOf 1 n2.ps]'hx).fr = 0 := rfl
  have v4 : (n2.ps[pixOf 1 n2.ps]'hx).dst = 1 := rfl
  rw [v3, v4]
  clear hN4' hbs v3 v4
  obtain ⟨bA, bc, rfl⟩ := hS4.shape'
  go_wp2_with fail
  refine (packets_any ρ3 w4 nb n3 hN4 (by decide) (by decide)).mono ?_
  rintro e w5 ⟨pkv, rfl, hS5, hM5, hV5⟩
  have hN5 := hN4.keep hM5
  have C5 := C4.fresh hM5
  have hB5 := hS4.mod hM5 (fun _ _ h => h)
  go_wp2_with fail
  refine (tick_any ρ3 w5 nb n3 hN5 C5.f 5 (by decide) (by decide)).mono ?_
  rintro e w6 ⟨rfl, ρ6, hN6', hE6, hF6, hM6⟩
  have hN6 : Net ρ6 w6 nb n4 := hN6'
  have C6 := C5.step hE6 hM6 hF6
  have hS6 := hS5.mod hM6 (fun b hb ⟨r, hr⟩ => by rw [hF4 b (hV5 b hb)] at hr; cases hr)
  have hB6 := hB5.mod hM6 (fun b hb ⟨r, hr⟩ => by rw [hV4 b hb] at hr; cases hr)
  have hV6 : Vc ρ6 (.slice bA m bc) none := hV4.ext hB5 hE6
  clear hN6'
  go_wp2_with fail
  refine (rand_seed ρ6 w6 nb n4 hN6 C6.f rfl (by decide) (by decide)).mono ?_
  rintro e w7 ⟨rfl, ρ7, hN7', hE7, hF7, hM7⟩
  have hN7 : Net ρ7 w7 nb n5 := hN7'
  have C7 := C6.step hE7 hM7 hF7
  have hp6 : Vc ρ6 pkv none := fun b hb => by
    by_cases hlt : b < w5.heap.size
    · rw [hE6 b hlt]
      exact hF4 b (hV5 b hb)
    · exact hF6 b (by have := hS5.lt hb; omega)
  have hS7 := hS6.mod hM7 (fun b hb ⟨r, hr⟩ => by rw [hp6 b hb] at hr; cases hr)
  have hB7 := hB6.mod hM7 (fun b hb ⟨r, hr⟩ => by rw [hV6 b hb] at hr; cases hr)
  have hV7 : Vc ρ7 (.slice bA m bc) none := hV6.ext hB6 hE7
  have hp7 : Vc ρ7 pkv none := hp6.ext hS6 hE7
  clear hN7'
  go_wp2_with fail
  refine (feed_any ρ7 w7 nb n5 hN7 C7.f 7 (by decide)).mono ?_
  rintro e w8 ⟨rfl, ρ8, hN8', hE8, hF8, hM8⟩
  have hN8 : Net ρ8 w8 nb n6 := hN8'
  have C8 := C7.step hE8 hM8 hF8
  have hS8 := hS7.mod hM8 (fun b hb ⟨r, hr⟩ => by rw [hp7 b hb] at hr; cases hr)
  have hB8 := hB7.mod hM8 (fun b hb ⟨r, hr⟩ => by rw [hV7 b hb] at hr; cases hr)
  clear hN8' hS7 hS6 hS5 hB7 hB6 hB5 hS4 hN7 hN6 hN5 hN4 hN3 hN2 hM8 hM7 hM6 hM5 hM4 hM3 hM2 hM1 hE8 hE7 hE6 hE3 hE2 hE1 C7 C6 C5 C4 C3 C2 C1
  have v1 : zero.sent + 1 = 1 := rfl
  have v2 : n1.sent + 1 = 2 := rfl
  have v5 : tickErr n3.now 5 = 0 := rfl
  have v6 : zMix (zNext n4.z) = 16294208416658607535 := zmix0
  have q1 := run_string_of Try.underlying45 Try.underlying5 Try.underlying9 hB8
  obtain ⟨pg, po, pc, rfl, _, _, hpg, hpc, _⟩ := hS8.at_ (by decide)
  have p0 := hpc 0 (by decide)
  have p1 := hpc 1 (by decide)
  have p2 := hpc 2 (by decide)
  have p3 := hpc 3 (by decide)
  have v7 : n3.ps.length = 1 := rfl
  simp only [Nat.add_zero] at p0
  have r0 : (n3.ps.flatMap ppc)[0]? = some (Value.int .i64 2) := rfl
  have r1 : (n3.ps.flatMap ppc)[1]? = some (Value.int .i64 0) := rfl
  have r2 : (n3.ps.flatMap ppc)[2]? = some (Value.int .i64 1) := rfl
  have r3 : (n3.ps.flatMap ppc)[3]? = some (Value.int .i64 3) := rfl
  rw [r0] at p0
  rw [r1] at p1
  rw [r2] at p2
  rw [r3] at p3
  rw [v1, v2, v5, v6, v7]
  clear hpc r0 r1 r2 r3 v1 v2 v5 v6 v7 hS8 hB8
  go_wp2_with fail
  refine (now_any ρ8 w8 nb n6 hN8).mono ?_
  rintro e _ ⟨rfl, rfl⟩
  have v8 : n6.now = 5 := rfl
  rw [v8]
  clear v8
  go_wp2_with fail
  refine (rand_fed ρ8 w8 nb n6 hN8 C8.f 7 [] rfl (by decide)).mono ?_
  rintro e w9 ⟨rfl, ρ9, hN9', hE9, hF9, hM9⟩
  have hN9 : Net ρ9 w9 nb n7 := hN9'
  have C9 := C8.step hE9 hM9 hF9
  clear hN9' q1 p0 p1 p2 p3
  go_wp2_with fail
  refine (sent_any ρ9 w9 nb n7 hN9).mono ?_
  rintro e _ ⟨rfl, rfl⟩
  have v9 : n7.sent = 2 := rfl
  rw [v9]
  clear v9
  go_wp2_with fail
  refine (drop_any ρ9 w9 nb n7 hN9 C9.f 2 (by decide)).mono ?_
  rintro e w10 h10
  rcases h10 with ⟨hx, _⟩ | ⟨_, rfl, _, hF10, hM10⟩
  · exact absurd hx (by decide)
  have C10 := C9.step (Ext.refl _ _) hM10 hF10
  go_wp2
  go_ret
  exact ⟨rfl, C10.m⟩

def late : NSt := ⟨[], 0, 1152921504606846976, [], 0⟩

set_option maxRecDepth 100000 in
set_option maxHeartbeats 4000000 in
theorem nknown_any (w : World) : Calls Try.prog 8 #[] w (TrueMod w) := by
  go_enter Try.func8, Try.ntmps8
  go_wp2_with fail
  refine (nawake_any w).mono ?_
  rintro e w0 ⟨rfl, hM0⟩
  have C0 := (Ch.start w).fresh hM0
  go_wp2_with fail
  refine (new_any _ w0 C0.f).mono ?_
  rintro e w1 ⟨rfl, ρ1, hN1, hE1, hF1, hM1⟩
  have C1 := C0.newNet hE1 hM1 hF1
  generalize w0.heap.size = nb at hN1
  go_wp2_with fail
  refine (deliver_any ρ1 w1 nb zero hN1 C1.f 1 0 (by decide)).mono ?_
  rintro e w2 h2
  rcases h2 with ⟨_, rfl, hM2⟩ | ⟨hx, _⟩
  rotate_left
  · exact absurd hx (by decide)
  have hN2 := hN1.keep hM2
  have C2 := C1.fresh hM2
  go_wp2_with fail
  refine (double_any ρ1 w2 nb zero hN2 C2.f 0 (by decide) (by decide) (by decide) (by decide)).mono ?_
  rintro e w3 h3
  rcases h3 with ⟨_, rfl, hM3⟩ | ⟨hx, _⟩
  rotate_left
  · exact absurd hx (by decide)
  have hN3 := hN2.keep hM3
  have C3 := C2.fresh hM3
  go_wp2_with fail
  refine (drop_any ρ1 w3 nb zero hN3 C3.f 1 (by decide)).mono ?_
  rintro e w4 h4
  rcases h4 with ⟨_, rfl, hM4⟩ | ⟨hx, _⟩
  rotate_left
  · exact absurd hx (by decide)
  have hN4 := hN3.keep hM4
  have C4 := C3.fresh hM4
  go_wp2_with fail
  refine (tick_any ρ1 w4 nb zero hN4 C4.f (-1) (by decide) (by decide)).mono ?_
  rintro e w5 ⟨rfl, ρ5, hN5', hE5, hF5, hM5⟩
  have hN5 : Net ρ5 w5 nb zero := hN5'
  have C5 := C4.step hE5 hM5 hF5
  have v5 : tickErr zero.now (-1) = 1 := by decide
  rw [v5]
  clear hN5' v5
  go_wp2_with fail
  refine (tick_any ρ5 w5 nb zero hN5 C5.f 1152921504606846977 (by decide) (by decide)).mono ?_
  rintro e w6 ⟨rfl, ρ6, hN6', hE6, hF6, hM6⟩
  have hN6 : Net ρ6 w6 nb zero := hN6'
  have C6 := C5.step hE6 hM6 hF6
  have v6 : tickErr zero.now 1152921504606846977 = 1 := by decide
  rw [v6]
  clear hN6' v6
  go_wp2_with fail
  refine (tick_any ρ6 w6 nb zero hN6 C6.f 1152921504606846976 (by decide) (by decide)).mono ?_
  rintro e w7 ⟨rfl, ρ7, hN7', hE7, hF7, hM7⟩
  have hN7 : Net ρ7 w7 nb late := hN7'
  have C7 := C6.step hE7 hM7 hF7
  have v7 : tickErr zero.now 1152921504606846976 = 0 := by decide
  rw [v7]
  clear hN7' v7
  go_wp2_with fail
  refine (tick_any ρ7 w7 nb late hN7 C7.f 1 (by decide) (by decide)).mono ?_
  rintro e w8 ⟨rfl, ρ8, hN8', hE8, hF8, hM8⟩
  have hN8 : Net ρ8 w8 nb late := hN8'
  have C8 := C7.step hE8 hM8 hF8
  have v8 : tickErr late.now 1 = 1 := by decide
  rw [v8]
  clear hN8' v8
  go_wp2_with fail
  refine (now_any ρ8 w8 nb late hN8).mono ?_
  rintro e _ ⟨rfl, rfl⟩
  have v9 : late.now = 1152921504606846976 := rfl
  rw [v9]
  clear v9
  go_wp2_with fail
  refine (packets_any ρ8 w8 nb late hN8 (by decide) (by decide)).mono ?_
  rintro e w9 ⟨pkv, rfl, hS9, hM9, _⟩
  have v10 : late.ps.length = 0 := rfl
  obtain ⟨A, c, hp, _⟩ := hS9.shape
  rw [v10] at hp
  subst hp
  go_wp2
  go_ret
  exact ⟨rfl, (C8.fresh hM9).m⟩
end Go.Proofs.Ytpbadpkleiogoaa
