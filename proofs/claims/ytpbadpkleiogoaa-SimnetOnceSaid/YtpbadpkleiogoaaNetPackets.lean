/-
  The walk of a network's Packets.
-/
import Derived.Test.YtpbadpkleiogoaaNetOps
namespace Go.Proofs.Ytpbadpkleiogoaa
open Go.RowKit
attribute [local go_sem ↓] Go.wp_at_zero Go.wp_at_succ

/-- what is told of a packet -/
def ppc (p : Pk) : List Value := [.int .i64 p.id, .int .i64 p.fr, .int .i64 p.dst, .int .i64 p.b.length]
theorem ppc_len (x : Pk) : (ppc x).length = 4 := rfl

theorem Net.info_packet : (Try.prog.info? 84).map (fun i => (i.zero, i.size, i.bytes)) = some (some (.agg #[.int .i64 0, .int .i64 0, .int .i64 0, .int .i64 0]), 4, 32) := by kernel_rfl

theorem pone (a b c : Int) (d : Nat) : ∀ u ∈ [Value.int .i64 a, .int .i64 b, .int .i64 c, .int .i64 d], u.oneCell' = true := by
  intro u hu
  simp at hu
  rcases hu with rfl | rfl | rfl | rfl <;> rfl

def PkRel (w : World) (ps : List Pk) (k : Nat) (v : Value) (wr : World) : Prop :=
  Sl wr 84 4 v k ((ps.take k).flatMap ppc) ∧ (∀ b, v.ownBlock = some b → w.heap.size ≤ b) ∧ Mod (fun _ => False) w wr

theorem take_succ_flat {α : Type} (f : α → List Value) (l : List α) (k : Nat) (h : k < l.length) : (l.take (k + 1)).flatMap f = (l.take k).flatMap f ++ f l[k] := by
  rw [List.take_succ_eq_append_getElem h, List.flatMap_append]
  simp

set_option maxRecDepth 100000 in
set_option maxHeartbeats 2000000 in
theorem packets_any (ρ : Col) (w : World) (nb : Nat) (s : NSt) (hN : Net ρ w nb s) (hl : s.ps.length ≤ 1000000) (hb : ∀ p ∈ s.ps, p.b.length ≤ 140737488355328) :
    Calls Try.prog 29 #[.pointer (some ⟨nb, 0, none⟩)] w (FreshSl w 84 4 s.ps.length (s.ps.flatMap ppc)) := by
  obtain ⟨pv, fv, l, hA⟩ := hN
  have hll : l.length = s.ps.length := by rw [← hA.ps]; simp
  obtain ⟨i0, hi0, hz0, hz1, hz2⟩ := info_parts Net.info_packet
  obtain ⟨A, c, rfl⟩ := hA.pks.shape'
  have c0 : w.cell? ⟨nb, 0, none⟩ = some (.slice A l.length c) := hA.blk.cell 0
  have hpk := hA.pks
  have hps := hA.ps
  have hbs := hA.bs
  generalize hn : s.ps.length = n at *
  generalize hL : s.ps = L at *
  rw [hll] at c0 hpk
  have HLL := Lib.hid hll
  have HB := Lib.hid hb
  have HPS := Lib.hid hps
  have HN : Hid (L.length = n) := Lib.hid hn
  have HBS := Lib.hid hbs
  clear hll hn hL hb hps hbs hA
  go_enter Try.func29, Try.ntmps29
  go_wp2
  go_loopw [3, 5, 11] (fun v _ i wr => ∃ k : Nat, k ≤ n ∧ i = .int .i64 k ∧ PkRel w L k v wr) (fun _ _ i _ => n - (intOf i).toNat)
  case atStart => exact ⟨0, by omega, rfl, Sl.nil _ _ _, (fun b hb => by cases hb), Mod.refl _ _⟩
  case round =>
    obtain ⟨k, hk, rfl, hS, hfr, hM⟩ := hrel
    by_cases hkn : k < n
    · obtain ⟨g, off, cap, hv, _, hcm, hg, hc, _⟩ := hpk.elem pkc_len HLL.out (by omega) hkn
      obtain ⟨rfl, rfl⟩ : A = some ⟨g, off, none⟩ ∧ c = cap := by simpa using hv
      clear hv
      have hkl : k < l.length := by rw [HLL.out]; exact hkn
      have hkL : k < L.length := by rw [HN.out]; exact hkn
      have hxe : L[k] = (l[k]).1 := by
        have := HPS.out
        simp [← this]
      have hx2 := HBS.out l[k] (List.getElem_mem _)
      have hbl : (l[k]).1.b.length ≤ 140737488355328 := HB.out _ (by rw [← hxe]; exact List.getElem_mem _)
      have hcat := take_succ_flat ppc L k hkL
      rw [hxe] at hcat
      generalize hlk : l[k] = x at *
      obtain ⟨⟨xid, xfr, xdst, xb⟩, xv⟩ := x
      obtain ⟨xA, xc, hxv, hxm, hxx⟩ := hx2.shape
      simp only at hxv hbl
      subst hxv
      have HC := Lib.hid hcat
      clear hlk hcat hx2 hxe
      have c1 := hM.cell (hc 0 (by omega)) (fun h => h)
      have c2 := hM.cell (hc 1 (by omega)) (fun h => h)
      have c3 := hM.cell (hc 2 (by omega)) (fun h => h)
      have c4 := hM.cell (hc 3 (by omega)) (fun h => h)
      clear hc
      simp only [Nat.add_zero] at c1
      obtain ⟨vA, vc, hve, hvc1, hvc2⟩ := hS.shape
      subst hve
      have hkn2 : (k : Int) < (n : Int) := by omega
      have hM2 := (hM.alloc (.cells #[.int .i64 xid, .int .i64 xfr, .int .i64 xdst, .slice xA xb.length xc] 90)).alloc (.cells [Value.int .i64 xid, .int .i64 xfr, .int .i64 xdst, .int .i64 xb.length].toArray 84)
      go_wp2_with (at_builtin; go_loud (refine wpList_append_sl rfl (.tmp 15) (.tmp 26) 53 53 rfl 84 i0 _ 4 32 Try.underlying53 hi0 hz0 hz1 hz2 rfl _ _ _ rfl ((hS.alloc _).alloc _) _ 1 [.int .i64 xid, .int .i64 xfr, .int .i64 xdst, .int .i64 xb.length] rfl (Src.newH (wr.alloc (.cells #[.int .i64 xid, .int .i64 xfr, .int .i64 xdst, .slice xA xb.length xc] 90)) _ _ _ _ Try.underlying53 _ _ _ (wr.heap.size + 1) (by simp) rfl (pone xid xfr xdst xb.length)) ?c1 ?c2 ?_))
      case c1 => unfold maxLen; omega
      case c2 => omega
      rintro v2 w2 ⟨hs2, hm2, ho2, hz2', _⟩
      go_wp2
      go_roundw
      case rel =>
        refine ⟨k + 1, by omega, by go_num, ?_, ?_, hM2.trans hm2 (fun b hb e => by have := hfr b e; omega)⟩
        · rw [HC.out]
          exact hs2
        · intro b hb
          have h1 := hM2.size
          rcases ho2 with ho2 | ho2
          · exact hfr b (ho2 ▸ hb)
          · rw [ho2] at hb
            have : (wr.alloc (.cells #[.int .i64 xid, .int .i64 xfr, .int .i64 xdst, .slice xA xb.length xc] 90) |>.alloc (.cells [Value.int .i64 xid, .int .i64 xfr, .int .i64 xdst, .int .i64 xb.length].toArray 84)).heap.size = b := by simpa using hb
            omega
      case measure => simp [intOf]; omega
    · obtain rfl : k = n := by omega
      go_wp2
      go_ret
      refine ⟨_, rfl, ?_, hM, hfr⟩
      have := hS
      rw [List.take_of_length_le (by rw [HN.out]; omega)] at this
      exact this
end Go.Proofs.Ytpbadpkleiogoaa
