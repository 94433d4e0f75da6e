/-
  The walk of RetryPlays.
-/
import Derived.Test.YtpbadpkleiogoaaRetryLaw
namespace Go.Proofs.Ytpbadpkleiogoaa
open Go.RowKit

structure RAct where
  op : Int
  now : Int
  r : Int

/-- the acts in memory: a slice value's address, and what it reads as -/
def ActsAt (w : World) (A : Option Addr) (l : List RAct) : Prop :=
  ∀ k (h : k < l.length), ∃ b off, A = some ⟨b, off, none⟩ ∧ b < w.heap.size ∧ w.cell? ⟨b, off + k * 3, none⟩ = some (.int .i64 l[k].op) ∧ w.cell? ⟨b, off + k * 3 + 1, none⟩ = some (.int .i64 l[k].now) ∧
    w.cell? ⟨b, off + k * 3 + 2, none⟩ = some (.int .u64 l[k].r) ∧ (-9223372036854775808 ≤ l[k].now ∧ l[k].now ≤ 9223372036854775807) ∧ (0 ≤ l[k].r ∧ l[k].r < 18446744073709551616)

def PlaysRel (w : World) (t : Nat) (b m : Int) (k : Nat) (n rd : Int) (wr : World) : Prop :=
  0 ≤ n ∧ n ≤ k ∧ Tm wr t b m n rd ∧ Mod (fun _ => False) w wr

set_option maxRecDepth 100000 in
set_option maxHeartbeats 2000000 in
theorem plays_any (b m ask : Int) (A : Option Addr) (len cap : Nat) (l : List RAct) (hl : l.length = len) (hlen : len ≤ 100) (w : World) (hA : ActsAt w A l) (hg : goodB b m = true) :
    Calls Try.prog 5 #[.int .i64 b, .int .i64 m, .slice A len cap, .int .i64 ask] w (TrueMod w) := by
  have HL := Lib.hid hl
  have HA := Lib.hid hA
  clear hl hA
  have hlen' : (len : Int) ≤ 100 := by omega
  have hlen2 : decide (100 < (len : Int)) = false := by simp; omega
  have hlen3 : decide (100 < len) = false := by simp; omega
  go_enter Try.func5, Try.ntmps5
  go_wp2_with fail
  refine (awake_any w).mono ?_
  rintro e w1 ⟨rfl, hM⟩
  go_wp2_with fail
  refine (new_ok b m w1 hg).mono ?_
  rintro e w2 ⟨rfl, hT, hM2⟩
  generalize hst : w1.heap.size = t at hT
  have HST := Lib.hid hst
  clear hst
  have hM3 : Mod (fun _ => False) w w2 := hM.trans hM2 (fun _ _ x => x)
  go_wp2_with fail
  refine (rdelays_any b m w2).mono ?_
  rintro e _ ⟨rfl, rfl⟩
  rw [hg]
  go_wp2
  go_loopw [11, 12, 13] (fun rd n i wr => ∃ (k : Nat) (nn rr : Int), k ≤ len ∧ i = .int .i64 k ∧ n = .int .i64 nn ∧ rd = .int .i64 rr ∧ PlaysRel w t b m k nn rr wr) (fun _ _ i _ => len - (intOf i).toNat)
  case atStart => exact ⟨0, 0, _, by omega, rfl, rfl, rfl, by omega, by omega, hT, hM3⟩
  case round =>
    obtain ⟨k, nn, rr, hk, rfl, rfl, rfl, hn0, hnk, hTk, hMk⟩ := hrel
    by_cases hlt : k < len
    · obtain ⟨bb, off, rfl, hbb, c0, c1, c2, hnow, hrr⟩ := HA.out k (by rw [HL.out]; exact hlt)
      generalize l[k]'(by rw [HL.out]; exact hlt) = act at c0 c1 c2 hnow hrr
      have hB := hMk.below (B := w.heap.size) (fun _ _ x => x.elim) (by omega)
      have d0 := (hB.cell (p := ⟨bb, off + k * 3, none⟩) hbb).trans c0
      have d1 := (hB.cell (p := ⟨bb, off + k * 3 + 1, none⟩) hbb).trans c1
      have d2 := (hB.cell (p := ⟨bb, off + k * 3 + 2, none⟩) hbb).trans c2
      clear c0 c1 c2
      obtain ⟨op, now, r⟩ := act
      simp only at d0 d1 d2 hnow hrr
      have htw : t < wr.heap.size := hTk.lt
      have hTa : Tm (wr.alloc (.cells #[.int .i64 op, .int .i64 now, .int .u64 r] 35)) t b m nn rr := Blk.alloc hTk _
      have hXa := Blk.new wr #[.int .i64 op, .int .i64 now, .int .u64 r] 35
      have hMa := hMk.alloc (.cells #[.int .i64 op, .int .i64 now, .int .u64 r] 35)
      have hR := Lib.hid hrr.2
      have hr0 := hrr.1
      have hN := hnow.1
      clear hrr hnow
      have HT := HST.out
      have hwt : w.heap.size ≤ t := by have := hM.size; omega
      clear HT
      go_wp2_with fail
      · refine (rdelay_ok b m (nn + 1) r _ hg (by omega) (by omega) hr0 hR.out).mono ?_
        rintro e _ ⟨rfl, rfl⟩
        have hd := dly_bd (b := b) (m := m) (nn + 1) r hg
        by_cases c : now < 4611686018427387904 - dly b m (nn + 1) r
        · have c' : now + dly b m (nn + 1) r < 4611686018427387904 := by omega
          have e1 : Hid (nextR b m (nn + 1) now r = now + dly b m (nn + 1) r) := Lib.hid (by unfold nextR; rw [if_pos c])
          go_wp2_with fail
          refine (fail_any t b m nn rr now r _ hg (by omega) (by omega) hr0 hR.out hN hTa).mono ?_
          rintro e wf ⟨rfl, hTf, hMf⟩
          rw [e1.out] at hTf ⊢
          have q1 := (hXa.mod hMf (by omega)).cell 1
          have hM4 := hMa.none hMf hwt
          simp at q1
          go_wp2
          go_quiet ((first | (go_at_call 20; exact quiet_left (fails_any t b m _ _ _ hTf)) | (go_at_call 21; exact quiet_left (ready_any t b m _ _ _ _ hTf))))
          go_wp2
          go_roundw
          case rel => exact ⟨k + 1, (nn + 1), _, by omega, by go_num, rfl, rfl, by omega, by omega, hTf, hM4.drewN _⟩
          case measure => simp [intOf]; omega
        · have e1 : Hid (nextR b m (nn + 1) now r = 4611686018427387904) := Lib.hid (by unfold nextR; rw [if_neg c])
          go_wp2_with fail
          refine (fail_any t b m nn rr now r _ hg (by omega) (by omega) hr0 hR.out hN hTa).mono ?_
          rintro e wf ⟨rfl, hTf, hMf⟩
          rw [e1.out] at hTf ⊢
          have q1 := (hXa.mod hMf (by omega)).cell 1
          have hM4 := hMa.none hMf hwt
          simp at q1
          go_wp2
          go_quiet ((first | (go_at_call 20; exact quiet_left (fails_any t b m _ _ _ hTf)) | (go_at_call 21; exact quiet_left (ready_any t b m _ _ _ _ hTf))))
          go_wp2
          go_roundw
          case rel => exact ⟨k + 1, (nn + 1), _, by omega, by go_num, rfl, rfl, by omega, by omega, hTf, hM4.drewN _⟩
          case measure => simp [intOf]; omega
      · refine (well_any t b m nn rr now _ hTa).mono ?_
        rintro e wf ⟨rfl, hTf, hMf⟩
        have q1 := (hXa.mod hMf (by omega)).cell 1
        have hM4 := hMa.none hMf hwt
        simp at q1
        go_wp2
        go_quiet ((first | (go_at_call 20; exact quiet_left (fails_any t b m _ _ _ hTf)) | (go_at_call 21; exact quiet_left (ready_any t b m _ _ _ _ hTf))))
        go_wp2
        go_roundw
        case rel => exact ⟨k + 1, 0, _, by omega, by go_num, rfl, rfl, by omega, by omega, hTf, hM4.drewN _⟩
        case measure => simp [intOf]; omega
      · have q1 := hXa.cell 1
        simp at q1
        go_quiet ((first | (go_at_call 20; exact quiet_left (fails_any t b m _ _ _ hTa)) | (go_at_call 21; exact quiet_left (ready_any t b m _ _ _ _ hTa))))
        go_wp2
        go_roundw
        case rel => exact ⟨k + 1, nn, _, by omega, by go_num, rfl, rfl, by omega, by omega, hTa, hMa.drewN _⟩
        case measure => simp [intOf]; omega
    · obtain rfl : k = len := by omega
      go_wp2
      go_ret
      exact ⟨rfl, hMk⟩

set_option maxHeartbeats 1000000 in
theorem plays_bad (b m ask : Int) (A : Option Addr) (len cap : Nat) (w : World) (hg : goodB b m = false) :
    Calls Try.prog 5 #[.int .i64 b, .int .i64 m, .slice A len cap, .int .i64 ask] w (TrueMod w) := by
  go_enter Try.func5, Try.ntmps5
  go_wp2_with fail
  refine (awake_any w).mono ?_
  rintro e w1 ⟨rfl, hM⟩
  go_wp2_with fail
  refine (new_bad b m w1 hg).mono ?_
  rintro e _ ⟨rfl, rfl⟩
  go_wp2_with fail
  refine (rdelays_any b m w1).mono ?_
  rintro e _ ⟨rfl, rfl⟩
  rw [hg]
  go_wp2
  go_ret
  exact ⟨rfl, hM⟩

set_option maxHeartbeats 1000000 in
theorem plays_long (b m ask : Int) (A : Option Addr) (len cap : Nat) (hlen : 100 < len) (w : World) (hg : goodB b m = true) :
    Calls Try.prog 5 #[.int .i64 b, .int .i64 m, .slice A len cap, .int .i64 ask] w (TrueMod w) := by
  go_enter Try.func5, Try.ntmps5
  go_wp2_with fail
  refine (awake_any w).mono ?_
  rintro e w1 ⟨rfl, hM⟩
  go_wp2_with fail
  refine (new_ok b m w1 hg).mono ?_
  rintro e w2 ⟨rfl, hT, hM2⟩
  have hM3 : Mod (fun _ => False) w w2 := hM.trans hM2 (fun _ _ x => x)
  go_wp2_with fail
  refine (rdelays_any b m w2).mono ?_
  rintro e _ ⟨rfl, rfl⟩
  rw [hg]
  go_wp2
  go_ret
  exact ⟨rfl, hM3⟩

theorem plays_all (b m ask : Int) (A : Option Addr) (len cap : Nat) (l : List RAct) (hl : l.length = len) (w : World) (hA : ActsAt w A l) :
    Calls Try.prog 5 #[.int .i64 b, .int .i64 m, .slice A len cap, .int .i64 ask] w (TrueMod w) := by
  cases hg : goodB b m
  · exact plays_bad b m ask A len cap w hg
  · by_cases h : 100 < len
    · exact plays_long b m ask A len cap h w hg
    · exact plays_any b m ask A len cap l hl (by omega) w hA hg
end Go.Proofs.Ytpbadpkleiogoaa
