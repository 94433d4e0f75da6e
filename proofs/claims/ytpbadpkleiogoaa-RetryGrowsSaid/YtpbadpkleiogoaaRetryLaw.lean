/-
  The laws of chapter 20: the walks of RetryKnown, RetryDelays, RetryPlays, RetryGrows, RetryReady: each returns true, and turns nothing that was there.
-/
import Derived.Test.YtpbadpkleiogoaaRetry
import Derived.Test.YtpbadpkleiogoaaRow
namespace Go.Proofs.Ytpbadpkleiogoaa
open Go.RowKit


theorem good4 : goodB 4 100 = true := by decide
theorem nx1 : nextR 4 100 (0 + 1) 10 0 = 12 := by decide
theorem nx2 : nextR 4 100 (0 + 1 + 1) 12 7 = 18 := by decide
theorem dl2 : dly 4 100 2 7 = 6 := by decide

theorem Mod.none {w w' w'' : World} {t : Nat} (h : Mod (fun _ => False) w w') (k : Mod (· = t) w' w'') (ht : w.heap.size ≤ t) : Mod (fun _ => False) w w'' :=
  h.trans k (fun _ hb e => by subst e; omega)

set_option maxHeartbeats 1000000 in
theorem awake_any (w : World) : Calls Try.prog 13 #[] w (TrueMod w) := by
  go_enter Try.func13, Try.ntmps13
  go_wp2_with fail
  refine (new_ok 4 100 w good4).mono ?_
  rintro e w1 ⟨rfl, hT, hM⟩
  generalize hst : w.heap.size = t at hT
  have hst := Lib.hid hst
  go_wp2_with fail
  refine (ready_any t 4 100 0 _ _ w1 hT).mono ?_
  rintro e _ ⟨rfl, rfl⟩
  go_wp2_with fail
  refine (fail_any t 4 100 0 _ 10 0 w1 good4 (by omega) (by omega) (by omega) (by omega) (by omega) hT).mono ?_
  rintro e w2 ⟨rfl, hT2, hM2⟩
  rw [nx1] at hT2 ⊢
  go_wp2_with fail
  refine (ready_any t 4 100 _ _ _ w2 hT2).mono ?_
  rintro e _ ⟨rfl, rfl⟩
  go_wp2_with fail
  refine (fail_any t 4 100 (0 + 1) _ 12 7 w2 good4 (by omega) (by omega) (by omega) (by omega) (by omega) hT2).mono ?_
  rintro e w3 ⟨rfl, hT3, hM3⟩
  rw [nx2] at hT3 ⊢
  go_wp2_with fail
  refine (fails_any t 4 100 _ _ w3 hT3).mono ?_
  rintro e _ ⟨rfl, rfl⟩
  go_wp2_with fail
  refine (well_any t 4 100 _ _ 18 w3 hT3).mono ?_
  rintro e w4 ⟨rfl, hT4, hM4⟩
  go_wp2_with fail
  refine (delay_ok 4 100 2 7 w4 good4 (by omega) (by omega) (by omega) (by omega)).mono ?_
  rintro e _ ⟨rfl, rfl⟩
  rw [dl2]
  go_wp2_with (first | (go_at_call 20; refine (fails_any t 4 100 _ _ w4 hT4).mono ?_; rintro e _ ⟨rfl, rfl⟩) | (go_at_call 21; refine (ready_any t 4 100 _ _ _ w4 hT4).mono ?_; rintro e _ ⟨rfl, rfl⟩))
  go_ret
  exact ⟨rfl, ((hM.none hM2 (by rw [hst.out]; omega)).none hM3 (by rw [hst.out]; omega)).none hM4 (by rw [hst.out]; omega)⟩

theorem TrueMod.trans {w w1 w2 : World} {e e' : Ending} (h : TrueMod w e w1) (k : TrueMod w1 e' w2) : Mod (fun _ => False) w w2 := h.2.trans k.2 (fun _ _ x => x)

theorem big_dk : dk 1 1099511627776 40 = 1099511627776 := by decide +kernel
theorem dk_far {b m : Int} {k j : Nat} (h : m ≤ dk b m k) (hj : k ≤ j) : dk b m j = dk b m k := by
  have := dk_stop h (j - k)
  rwa [show k + (j - k) = j by omega] at this
theorem big_top (n : Int) (h : 41 ≤ n) : topd 1 1099511627776 n = 1099511627776 := by
  have h := dk_far (b := 1) (m := 1099511627776) (k := 40) (j := (n - 1).toNat) (by rw [big_dk]; omega) (by omega)
  unfold topd
  rw [h, big_dk]
  omega
theorem big_good : goodB 1 1099511627776 = true := by decide
theorem big_dly : ∀ r, 549755813888 ≤ dly 1 1099511627776 1000000 r := fun r => by
  have h2 := mod_bd r (1099511627776 / 2 + 1) (by omega)
  unfold dly
  rw [big_top _ (by omega)]
  omega
theorem bad05 : goodB 0 5 = false := by decide
theorem bad65 : goodB 6 5 = false := by decide

set_option maxHeartbeats 1000000 in
theorem known_any (w : World) : Calls Try.prog 3 #[] w (TrueMod w) := by
  have hx := big_dly 18446744073709551615
  have hy := (dly_bd 1000000 18446744073709551615 big_good).2.2.1
  generalize hz : dly 1 1099511627776 1000000 18446744073709551615 = x at hx hy
  have HZ := Lib.hid hz
  clear hz
  go_enter Try.func3, Try.ntmps3
  go_wp2_with fail
  refine (awake_any w).mono ?_
  rintro e w1 ⟨rfl, hM⟩
  go_wp2_with fail
  refine (new_bad 0 5 w1 bad05).mono ?_
  rintro e _ ⟨rfl, rfl⟩
  go_wp2_with fail
  refine (new_bad 6 5 w1 bad65).mono ?_
  rintro e _ ⟨rfl, rfl⟩
  go_wp2_with fail
  refine (delay_bad 1 5 0 0 w1 (.inr (by omega))).mono ?_
  rintro e _ ⟨rfl, rfl⟩
  go_wp2_with fail
  refine (delay_ok 1 1099511627776 1000000 18446744073709551615 w1 big_good (by omega) (by omega) (by omega) (by omega)).mono ?_
  rintro e _ ⟨rfl, rfl⟩
  rw [HZ.out]
  go_wp2
  go_ret
  exact ⟨rfl, hM⟩

set_option maxHeartbeats 1000000 in
theorem delays_any (b m n r : Int) (hn : n ≤ 9223372036854775807) (hr : 0 ≤ r) (hr' : r < 18446744073709551616) (w : World) :
    Calls Try.prog 4 #[.int .i64 b, .int .i64 m, .int .i64 n, .int .u64 r] w (TrueMod w) := by
  have hN := Lib.hid hn
  have hR := Lib.hid hr'
  clear hn hr'
  cases hg : goodB b m
  · go_enter Try.func4, Try.ntmps4
    go_wp2_with fail
    refine (awake_any w).mono ?_
    rintro e w1 ⟨rfl, hM⟩
    go_wp2_with fail
    refine (delay_bad b m n r w1 (.inl hg)).mono ?_
    rintro e _ ⟨rfl, rfl⟩
    go_wp2_with (go_at_call 16; refine (rdelays_any _ _ _).mono ?_; rintro e _ ⟨rfl, rfl⟩)
    go_ret
    exact ⟨rfl, hM⟩
  · by_cases h1 : n < 1
    · go_enter Try.func4, Try.ntmps4
      go_wp2_with fail
      refine (awake_any w).mono ?_
      rintro e w1 ⟨rfl, hM⟩
      go_wp2_with fail
      refine (delay_bad b m n r w1 (.inr h1)).mono ?_
      rintro e _ ⟨rfl, rfl⟩
      go_wp2_with (go_at_call 16; refine (rdelays_any _ _ _).mono ?_; rintro e _ ⟨rfl, rfl⟩)
      go_ret
      exact ⟨rfl, hM⟩
    · have hd := dly_bd n r hg
      have h1' : decide (n < 1) = false := by simp; omega
      go_enter Try.func4, Try.ntmps4
      go_wp2_with fail
      refine (awake_any w).mono ?_
      rintro e w1 ⟨rfl, hM⟩
      go_wp2_with fail
      refine (delay_ok b m n r w1 hg (by omega) hN.out hr hR.out).mono ?_
      rintro e _ ⟨rfl, rfl⟩
      go_wp2_with (first | (go_at_call 16; refine (rdelays_any _ _ _).mono ?_; rintro e _ ⟨rfl, rfl⟩) | (go_at_call 17; refine (rdelay_ok b m n r w1 hg (by omega) hN.out hr hR.out).mono ?_; rintro e _ ⟨rfl, rfl⟩))
      go_ret
      exact ⟨rfl, hM⟩

theorem dk_mono {b m : Int} (h : 1 ≤ b ∧ b ≤ m ∧ m ≤ 1099511627776) (k : Nat) : dk b m k ≤ dk b m (k + 1) := by
  have := dk_bd h k
  show _ ≤ (if dk b m k < m then dk b m k * 2 else dk b m k)
  split <;> omega
theorem dly_grow {b m n : Int} (q r : Int) (hg : goodB b m = true) (h1 : 1 ≤ n) : dly b m n r ≤ 2 * dly b m (n + 1) q + 1 := by
  have h := goodB_iff.1 hg
  have h1 := topd_bd n h
  have h1' := topd_bd (n + 1) h
  have h2 := mod_bd r (topd b m n / 2 + 1) (by omega)
  have h3 := mod_bd q (topd b m (n + 1) / 2 + 1) (by omega)
  have h4 := dk_mono h (n - 1).toNat
  have h5 : topd b m n ≤ topd b m (n + 1) := by
    unfold topd
    rw [show (n + 1 - 1).toNat = (n - 1).toNat + 1 by omega]
    omega
  unfold dly
  omega

set_option maxHeartbeats 1000000 in
theorem grows_any (b m n r q : Int) (hr : 0 ≤ r) (hr' : r < 18446744073709551616) (hq : 0 ≤ q) (hq' : q < 18446744073709551616) (w : World) :
    Calls Try.prog 6 #[.int .i64 b, .int .i64 m, .int .i64 n, .int .u64 r, .int .u64 q] w (TrueMod w) := by
  have hR := Lib.hid hr'
  have hQ := Lib.hid hq'
  clear hr' hq'
  by_cases h1 : n < 1
  · go_enter Try.func6, Try.ntmps6
    go_wp2_with fail
    refine (awake_any w).mono ?_
    rintro e w1 ⟨rfl, hM⟩
    go_wp2
    go_ret
    exact ⟨rfl, hM⟩
  · by_cases h2 : 100 < n
    · go_enter Try.func6, Try.ntmps6
      go_wp2_with fail
      refine (awake_any w).mono ?_
      rintro e w1 ⟨rfl, hM⟩
      go_wp2
      go_ret
      exact ⟨rfl, hM⟩
    · cases hg : goodB b m
      · go_enter Try.func6, Try.ntmps6
        go_wp2_with fail
        refine (awake_any w).mono ?_
        rintro e w1 ⟨rfl, hM⟩
        go_wp2_with (go_at_call 15; refine (delay_bad b m _ _ w1 (.inl hg)).mono ?_; rintro e _ ⟨rfl, rfl⟩)
        go_ret
        exact ⟨rfl, hM⟩
      · have hd := dly_bd n r hg
        have hd' := dly_bd (n + 1) q hg
        have hd2 := dly_grow q r hg (n := n) (by omega)
        have h3 : n + 1 ≤ 101 := by omega
        go_enter Try.func6, Try.ntmps6
        go_wp2_with fail
        refine (awake_any w).mono ?_
        rintro e w1 ⟨rfl, hM⟩
        go_wp2_with fail
        refine (delay_ok b m n r w1 hg (by omega) (by omega) hr hR.out).mono ?_
        rintro e _ ⟨rfl, rfl⟩
        go_wp2_with fail
        refine (delay_ok b m (n + 1) q w1 hg (by omega) (by omega) hq hQ.out).mono ?_
        rintro e _ ⟨rfl, rfl⟩
        go_wp2
        go_ret
        exact ⟨rfl, hM⟩

/-- the round of RetryReady's loop: after k failures -/
def ReadyRel (w : World) (t : Nat) (b m now r : Int) (k : Nat) (wr : World) : Prop :=
  ∃ rd : Int, Tm wr t b m k rd ∧ (0 < k → rd = now + dly b m k r) ∧ Mod (fun _ => False) w wr

set_option maxHeartbeats 1000000 in
theorem lready_any (b m now r n : Int) (hr : 0 ≤ r) (hr' : r < 18446744073709551616) (w : World) :
    Calls Try.prog 7 #[.int .i64 b, .int .i64 m, .int .i64 now, .int .u64 r, .int .i64 n] w (TrueMod w) := by
  have hR := Lib.hid hr'
  clear hr'
  cases hg : goodB b m
  · go_enter Try.func7, Try.ntmps7
    go_wp2_with fail
    refine (awake_any w).mono ?_
    rintro e w1 ⟨rfl, hM⟩
    go_wp2_with fail
    refine (new_bad b m w1 hg).mono ?_
    rintro e _ ⟨rfl, rfl⟩
    go_wp2
    go_ret
    exact ⟨rfl, hM⟩
  · by_cases hc : 0 ≤ now ∧ now ≤ 1152921504606846976 ∧ 1 ≤ n ∧ n ≤ 60
    · obtain ⟨c1, c2, c3, c4⟩ := hc
      have hb := goodB_iff.1 hg
      have f1 : decide (now < 0) = false := by simp; omega
      have f2 : decide (1152921504606846976 < now) = false := by simp; omega
      have f3 : decide (n < 1) = false := by simp; omega
      have f4 : decide (60 < n) = false := by simp; omega
      go_enter Try.func7, Try.ntmps7
      go_wp2_with fail
      refine (awake_any w).mono ?_
      rintro e w1 ⟨rfl, hM⟩
      go_wp2_with fail
      refine (new_ok b m w1 hg).mono ?_
      rintro e w2 ⟨rfl, hT, hM2⟩
      generalize hst : w1.heap.size = t at hT
      have HST := Lib.hid hst
      clear hst
      have hM3 : Mod (fun _ => False) w w2 := hM.trans hM2 (fun _ _ x => x)
      go_wp2
      go_loopw [13] (fun i wr => ∃ k : Nat, (k : Int) ≤ n ∧ i = .int .i64 k ∧ ReadyRel w t b m now r k wr) (fun i _ => (n - intOf i).toNat)
      case atStart => exact ⟨0, by omega, rfl, _, hT, fun h => absurd h (by omega), hM3⟩
      case round =>
        obtain ⟨k, hk, rfl, rd, hTk, hrd, hMk⟩ := hrel
        by_cases hlt : (k : Int) < n
        · go_wp2_with fail
          refine (fail_any t b m k rd now r _ hg (by omega) (by omega) hr hR.out (by omega) hTk).mono ?_
          rintro e wf ⟨rfl, hTf, hMf⟩
          have hd := dly_bd (b := b) (m := m) (k + 1) r hg
          have e1 : nextR b m ((k : Int) + 1) now r = now + dly b m ((k : Int) + 1) r := by unfold nextR; rw [if_pos (by omega)]
          have E1 := Lib.hid e1
          clear e1
          go_wp2
          go_roundw
          case rel => exact ⟨k + 1, by omega, by go_num, _, hTf, fun _ => E1.out, hMk.none hMf (by have := HST.out; have := hM.size; omega)⟩
          case measure => simp [intOf]; omega
        · obtain rfl : n = k := by omega
          have e1 := Lib.hid (hrd (by omega))
          have hd := dly_bd (b := b) (m := m) k r hg
          clear hrd
          have g1 : Hid (decide (rd ≤ now) = false) := Lib.hid (by rw [e1.out]; simp; omega)
          have g2 : Hid (decide (rd ≤ now + m) = true) := Lib.hid (by rw [e1.out]; simp; omega)
          go_wp2_with fail
          refine (ready_any t b m _ _ _ _ hTk).mono ?_
          rintro e _ ⟨rfl, rfl⟩
          rw [g1.out]
          go_wp2_with fail
          refine (ready_any t b m _ _ _ _ hTk).mono ?_
          rintro e _ ⟨rfl, rfl⟩
          rw [g2.out]
          go_wp2_with fail
          refine (fails_any t b m _ _ _ hTk).mono ?_
          rintro e _ ⟨rfl, rfl⟩
          go_wp2_with fail
          refine (well_any t b m _ _ now _ hTk).mono ?_
          rintro e w5 ⟨rfl, hT5, hM5⟩
          go_wp2_with fail
          refine (ready_any t b m _ _ _ _ hT5).mono ?_
          rintro e _ ⟨rfl, rfl⟩
          go_wp2_with fail
          refine (fails_any t b m _ _ _ hT5).mono ?_
          rintro e _ ⟨rfl, rfl⟩
          go_wp2
          go_ret
          exact ⟨rfl, hMk.none hM5 (by have := HST.out; have := hM.size; omega)⟩
    · go_enter Try.func7, Try.ntmps7
      go_wp2_with fail
      refine (awake_any w).mono ?_
      rintro e w1 ⟨rfl, hM⟩
      go_wp2_with fail
      refine (new_ok b m w1 hg).mono ?_
      rintro e w2 ⟨rfl, hT, hM2⟩
      have hM3 : Mod (fun _ => False) w w2 := hM.trans hM2 (fun _ _ x => x)
      by_cases c1 : now < 0
      · go_wp2
        go_ret
        exact ⟨rfl, hM3⟩
      · by_cases c2 : 1152921504606846976 < now
        · go_wp2
          go_ret
          exact ⟨rfl, hM3⟩
        · by_cases c3 : n < 1
          · go_wp2
            go_ret
            exact ⟨rfl, hM3⟩
          · have c4 : 60 < n := by omega
            clear hc
            go_wp2
            go_ret
            exact ⟨rfl, hM3⟩

end Go.Proofs.Ytpbadpkleiogoaa
