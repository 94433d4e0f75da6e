/-
  The walks of package retry (chapter 20) and of its reference: what each function computes.
-/
import Derived.Test.YtpbadpkleiogoaaProg
import Derived.Test.YtpbadpkleiogoaaBase
import Derived.Outline
import Derived.Deep.DeepCutAuto
namespace Go.Proofs.Ytpbadpkleiogoaa
open Go.RowKit

def goodB (b m : Int) : Bool := decide (1 ≤ b) && (decide (b ≤ m) && decide (m ≤ 1099511627776))
theorem goodB_iff {b m : Int} : goodB b m = true ↔ 1 ≤ b ∧ b ≤ m ∧ m ≤ 1099511627776 := by simp [goodB]

/-- the base doubled k times, as long as it is below the most -/
def dk (b m : Int) : Nat → Int
  | 0 => b
  | k + 1 => if dk b m k < m then dk b m k * 2 else dk b m k
theorem dk_bd {b m : Int} (h : 1 ≤ b ∧ b ≤ m ∧ m ≤ 1099511627776) : ∀ k, 1 ≤ dk b m k ∧ dk b m k ≤ 2199023255552
  | 0 => by simp only [dk]; omega
  | k + 1 => by
    have := dk_bd h k
    simp only [dk]
    split <;> omega
theorem dk_ge {b m : Int} (h : 1 ≤ b) : ∀ k, b ≤ dk b m k
  | 0 => by simp only [dk]; omega
  | k + 1 => by
    have := dk_ge (m := m) h k
    simp only [dk]
    split <;> omega
theorem dk_stop {b m : Int} {k : Nat} (h : m ≤ dk b m k) : ∀ j, dk b m (k + j) = dk b m k
  | 0 => rfl
  | j + 1 => by
    have e := dk_stop h j
    rw [← Nat.add_assoc]
    simp only [dk]
    rw [e, if_neg (by omega)]
def topd (b m n : Int) : Int := min (dk b m (n - 1).toNat) m
theorem topd_bd {b m : Int} (n : Int) (h : 1 ≤ b ∧ b ≤ m ∧ m ≤ 1099511627776) : 1 ≤ topd b m n ∧ topd b m n ≤ m ∧ b ≤ topd b m n := by
  have := dk_bd h (n - 1).toNat
  have := dk_ge (m := m) h.1 (n - 1).toNat
  unfold topd; omega
/-- the delay -/
def dly (b m n r : Int) : Int := (topd b m n + 1) / 2 + r % (topd b m n / 2 + 1)

set_option maxHeartbeats 400000 in
theorem good_any (b m : Int) (w : World) :
    Calls Try.prog 38 #[.int .i64 b, .int .i64 m] w fun e w' => e = .returned (.bool (goodB b m)) ∧ w = w' := by
  go_enter Try.func38, Try.ntmps38
  go_wp2
  all_goals (go_ret; exact ⟨ret_bool (by unfold goodB; simp [*] <;> omega), rfl⟩)

set_option maxHeartbeats 400000 in
theorem delay_bad (b m n r : Int) (w : World) (h : goodB b m = false ∨ n < 1) :
    Calls Try.prog 15 #[.int .i64 b, .int .i64 m, .int .i64 n, .int .u64 r] w fun e w' => e = .returned (.tuple #[.int .i64 0, .int .i64 1]) ∧ w = w' := by
  go_enter Try.func15, Try.ntmps15
  cases hg : goodB b m
  · go_wp2_with (go_at_call 38; refine (good_any _ _ _).mono ?_; rintro e w' ⟨rfl, rfl⟩)
    go_ret2
    exact ⟨rfl, rfl⟩
  · have h1 : n < 1 := by simpa [hg] using h
    go_wp2_with (go_at_call 38; refine (good_any _ _ _).mono ?_; rintro e w' ⟨rfl, rfl⟩)
    go_ret2
    exact ⟨rfl, rfl⟩


set_option maxHeartbeats 1000000 in
theorem delay_ok (b m n r : Int) (w : World) (hg : goodB b m = true) (h : 1 ≤ n) (hn : n ≤ 9223372036854775807) (hr : 0 ≤ r) (hr' : r < 18446744073709551616) :
    Calls Try.prog 15 #[.int .i64 b, .int .i64 m, .int .i64 n, .int .u64 r] w fun e w' => e = .returned (.tuple #[.int .i64 (dly b m n r), .int .i64 0]) ∧ w = w' := by
  have hb := goodB_iff.1 hg
  have hn1 : decide (n < 1) = false := by simp; omega
  have hN := Lib.hid hn
  have hR := Lib.hid hr'
  clear hn hr'
  obtain ⟨hb1, hb2, hb3⟩ := hb
  go_enter Try.func15, Try.ntmps15
  go_wp2_with (go_at_call 38; refine (good_any _ _ _).mono ?_; rintro e w' ⟨rfl, rfl⟩)
  go_loop [10, 11] (fun d i => ∃ (k : Nat) (x : Int), (k : Int) + 1 ≤ n ∧ i = .int .i64 ((k : Int) + 1) ∧ d = .int .i64 x ∧ Hid (x = dk b m k)) (fun _ i => (n - intOf i).toNat)
  case atStart => exact ⟨0, b, by omega, rfl, rfl, Lib.hid rfl⟩
  case round =>
    obtain ⟨k, x, hk, rfl, rfl, HX⟩ := hrel
    have hd := dk_bd ⟨hb1, hb2, hb3⟩ k
    rw [← HX.out] at hd
    have hk' : (k : Int) + 1 ≤ 9223372036854775807 := by have := hN.out; omega
    by_cases c1 : (k : Int) + 1 < n
    · by_cases c2 : x < m
      · have HS : Hid (dk b m (k + 1) = x * 2) := Lib.hid (by simp only [dk]; rw [← HX.out, if_pos c2])
        have hk2 : (k : Int) + 2 ≤ 9223372036854775807 := by have := hN.out; omega
        go_wp2
        go_round
        case rel => exact ⟨k + 1, x * 2, by omega, by go_num, rfl, Lib.hid HS.out.symm⟩
        case measure => simp [intOf]; omega
      · have ht : topd b m n = m := by
          have := dk_stop (b := b) (m := m) (k := k) (by rw [← HX.out]; omega) ((n - 1).toNat - k)
          rw [show k + ((n - 1).toNat - k) = (n - 1).toNat by omega] at this
          unfold topd; rw [this, ← HX.out]; omega
        have HT := Lib.hid ht
        clear ht
        have hm := mod_bd r (m / 2 + 1) (by omega)
        have hm' := mod_bd r (x / 2 + 1) (by omega)
        by_cases c3 : m < x
        · go_wp2
          go_ret2
          exact ⟨ret_int2 (by unfold dly; rw [HT.out]), rfl⟩
        · have hxm : Hid (x = m) := Lib.hid (by omega)
          go_wp2
          go_ret2
          exact ⟨ret_int2 (by unfold dly; rw [HT.out, hxm.out]), rfl⟩
    · have HT : Hid (topd b m n = min x m) := Lib.hid (by unfold topd; rw [show (n - 1).toNat = k by omega, ← HX.out])
      have hm := mod_bd r (m / 2 + 1) (by omega)
      have hm' := mod_bd r (x / 2 + 1) (by omega)
      have hc1 : decide ((k : Int) + 1 < n) = false := by simp; omega
      by_cases c3 : m < x
      · have hxm : Hid (min x m = m) := Lib.hid (by omega)
        go_wp2
        go_ret2
        exact ⟨ret_int2 (by unfold dly; rw [HT.out, hxm.out]), rfl⟩
      · have hxm : Hid (min x m = x) := Lib.hid (by omega)
        go_wp2
        go_ret2
        exact ⟨ret_int2 (by unfold dly; rw [HT.out, hxm.out]), rfl⟩

theorem dly_bd {b m : Int} (n r : Int) (hg : goodB b m = true) : 1 ≤ dly b m n r ∧ dly b m n r ≤ m ∧ dly b m n r ≤ 1099511627776 ∧ b ≤ 2 * dly b m n r := by
  have h := goodB_iff.1 hg
  have h1 := topd_bd n h
  have h2 := mod_bd r (topd b m n / 2 + 1) (by omega)
  unfold dly
  omega

/-- a timer in memory -/
def Tm (w : World) (t : Nat) (b m n rd : Int) : Prop := Blk w t #[.int .i64 b, .int .i64 m, .int .i64 n, .int .i64 rd] 82
theorem Tm.mod {S : Nat → Prop} {w w' : World} {t : Nat} {b m n rd : Int} (h : Tm w t b m n rd) (k : Mod S w w') (hs : ¬ S t) : Tm w' t b m n rd := Blk.mod h k hs

def nextR (b m n now r : Int) : Int := if now < 4611686018427387904 - dly b m n r then now + dly b m n r else 4611686018427387904

def FailPost (w : World) (t : Nat) (b m n now r : Int) (e : Ending) (w' : World) : Prop :=
  e = .returned (.int .i64 (nextR b m (n + 1) now r)) ∧ Tm w' t b m (n + 1) (nextR b m (n + 1) now r) ∧ Mod (· = t) w w'

set_option maxHeartbeats 1000000 in
theorem fail_any (t : Nat) (b m n rd now r : Int) (w : World) (hg : goodB b m = true) (hn0 : 0 ≤ n) (hn : n ≤ 1000000) (hr : 0 ≤ r) (hr' : r < 18446744073709551616)
    (hnow : -9223372036854775808 ≤ now) (hT : Tm w t b m n rd) :
    Calls Try.prog 18 #[.pointer (some ⟨t, 0, none⟩), .int .i64 now, .int .u64 r] w (FailPost w t b m n now r) := by
  have c0 : w.cell? ⟨t, 0, none⟩ = some (.int .i64 b) := hT.cell 0
  have c1 : w.cell? ⟨t, 1, none⟩ = some (.int .i64 m) := hT.cell 1
  have c2 : w.cell? ⟨t, 2, none⟩ = some (.int .i64 n) := hT.cell 2
  have c3 : w.cell? ⟨t, 3, none⟩ = some (.int .i64 rd) := hT.cell 3
  have z0 : ∀ i, w.frozen? ⟨t, i, none⟩ = false := hT.free
  have hn1 : 1 ≤ n + 1 := by omega
  have hd := dly_bd (n + 1) r hg
  have HR := Lib.hid hr'
  have HT := Lib.hid hT
  clear hr' hT
  go_enter Try.func18, Try.ntmps18
  go_wp2
  go_quiet ((go_at_call 15; exact quiet_left (delay_ok _ _ _ _ _ hg hn1 (by omega) hr HR.out)))
  by_cases c : 4611686018427387904 - dly b m (n + 1) r < now
  · have e : Hid (nextR b m (n + 1) now r = 4611686018427387904) := Lib.hid (by unfold nextR; rw [if_neg (by omega)])
    go_wp2
    go_ret
    refine ⟨ret_int e.out.symm, ?_, ?_⟩
    · rw [e.out]
      exact ((HT.out.set 2 _).drewN _).set 3 _
    · exact (((Mod.refl (· = t) w).setCell (p := ⟨t, 2, none⟩) (fun _ => rfl) _).drewN _).setCell (p := ⟨t, 3, none⟩) (fun _ => rfl) _
  · by_cases c' : now = 4611686018427387904 - dly b m (n + 1) r
    · have e : Hid (nextR b m (n + 1) now r = now + dly b m (n + 1) r) := Lib.hid (by unfold nextR; rw [if_neg (by omega)]; omega)
      have c'' : now + dly b m (n + 1) r ≤ 4611686018427387904 := by omega
      clear c'
      go_wp2
      go_ret
      refine ⟨ret_int e.out.symm, ?_, ?_⟩
      · rw [e.out]
        exact ((HT.out.set 2 _).drewN _).set 3 _
      · exact (((Mod.refl (· = t) w).setCell (p := ⟨t, 2, none⟩) (fun _ => rfl) _).drewN _).setCell (p := ⟨t, 3, none⟩) (fun _ => rfl) _
    · have e : Hid (nextR b m (n + 1) now r = now + dly b m (n + 1) r) := Lib.hid (by unfold nextR; rw [if_pos (by omega)])
      go_wp2
      go_ret
      refine ⟨ret_int e.out.symm, ?_, ?_⟩
      · rw [e.out]
        exact ((HT.out.set 2 _).drewN _).set 3 _
      · exact (((Mod.refl (· = t) w).setCell (p := ⟨t, 2, none⟩) (fun _ => rfl) _).drewN _).setCell (p := ⟨t, 3, none⟩) (fun _ => rfl) _

def WellPost (w : World) (t : Nat) (b m now : Int) (e : Ending) (w' : World) : Prop :=
  e = .returned (.tuple #[]) ∧ Tm w' t b m 0 now ∧ Mod (· = t) w w'

set_option maxHeartbeats 400000 in
theorem well_any (t : Nat) (b m n rd now : Int) (w : World) (hT : Tm w t b m n rd) :
    Calls Try.prog 19 #[.pointer (some ⟨t, 0, none⟩), .int .i64 now] w (WellPost w t b m now) := by
  have c2 : w.cell? ⟨t, 2, none⟩ = some (.int .i64 n) := hT.cell 2
  have c3 : w.cell? ⟨t, 3, none⟩ = some (.int .i64 rd) := hT.cell 3
  have z0 : ∀ i, w.frozen? ⟨t, i, none⟩ = false := hT.free
  have HT := Lib.hid hT
  clear hT
  go_enter Try.func19, Try.ntmps19
  go_wp2
  go_end0
  exact ⟨rfl, (HT.out.set 2 _).set 3 _, ((Mod.refl (· = t) w).setCell (p := ⟨t, 2, none⟩) (fun _ => rfl) _).setCell (p := ⟨t, 3, none⟩) (fun _ => rfl) _⟩

set_option maxHeartbeats 400000 in
theorem fails_any (t : Nat) (b m n rd : Int) (w : World) (hT : Tm w t b m n rd) :
    Calls Try.prog 20 #[.pointer (some ⟨t, 0, none⟩)] w fun e w' => e = .returned (.int .i64 n) ∧ w = w' := by
  have c2 : w.cell? ⟨t, 2, none⟩ = some (.int .i64 n) := hT.cell 2
  clear hT
  go_enter Try.func20, Try.ntmps20
  go_wp2
  go_ret
  exact ⟨rfl, rfl⟩

set_option maxHeartbeats 400000 in
theorem ready_any (t : Nat) (b m n rd now : Int) (w : World) (hT : Tm w t b m n rd) :
    Calls Try.prog 21 #[.pointer (some ⟨t, 0, none⟩), .int .i64 now] w fun e w' => e = .returned (.bool (decide (rd ≤ now))) ∧ w = w' := by
  have c3 : w.cell? ⟨t, 3, none⟩ = some (.int .i64 rd) := hT.cell 3
  clear hT
  go_enter Try.func21, Try.ntmps21
  go_wp2
  go_ret
  exact ⟨rfl, rfl⟩

def NewPost (w : World) (b m : Int) (e : Ending) (w' : World) : Prop :=
  e = .returned (.tuple #[.pointer (some ⟨w.heap.size, 0, none⟩), .int .i64 0]) ∧ Tm w' w.heap.size b m 0 (-9223372036854775808) ∧ Mod (fun _ => False) w w'

set_option maxHeartbeats 400000 in
theorem new_ok (b m : Int) (w : World) (hg : goodB b m = true) :
    Calls Try.prog 14 #[.int .i64 b, .int .i64 m] w (NewPost w b m) := by
  go_enter Try.func14, Try.ntmps14
  go_wp2_with (go_at_call 38; refine (good_any _ _ _).mono ?_; rintro e w' ⟨rfl, rfl⟩)
  go_ret2
  exact ⟨rfl, Blk.new _ _ _, (Mod.refl _ w).alloc _⟩

set_option maxHeartbeats 400000 in
theorem new_bad (b m : Int) (w : World) (hg : goodB b m = false) :
    Calls Try.prog 14 #[.int .i64 b, .int .i64 m] w fun e w' => e = .returned (.tuple #[.pointer none, .int .i64 1]) ∧ w = w' := by
  go_enter Try.func14, Try.ntmps14
  go_wp2_with (go_at_call 38; refine (good_any _ _ _).mono ?_; rintro e w' ⟨rfl, rfl⟩)
  go_ret2
  exact ⟨rfl, rfl⟩

set_option maxHeartbeats 400000 in
theorem rdelays_any (b m : Int) (w : World) :
    Calls Try.prog 16 #[.int .i64 b, .int .i64 m] w fun e w' => e = .returned (.bool (goodB b m)) ∧ w = w' := by
  go_enter Try.func16, Try.ntmps16
  go_wp2
  all_goals (go_ret; exact ⟨ret_bool (by unfold goodB; simp [*] <;> omega), rfl⟩)

set_option maxHeartbeats 1000000 in
theorem rdelay_ok (b m n r : Int) (w : World) (hg : goodB b m = true) (h : 1 ≤ n) (hn : n ≤ 9223372036854775807) (hr : 0 ≤ r) (hr' : r < 18446744073709551616) :
    Calls Try.prog 17 #[.int .i64 b, .int .i64 m, .int .i64 n, .int .u64 r] w fun e w' => e = .returned (.int .i64 (dly b m n r)) ∧ w = w' := by
  have hb := goodB_iff.1 hg
  have hN := Lib.hid hn
  have hR := Lib.hid hr'
  clear hn hr'
  obtain ⟨hb1, hb2, hb3⟩ := hb
  go_enter Try.func17, Try.ntmps17
  go_wp2
  go_loop [9, 10] (fun d i => ∃ (k : Nat) (x : Int), (k : Int) + 1 ≤ n ∧ i = .int .i64 ((k : Int) + 1) ∧ d = .int .i64 x ∧ Hid (x = dk b m k)) (fun _ i => (n - intOf i).toNat)
  case atStart => exact ⟨0, b, by omega, rfl, rfl, Lib.hid rfl⟩
  case round =>
    obtain ⟨k, x, hk, rfl, rfl, HX⟩ := hrel
    have hd := dk_bd ⟨hb1, hb2, hb3⟩ k
    rw [← HX.out] at hd
    have hk' : (k : Int) + 1 ≤ 9223372036854775807 := by have := hN.out; omega
    by_cases c1 : (k : Int) + 1 < n
    · by_cases c2 : x < m
      · have HS : Hid (dk b m (k + 1) = x * 2) := Lib.hid (by simp only [dk]; rw [← HX.out, if_pos c2])
        have hk2 : (k : Int) + 2 ≤ 9223372036854775807 := by have := hN.out; omega
        go_wp2
        go_round
        case rel => exact ⟨k + 1, 2 * x, by omega, by go_num, rfl, Lib.hid (by rw [HS.out]; omega)⟩
        case measure => simp [intOf]; omega
      · have ht : topd b m n = m := by
          have := dk_stop (b := b) (m := m) (k := k) (by rw [← HX.out]; omega) ((n - 1).toNat - k)
          rw [show k + ((n - 1).toNat - k) = (n - 1).toNat by omega] at this
          unfold topd; rw [this, ← HX.out]; omega
        have HT := Lib.hid ht
        clear ht
        have hm := mod_bd r (m / 2 + 1) (by omega)
        have hm' := mod_bd r (x / 2 + 1) (by omega)
        by_cases c3 : m < x
        · go_wp2
          go_ret
          exact ⟨ret_int (by unfold dly; rw [HT.out]), rfl⟩
        · have hxm : Hid (x = m) := Lib.hid (by omega)
          go_wp2
          go_ret
          exact ⟨ret_int (by unfold dly; rw [HT.out, hxm.out]), rfl⟩
    · have HT : Hid (topd b m n = min x m) := Lib.hid (by unfold topd; rw [show (n - 1).toNat = k by omega, ← HX.out])
      have hm := mod_bd r (m / 2 + 1) (by omega)
      have hm' := mod_bd r (x / 2 + 1) (by omega)
      have hc1 : decide ((k : Int) + 1 < n) = false := by simp; omega
      by_cases c3 : m < x
      · have hxm : Hid (min x m = m) := Lib.hid (by omega)
        go_wp2
        go_ret
        exact ⟨ret_int (by unfold dly; rw [HT.out, hxm.out]), rfl⟩
      · have hxm : Hid (min x m = x) := Lib.hid (by omega)
        go_wp2
        go_ret
        exact ⟨ret_int (by unfold dly; rw [HT.out, hxm.out]), rfl⟩

end Go.Proofs.Ytpbadpkleiogoaa
