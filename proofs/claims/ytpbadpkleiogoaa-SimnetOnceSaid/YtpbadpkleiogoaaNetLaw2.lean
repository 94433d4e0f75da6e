/-
  The walks of SimnetClock and SimnetFed.
-/
import Derived.Test.YtpbadpkleiogoaaNetLaw
import Derived.Test.YtpbadpkleiogoaaRead
namespace Go.Proofs.Ytpbadpkleiogoaa
open Go.RowKit
attribute [local go_sem ↓] Go.wp_at_zero Go.wp_at_succ

def clk (now : Int) : NSt := ⟨[], 0, now, [], 0⟩

def ClkRel (w : World) (nb : Nat) (now : Int) (wr : World) : Prop := 0 ≤ now ∧ now ≤ 1152921504606846976 ∧ ∃ ρ, Ch w ρ wr ∧ Net ρ wr nb (clk now)

set_option maxRecDepth 100000 in
set_option maxHeartbeats 4000000 in
theorem nclock_any (w : World) (A : Option Addr) (len cap : Nat) (l : List Int) (hl : l.length = len) (hlen : len ≤ 9223372036854775807) (hA : IntsAt .i64 w A l) :
    Calls Try.prog 12 #[.slice A len cap] w (TrueMod w) := by
  have HL := Lib.hid hl
  have HA := Lib.hid hA
  have HN := Lib.hid hlen
  clear hl hA hlen
  go_enter Try.func12, Try.ntmps12
  go_wp2_with fail
  refine (nawake_any w).mono ?_
  rintro e w0 ⟨rfl, hM0⟩
  have C0 := (Ch.start w).fresh hM0
  go_wp2_with fail
  refine (new_any _ w0 C0.f).mono ?_
  rintro e w1 ⟨rfl, ρ1, hN1', hE1, hF1, hM1⟩
  have C1 := C0.newNet hE1 hM1 hF1
  generalize w0.heap.size = nb at hN1'
  have hN1 : Net ρ1 w1 nb (clk 0) := hN1'
  clear hN1'
  go_wp2_with fail
  go_loopw [4, 5] (fun t i wr => ∃ (k : Nat) (now : Int), k ≤ len ∧ k ≤ 100 ∧ i = .int .i64 k ∧ t = .int .i64 now ∧ ClkRel w nb now wr) (fun _ i _ => len - (intOf i).toNat)
  case atStart => exact ⟨0, 0, by omega, by omega, rfl, rfl, by omega, by omega, ρ1, C1, hN1⟩
  case round =>
    obtain ⟨k, now, hk, hk1, rfl, rfl, hn0, hn1, ρ, hC, hN⟩ := hrel
    by_cases hlt : k < len ∧ k < 100
    · obtain ⟨h1, h2⟩ := hlt
      obtain ⟨b, off, rfl, hb, hc⟩ := HA.out k (by rw [HL.out]; exact h1)
      generalize l[k]'(by rw [HL.out]; exact h1) = d at hc
      have hc' := hC.m.cell hc (fun h => h)
      have h3 : (k : Int) < (len : Int) := by omega
      have h4 : (k : Int) < 100 := by omega
      by_cases c1 : 0 ≤ d
      · by_cases c2 : d ≤ 1152921504606846976 - now
        · have e1 : tickErr (clk now).now d = 0 := by unfold tickErr mayTick clk; simp [c1, c2]
          have e2 : ticked (clk now) d = clk (now + d) := by unfold ticked mayTick clk; simp [c1, c2]
          have E1 := Lib.hid e1
          have E2 := Lib.hid e2
          clear e1 e2
          have hb2 : now + d ≤ 1152921504606846976 := by omega
          go_wp2_with fail
          refine (tick_any ρ _ nb (clk now) hN hC.f d hn0 hn1).mono ?_
          rintro e w2 ⟨rfl, ρ2, hN2, hE2, hF2, hM2⟩
          rw [E1.out]
          rw [E2.out] at hN2
          have C2 := hC.step hE2 hM2 hF2
          have hc2 := C2.m.cell hc (fun h => h)
          go_wp2_with fail
          refine (now_any ρ2 w2 nb _ hN2).mono ?_
          rintro e _ ⟨rfl, rfl⟩
          have e3 : (clk (now + d)).now = now + d := rfl
          rw [e3]
          clear e3
          go_wp2
          go_roundw
          case rel => exact ⟨k + 1, now + d, by omega, by omega, by go_num, rfl, by omega, hb2, ρ2, C2, hN2⟩
          case measure => simp [intOf]; omega
        · have e1 : tickErr (clk now).now d = 1 := by unfold tickErr mayTick clk; simp; omega
          have e2 : ticked (clk now) d = clk now := by unfold ticked mayTick clk; simp; omega
          have E1 := Lib.hid e1
          have E2 := Lib.hid e2
          clear e1 e2
          go_wp2_with fail
          refine (tick_any ρ _ nb (clk now) hN hC.f d hn0 hn1).mono ?_
          rintro e w2 ⟨rfl, ρ2, hN2, hE2, hF2, hM2⟩
          rw [E1.out]
          rw [E2.out] at hN2
          have C2 := hC.step hE2 hM2 hF2
          have hc2 := C2.m.cell hc (fun h => h)
          go_wp2_with fail
          refine (now_any ρ2 w2 nb _ hN2).mono ?_
          rintro e _ ⟨rfl, rfl⟩
          have e3 : (clk now).now = now := rfl
          rw [e3]
          clear e3
          go_wp2
          go_roundw
          case rel => exact ⟨k + 1, now, by omega, by omega, by go_num, rfl, by omega, by omega, ρ2, C2, hN2⟩
          case measure => simp [intOf]; omega
      · have e1 : tickErr (clk now).now d = 1 := by unfold tickErr mayTick clk; simp; omega
        have e2 : ticked (clk now) d = clk now := by unfold ticked mayTick clk; simp; omega
        have E1 := Lib.hid e1
        have E2 := Lib.hid e2
        clear e1 e2
        go_wp2_with fail
        refine (tick_any ρ _ nb (clk now) hN hC.f d hn0 hn1).mono ?_
        rintro e w2 ⟨rfl, ρ2, hN2, hE2, hF2, hM2⟩
        rw [E1.out]
        rw [E2.out] at hN2
        have C2 := hC.step hE2 hM2 hF2
        have hc2 := C2.m.cell hc (fun h => h)
        go_wp2_with fail
        refine (now_any ρ2 w2 nb _ hN2).mono ?_
        rintro e _ ⟨rfl, rfl⟩
        have e3 : (clk now).now = now := rfl
        rw [e3]
        clear e3
        go_wp2
        go_roundw
        case rel => exact ⟨k + 1, now, by omega, by omega, by go_num, rfl, by omega, by omega, ρ2, C2, hN2⟩
        case measure => simp [intOf]; omega
    · by_cases h1 : k < len
      · have h2 : ¬ ((k : Int) < 100) := by omega
        have h3 : (k : Int) < (len : Int) := by omega
        go_wp2
        go_ret
        exact ⟨rfl, hC.m⟩
      · have h3 : ¬ ((k : Int) < (len : Int)) := by omega
        go_wp2
        go_ret
        exact ⟨rfl, hC.m⟩

theorem GNet.other {tn tw : TypeId} {ρ ρ' : Col} {w w' : World} {na nb : Nat} {s : NSt} (h : GNet tn tw ρ w nb s) (k : OwnMod ρ na w w') (e : Ext w ρ ρ') (hne : na ≠ nb) : GNet tn tw ρ' w' nb s := by
  obtain ⟨pv, fv, l, hA⟩ := h
  exact ⟨pv, fv, l, hA.frame k e (fun b r hb ⟨r', hr⟩ => by rw [hb] at hr; cases hr; exact hne rfl) (fun b hb ⟨r', hr⟩ => by rw [hb] at hr; cases hr)⟩
theorem GNet.other_new {tn tw : TypeId} {ρ ρ' : Col} {w w' : World} {nb : Nat} {s : NSt} (h : GNet tn tw ρ w nb s) (k : Mod (fun _ => False) w w') (e : Ext w ρ ρ') : GNet tn tw ρ' w' nb s := by
  obtain ⟨pv, fv, l, hA⟩ := h
  exact ⟨pv, fv, l, hA.frame k e (fun _ _ _ h => h) (fun _ _ h => h)⟩

/-- a network of which the fed numbers and the seed alone tell -/
def sd (fed : List Int) (z : Int) : NSt := ⟨[], 0, 0, fed, z⟩

def Two (w : World) (na nb : Nat) (fed : List Int) (wr : World) : Prop :=
  ∃ z ρ, 0 ≤ z ∧ z < 18446744073709551616 ∧ na ≠ nb ∧ Ch w ρ wr ∧ Net ρ wr na (sd fed z) ∧ Net ρ wr nb (sd [] z)

theorem Two.rand {w wr w2 w3 : World} {na nb : Nat} {z : Int} {ρ ρ2 ρ3 : Col} (hne : na ≠ nb) (hC : Ch w ρ wr) (hE2 : Ext wr ρ ρ2) (hM2 : OwnMod ρ na wr w2) (hF2 : Fit ρ2 w2) (hN2 : Net ρ2 w2 na (sd [] (zNext z)))
    (hE3 : Ext w2 ρ2 ρ3) (hM3 : OwnMod ρ2 nb w2 w3) (hF3 : Fit ρ3 w3) (hN3 : Net ρ3 w3 nb (sd [] (zNext z))) : Two w na nb [] w3 :=
  ⟨zNext z, ρ3, (zNext_bd z).1, (zNext_bd z).2, hne, (hC.step hE2 hM2 hF2).step hE3 hM3 hF3, hN2.other hM3 hE3 (Ne.symm hne), hN3⟩

set_option maxRecDepth 100000 in
set_option maxHeartbeats 4000000 in
theorem nfed_any (w : World) (A : Option Addr) (len cap : Nat) (l : List Int) (hl : l.length = len) (hlen : len ≤ 50) (hA : IntsAt .u64 w A l) (a h : Int) (ha0 : 0 ≤ a) (ha1 : a ≤ 50) (hh0 : 0 ≤ h) (hh1 : h ≤ 50) :
    Calls Try.prog 11 #[.slice A len cap, .int .i64 a, .int .i64 h] w (TrueMod w) := by
  have HL := Lib.hid hl
  have HA := Lib.hid hA
  have f1 : decide (50 < (len : Int)) = false := by simp; omega
  have f1' : decide (50 < len) = false := by simp; omega
  have f2 : decide (a < 0) = false := by simp; omega
  have f3 : decide (50 < a) = false := by simp; omega
  have f4 : decide (h < 0) = false := by simp; omega
  have f5 : decide (50 < h) = false := by simp; omega
  clear hl hA
  go_enter Try.func11, Try.ntmps11
  go_wp2_with fail
  refine (nawake_any w).mono ?_
  rintro e w0 ⟨rfl, hM0⟩
  have C0 := (Ch.start w).fresh hM0
  go_wp2_with fail
  refine (new_any _ w0 C0.f).mono ?_
  rintro e w1 ⟨rfl, ρ1, hN1', hE1, hF1, hM1⟩
  have C1 := C0.newNet hE1 hM1 hF1
  generalize w0.heap.size = na at hN1'
  have hN1 : Net ρ1 w1 na (sd [] 0) := hN1'
  have hlt1 := hN1.lt
  clear hN1'
  go_wp2_with fail
  refine (new_any _ w1 C1.f).mono ?_
  rintro e w2 ⟨rfl, ρ2, hN2', hE2, hF2, hM2⟩
  have C2 := C1.newNet hE2 hM2 hF2
  have hne : na ≠ w1.heap.size := by omega
  generalize w1.heap.size = nb at hN2' hne
  have hN2 : Net ρ2 w2 nb (sd [] 0) := hN2'
  have hT : Two w na nb [] w2 := ⟨0, ρ2, by omega, by omega, hne, C2, hN1.other_new hM2 hE2, hN2⟩
  clear hN2' hN1 hN2 C2 C1 C0 hne hE1 hE2 hF1 hF2 hM0 hM1 hM2 hlt1
  go_wp2_with fail
  go_loopw [9] (fun i wr => ∃ k : Nat, (k : Int) ≤ a ∧ i = .int .i64 k ∧ Two w na nb [] wr) (fun i _ => (a - intOf i).toNat)
  case atStart => exact ⟨0, by omega, rfl, hT⟩
  case round =>
    obtain ⟨k, hk, rfl, z, ρ, hz0, hz1, hne, hC, hNa, hNb⟩ := hrel
    have HZ := Lib.hid hz1
    clear hz1
    by_cases hlt : (k : Int) < a
    · go_wp2_with fail
      refine (rand_seed ρ _ na _ hNa hC.f rfl hz0 HZ.out).mono ?_
      rintro e w2 ⟨rfl, ρ2, hN2, hE2, hF2, hM2⟩
      go_wp2_with fail
      refine (rand_seed ρ2 _ nb _ (hNb.other hM2 hE2 hne) hF2 rfl hz0 HZ.out).mono ?_
      rintro e w3 ⟨rfl, ρ3, hN3, hE3, hF3, hM3⟩
      have e4 : (sd [] z).z = z := rfl
      rw [e4]
      go_wp2
      go_roundw
      case rel => exact ⟨k + 1, by omega, by go_num, Two.rand hne hC hE2 hM2 hF2 hN2 hE3 hM3 hF3 hN3⟩
      case measure => simp [intOf]; omega
    · go_wp2_with fail
      have hT2 : Two w na nb (l.take 0) wr := ⟨z, ρ, hz0, HZ.out, hne, hC, by simpa using hNa, hNb⟩
      clear hz0 HZ hne hC hNa hNb hlt hT
      obtain ⟨wo, rfl⟩ : ∃ wo : World, wo = wr := ⟨_, rfl⟩
      go_loopw [10] (fun i wr => ∃ k : Nat, k ≤ len ∧ i = .int .i64 k ∧ Two w na nb (l.take k) wr) (fun i _ => len - (intOf i).toNat)
      case atStart => exact ⟨0, by omega, rfl, hT2⟩
      case round =>
        obtain ⟨k2, hk2, rfl, z, ρ, hz0, hz1, hne, hC, hNa, hNb⟩ := hrel
        have HZ := Lib.hid hz1
        clear hz1 hT2
        by_cases hlt : k2 < len
        · have hkl : k2 < l.length := by rw [HL.out]; exact hlt
          obtain ⟨b, off, rfl, hb, hc⟩ := HA.out k2 hkl
          have hc' := hC.m.cell hc (fun h => h)
          have htk : l.take (k2 + 1) = l.take k2 ++ [l[k2]] := List.take_succ_eq_append_getElem hkl
          generalize l[k2] = d at hc' htk
          have HTK := Lib.hid htk
          have hlk : (l.take k2).length ≤ 1000000 := by rw [List.length_take]; omega
          have hlt' : (k2 : Int) < (len : Int) := by omega
          clear hc htk
          go_wp2_with fail
          refine (feed_any ρ _ na _ hNa hC.f d hlk).mono ?_
          rintro e w2 ⟨rfl, ρ2, hN2, hE2, hF2, hM2⟩
          go_wp2
          go_roundw
          case rel => exact ⟨k2 + 1, by omega, by go_num, z, ρ2, hz0, HZ.out, hne, hC.step hE2 hM2 hF2, by rw [HTK.out]; exact hN2, hNb.other hM2 hE2 hne⟩
          case measure => simp [intOf]; omega
        · go_wp2_with fail
          have hT3 : Two w na nb (l.drop 0) wr := ⟨z, ρ, hz0, HZ.out, hne, hC, by rw [List.take_of_length_le (by rw [HL.out]; omega)] at hNa; simpa using hNa, hNb⟩
          clear hz0 HZ hne hC hNa hNb hlt
          obtain ⟨wo2, rfl⟩ : ∃ wo : World, wo = wr := ⟨_, rfl⟩
          go_loopw [11] (fun i wr => ∃ k : Nat, k ≤ len ∧ i = .int .i64 k ∧ Two w na nb (l.drop k) wr) (fun i _ => len - (intOf i).toNat)
          case atStart => exact ⟨0, by omega, rfl, hT3⟩
          case round =>
            obtain ⟨k3, hk3, rfl, z, ρ, hz0, hz1, hne, hC, hNa, hNb⟩ := hrel
            have HZ := Lib.hid hz1
            clear hz1 hT3
            by_cases hlt : k3 < len
            · have hkl : k3 < l.length := by rw [HL.out]; exact hlt
              obtain ⟨b, off, rfl, hb, hc⟩ := HA.out k3 hkl
              have hc' := hC.m.cell hc (fun h => h)
              have hdr : l.drop k3 = l[k3] :: l.drop (k3 + 1) := List.drop_eq_getElem_cons hkl
              generalize l[k3] = d at hc' hdr
              have HDR := Lib.hid hdr
              have hlk : (sd (l.drop k3) z).fed.length ≤ 1000000 := by
                show (l.drop k3).length ≤ 1000000
                rw [List.length_drop]
                have := HL.out
                omega
              have hlt' : (k3 : Int) < (len : Int) := by omega
              have h0' : (0 : Int) ≤ (k3 : Int) := by omega
              clear hc hdr
              have HLK := Lib.hid hlk
              clear hlk
              go_wp2_with fail
              have hD := (Mod.refl (fun _ => False) wr).drew
              have hNa' := hNa.keep hD
              have hNb' := hNb.keep hD
              have hC' := hC.fresh hD
              go_region_held3 (fun w' => w'.cell? ⟨b, off + k3, none⟩ = some (.int .u64 d)) (first | exact hc' | exact K2)
                (first | (go_at_call 35; refine (rand_fed ρ _ na _ hNa' hC'.f d (l.drop (k3 + 1)) HDR.out HLK.out).mono ?_; rintro e w2 ⟨rfl, ρ2, hN2, hE2, hF2, hM2⟩; have K2 := hM2.cell (w := wr.drew) hc' (fun ⟨r, hr⟩ => by rw [hC.c _ hb] at hr; cases hr)))
              all_goals
                go_wp2
                go_roundw
                case rel => exact ⟨k3 + 1, by omega, by go_num, z, ρ2, hz0, HZ.out, hne, hC'.step hE2 hM2 hF2, hN2, hNb'.other hM2 hE2 hne⟩
                case measure => simp [intOf]; omega
            · go_wp2_with fail
              have hT4 : Two w na nb [] wr := ⟨z, ρ, hz0, HZ.out, hne, hC, by rw [List.drop_of_length_le (by rw [HL.out]; omega)] at hNa; exact hNa, hNb⟩
              clear hz0 HZ hne hC hNa hNb hlt
              obtain ⟨wo3, rfl⟩ : ∃ wo : World, wo = wr := ⟨_, rfl⟩
              go_loopw [12] (fun i wr => ∃ k : Nat, (k : Int) ≤ h ∧ i = .int .i64 k ∧ Two w na nb [] wr) (fun i _ => (h - intOf i).toNat)
              case atStart => exact ⟨0, by omega, rfl, hT4⟩
              case round =>
                obtain ⟨k4, hk4, rfl, z, ρ, hz0, hz1, hne, hC, hNa, hNb⟩ := hrel
                have HZ := Lib.hid hz1
                clear hz1 hT4
                by_cases hlt : (k4 : Int) < h
                · go_wp2_with fail
                  refine (rand_seed ρ _ na _ hNa hC.f rfl hz0 HZ.out).mono ?_
                  rintro e w2 ⟨rfl, ρ2, hN2, hE2, hF2, hM2⟩
                  go_wp2_with fail
                  refine (rand_seed ρ2 _ nb _ (hNb.other hM2 hE2 hne) hF2 rfl hz0 HZ.out).mono ?_
                  rintro e w3 ⟨rfl, ρ3, hN3, hE3, hF3, hM3⟩
                  have e4 : (sd [] z).z = z := rfl
                  rw [e4]
                  go_wp2
                  go_roundw
                  case rel => exact ⟨k4 + 1, by omega, by go_num, Two.rand hne hC hE2 hM2 hF2 hN2 hE3 hM3 hF3 hN3⟩
                  case measure => simp [intOf]; omega
                · go_wp2
                  go_ret
                  exact ⟨rfl, hC.m⟩

set_option maxRecDepth 100000 in
set_option maxHeartbeats 4000000 in
theorem nfed_out (w : World) (A : Option Addr) (len cap : Nat) (a h : Int) (ho : 50 < len ∨ a < 0 ∨ 50 < a ∨ h < 0 ∨ 50 < h) :
    Calls Try.prog 11 #[.slice A len cap, .int .i64 a, .int .i64 h] w (TrueMod w) := by
  by_cases c1 : 50 < len
  · go_enter Try.func11, Try.ntmps11
    go_wp2_with fail
    refine (nawake_any w).mono ?_
    rintro e w0 ⟨rfl, hM0⟩
    go_wp2
    go_ret
    exact ⟨rfl, hM0⟩
  · by_cases c2 : a < 0
    · go_enter Try.func11, Try.ntmps11
      go_wp2_with fail
      refine (nawake_any w).mono ?_
      rintro e w0 ⟨rfl, hM0⟩
      go_wp2
      go_ret
      exact ⟨rfl, hM0⟩
    · by_cases c3 : 50 < a
      · go_enter Try.func11, Try.ntmps11
        go_wp2_with fail
        refine (nawake_any w).mono ?_
        rintro e w0 ⟨rfl, hM0⟩
        go_wp2
        go_ret
        exact ⟨rfl, hM0⟩
      · by_cases c4 : h < 0
        · go_enter Try.func11, Try.ntmps11
          go_wp2_with fail
          refine (nawake_any w).mono ?_
          rintro e w0 ⟨rfl, hM0⟩
          go_wp2
          go_ret
          exact ⟨rfl, hM0⟩
        · have c5 : 50 < h := by omega
          clear ho
          go_enter Try.func11, Try.ntmps11
          go_wp2_with fail
          refine (nawake_any w).mono ?_
          rintro e w0 ⟨rfl, hM0⟩
          go_wp2
          go_ret
          exact ⟨rfl, hM0⟩

theorem nfed_all (w : World) (A : Option Addr) (len cap : Nat) (l : List Int) (hl : l.length = len) (hA : IntsAt .u64 w A l) (a h : Int) :
    Calls Try.prog 11 #[.slice A len cap, .int .i64 a, .int .i64 h] w (TrueMod w) := by
  by_cases c : 50 < len ∨ a < 0 ∨ 50 < a ∨ h < 0 ∨ 50 < h
  · exact nfed_out w A len cap a h c
  · exact nfed_any w A len cap l hl (by omega) hA a h (by omega) (by omega) (by omega) (by omega)
end Go.Proofs.Ytpbadpkleiogoaa
