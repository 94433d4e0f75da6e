/-
  The walk of SimnetOnce.
-/
import Derived.Test.YtpbadpkleiogoaaNetLaw2
import Derived.Test.YtpbadpkleiogoaaOncePlain
import Derived.Test.YtpbadpkleiogoaaReadW
import Derived.Test.YtpbadpkleiogoaaMake
namespace Go.Proofs.Ytpbadpkleiogoaa
open Go.RowKit
attribute [local go_sem ↓] Go.wp_at_zero Go.wp_at_succ

def oSt (ps : List Pk) (n : Nat) : NSt := ⟨ps, n, 0, [], 0⟩
def SentRel (w : World) (nb : Nat) (l : List ByteArray) (k : Nat) (wr : World) : Prop := ∃ ρ, Ch w ρ wr ∧ Net ρ wr nb (oSt ((List.range k).map (oPk l)) k)

theorem range_succ_map {α : Type} (f : Nat → α) (k : Nat) : (List.range (k + 1)).map f = (List.range k).map f ++ [f k] := by
  rw [List.range_succ, List.map_append]
  rfl

theorem oSt_next (ps : List Pk) (k : Nat) (p : Pk) : { oSt ps k with ps := (oSt ps k).ps ++ [p], sent := (oSt ps k).sent + 1 } = oSt (ps ++ [p]) (k + 1) := by
  simp [oSt]

theorem Net.info_bool : (Try.prog.info? 4).map (fun i => (i.zero, i.size, i.bytes)) = some (some (.bool false), 1, 1) := by kernel_rfl
theorem make_bools (w : World) (n : Nat) (hn : n ≤ 1000) : (Instr.makeSlice 76 (.int .i64 (n : Int)) (.int .i64 (n : Int))).run Try.prog w = .ok (.slice (some ⟨w.heap.size, 0, none⟩) n n) (w.alloc (.cells (List.replicate n (.bool false)).toArray 4)) := by
  obtain ⟨i0, hi0, hz0, hz1, hz2⟩ := info_parts Net.info_bool
  exact run_make_ones 76 4 i0 (.bool false) 1 Try.underlying76 hi0 hz0 hz1 hz2 rfl n (by omega) (by omega) w

/-- the state of SimnetOnce's second loop -/
def OnceRel (w : World) (nb db : Nat) (l : List ByteArray) (left : Int) (wr : World) : Prop :=
  ∃ ρ ps ds, nb ≠ db ∧ Ch w ρ wr ∧ Net ρ wr nb (oSt ps l.length) ∧ OInv l ps ds ∧ (ps.length : Int) = left ∧ Blk wr db (ds.map Value.bool).toArray 4 ∧ ρ db = some (db, 0)

set_option maxRecDepth 100000 in
set_option maxHeartbeats 4000000 in
theorem nonce_any (w : World) (A A1 : Option Addr) (len cap len1 cap1 : Nat) (l : List ByteArray) (o : List Int) (hl : l.length = len) (ho : o.length = len1) (hlen : len ≤ 50) (hlen1 : len1 ≤ 200) (hA : TextsAt w A l) (hO : IntsAt .i64 w A1 o) :
    Calls Try.prog 10 #[.slice A len cap, .slice A1 len1 cap1] w (TrueMod w) := by
  have HL := Lib.hid hl
  have HA := Lib.hid hA
  have HLo := Lib.hid ho
  have HO := Lib.hid hO
  have f1 : decide (50 < (len : Int)) = false := by simp; omega
  have f1' : decide (50 < len) = false := by simp; omega
  have f2 : decide (200 < (len1 : Int)) = false := by simp; omega
  have f2' : decide (200 < len1) = false := by simp; omega
  clear hl hA ho hO
  go_enter Try.func10, Try.ntmps10
  go_wp2_with fail
  refine (nawake_any w).mono ?_
  rintro e w0 ⟨rfl, hM0⟩
  have C0 := (Ch.start w).fresh hM0
  go_wp2_with fail
  refine (new_any _ w0 C0.f).mono ?_
  rintro e w1 ⟨rfl, ρ1, hN1', hE1, hF1, hM1⟩
  have C1 := C0.newNet hE1 hM1 hF1
  have hnw : w.heap.size ≤ w0.heap.size := hM0.size
  generalize w0.heap.size = nb at hN1' hnw
  have hN1 : Net ρ1 w1 nb (oSt ((List.range 0).map (oPk l)) 0) := hN1'
  have hS0 : SentRel w nb l 0 w1 := ⟨ρ1, C1, hN1⟩
  clear hN1' hN1 C1 C0 hE1 hF1 hM0 hM1
  go_wp2_with fail
  go_loopw [6] (fun i wr => ∃ k : Nat, k ≤ len ∧ i = .int .i64 k ∧ SentRel w nb l k wr) (fun i _ => len - (intOf i).toNat)
  case atStart => exact ⟨0, by omega, rfl, hS0⟩
  case round =>
    obtain ⟨k, hk, rfl, ρ, hC, hN⟩ := hrel
    clear hS0
    by_cases hlt : k < len
    · obtain ⟨b, off, rfl, hb, hc, hsz⟩ := HA.out k (by rw [HL.out]; exact hlt)
      have hgd : l.getD k ByteArray.empty = l[k]'(by rw [HL.out]; exact hlt) := by
        rw [List.getD_eq_getElem?_getD, List.getElem?_eq_getElem]
        rfl
      have hc' := hC.m.cell hc (fun h => h)
      have hrs := range_succ_map (oPk l) k
      have hok : oPk l k = ⟨(k : Int) + 1, k, (k : Int) + 1, (l[k]'(by rw [HL.out]; exact hlt)).data.toList⟩ := by unfold oPk; rw [hgd]
      generalize l[k]'(by rw [HL.out]; exact hlt) = s at hc' hsz hok
      have HOK := Lib.hid hok
      have HRS := Lib.hid hrs
      have hlt' : (k : Int) < (len : Int) := by omega
      have hsz2 : s.size ≤ maxLen := by unfold maxLen; omega
      have HSZ := Lib.hid hsz
      have HSZ2 := Lib.hid hsz2
      clear hc hgd hok hrs hsz hsz2
      go_wp2_with (refine wpList_bytes_of rfl (.tmp 39) 9 45 rfl 5 Try.underlying9 Try.underlying45 Try.underlying5 s rfl HSZ2.out ?_)
      rintro v w2 ⟨hS, hM, hv, hz⟩
      go_wp2_with fail
      have C2 := hC.fresh hM
      have hN2 := hN.keep hM
      refine (send_any ρ w2 nb _ hN2 C2.f (by show (0 : Int) ≤ (k : Int); omega) (by show (k : Int) ≤ 1000000; omega) (by show ((List.range k).map (oPk l)).length ≤ 1000000; simp; omega) (k : Int) ((k : Int) + 1) v s.data.toList.length s.data.toList
        (by rw [Array.length_toList]; have := HSZ.out; simp only [ByteArray.size] at this; omega) hS.shape' (hS.src Try.underlying45 (bcells_one _)) (fun e => by rw [hv] at e; have := hN.lt; simp at e; omega)).mono ?_
      rintro e w3 ⟨rfl, ρ3, hN3', hE3, hF3, hM3⟩
      have C3 := C2.step hE3 hM3 hF3
      have e1 : (oSt ((List.range k).map (oPk l)) k).sent + 1 = (k : Int) + 1 := rfl
      rw [e1] at hN3' ⊢
      have hN3 : Net ρ3 w3 nb (oSt ((List.range (k + 1)).map (oPk l)) (k + 1)) := by
        rw [HRS.out, HOK.out, ← oSt_next]
        exact hN3'
      clear hN3' e1
      go_wp2
      go_roundw
      case rel => exact ⟨k + 1, by omega, by go_num, ρ3, C3, hN3⟩
      case measure => simp [intOf]; omega
    · obtain rfl : k = len := by omega
      have hmk := fun W => make_bools W k (by omega)
      go_wp2_with fail
      have hD : OnceRel w nb wr.heap.size l k (wr.alloc (.cells (Array.replicate k (Value.bool false)) 4)) := by
        have hM := (Mod.refl (fun _ => False) wr).alloc (.cells (Array.replicate k (Value.bool false)) 4)
        have hlt := hN.lt
        refine ⟨ρ.put wr.heap.size (wr.heap.size, 0), _, _, by omega, ⟨hC.m.trans hM (fun _ _ x => x), fun b hb => ?_, (hC.f.mono hM.size).put (by simp) _⟩, ?_, OInv.start l, by simp [HL.out], ?_, put_same _ _ _⟩
        · rw [put_other _ (by have := hC.m.size; omega)]
          exact hC.c b hb
        · rw [HL.out]
          exact hN.other_new hM ((Ext.refl _ _).put (Nat.le_refl _) _)
        · rw [HL.out, List.map_replicate, List.toArray_replicate]
          exact Blk.new wr _ _
      generalize wr.heap.size = db at hD
      generalize wr.alloc (.cells (Array.replicate k (Value.bool false)) 4) = wo at hD
      clear hmk hC hN hlt
      go_loopw [8, 9] (fun left i wr => ∃ (j : Nat) (lf : Int), j ≤ len1 ∧ lf ≤ 50 ∧ i = .int .i64 j ∧ left = .int .i64 lf ∧ OnceRel w nb db l lf wr) (fun _ i _ => len1 - (intOf i).toNat)
      case atStart => exact ⟨0, k, by omega, by omega, rfl, rfl, hD⟩
      case round =>
        obtain ⟨j, lf, hj, hl50, rfl, rfl, ρ, ps, ds, hne, hC, hN, hI, hlf, hB, hcol⟩ := hrel
        clear hD
        by_cases hlt : j < len1
        · obtain ⟨b, off, rfl, hb, hc⟩ := HO.out j (by rw [HLo.out]; exact hlt)
          generalize o[j]'(by rw [HLo.out]; exact hlt) = id at hc
          have hc' := hC.m.cell hc (fun h => h)
          have hlt' : (j : Int) < (len1 : Int) := by omega
          have hps : ps.length ≤ 1000000 := by omega
          clear hc
          have hdl : ds.length = k := by rw [hI.len, HL.out]
          by_cases hin : 1 ≤ id ∧ id ≤ (k : Int)
          · obtain ⟨hi1, hi2⟩ := hin
            obtain ⟨i, rfl⟩ : ∃ i : Nat, id = (i : Int) + 1 := ⟨(id - 1).toNat, by omega⟩
            have hik : i < k := by omega
            have cd := hB.cell i
            have hdi : ∃ x, ds[i]? = some x := ⟨ds[i]'(by omega), List.getElem?_eq_getElem (by omega)⟩
            obtain ⟨x, hdi⟩ := hdi
            have cd' : wr.cell? ⟨db, i, none⟩ = some (.bool x) := by
              rw [cd]
              simp [hdi]
            clear cd
            cases x
            · -- it waits
              obtain ⟨hk1, hpe, hI2⟩ := hI.hit (i := i) (by rw [HL.out]; exact hik) hdi
              obtain ⟨sb, so, hsA, hsb, hsc, hss⟩ := HA.out i (by rw [HL.out]; exact hik)
              subst hsA
              have hgd : (oPk l i).b = (l[i]'(by rw [HL.out]; exact hik)).data.toList := by
                unfold oPk
                simp only
                rw [List.getD_eq_getElem?_getD, List.getElem?_eq_getElem]
                rfl
              have hofr : (oPk l i).fr = (i : Int) := rfl
              have hods : (oPk l i).dst = (i : Int) + 1 := rfl
              generalize l[i]'(by rw [HL.out]; exact hik) = s at hsc hss hgd
              go_wp2_with fail
              refine (deliver_any ρ wr nb _ hN hC.f _ (-1) hps).mono ?_
              rintro e w2 h2
              rcases h2 with ⟨hx, _⟩ | ⟨hx, bv, rfl, ⟨m, bs, hS2, hbs⟩, hV2, hN2', hF2, hM2⟩
              · exact absurd hx (by show ¬ ps.length ≤ pixOf _ ps; omega)
              have e1 : (oSt ps l.length).ps[pixOf ((i : Int) + 1) (oSt ps l.length).ps]'hx = oPk l i := hpe
              rw [e1] at hbs ⊢
              have hbs2 : bs = s.data.toList := by
                rw [hbs, if_neg (by omega), hgd]
              subst hbs2
              have hN2 : Net ρ w2 nb (oSt (ps.eraseIdx (pixOf ((i : Int) + 1) ps)) l.length) := hN2'
              rw [hofr, hods]
              have C2 := hC.step (Ext.refl _ _) hM2 hF2
              have hB2 := hB.mod hM2 (fun ⟨r, hr⟩ => by rw [hcol] at hr; cases hr; exact hne rfl)
              have cd2 : w2.cell? ⟨db, i, none⟩ = some (.bool false) := hM2.cell cd' (fun ⟨r, hr⟩ => by rw [hcol] at hr; cases hr; exact hne rfl)
              have cz2 : w2.frozen? ⟨db, i, none⟩ = false := hB2.free i
              have sc2 := C2.m.cell hsc (fun h => h)
              have q1 : ∀ n, (convert 45 9 bv).run Try.prog (w2.drewN n) = .ok (.string s) (w2.drewN n) := fun n => by
                have := run_string_of Try.underlying45 Try.underlying5 Try.underlying9 (hS2.drewN n)
                simpa using this
              have g1 : ¬ ((i : Int) + 1 < 1) := by omega
              have g2 : ¬ ((k : Int) < (i : Int) + 1) := by omega
              have g3 : (i : Int) < (k : Int) := by omega
              have g4 : (0 : Int) ≤ (i : Int) := by omega
              obtain ⟨bA, bc, rfl⟩ := hS2.shape'
              clear e1 hbs hN2' cd' hsc hgd hofr hods hpe hk1 hdi
              go_wp2_with fail
              go_quiet (fail)
              go_wp2_with fail
              have O3 : OwnMod ρ db w2 ((w2.drewN nq).setCell ⟨db, i, none⟩ (.bool true)) := Mod.setCell (p := ⟨db, i, none⟩) (Mod.drewN (Mod.refl _ w2) nq) (fun _ => ⟨0, hcol⟩) _
              have hN3 := hN2.other O3 (Ext.refl _ _) (Ne.symm hne)
              have hF3 : Fit ρ ((w2.drewN nq).setCell ⟨db, i, none⟩ (.bool true)) := hF2.mono (by simp [World.setCell])
              have C3 := C2.step (Ext.refl _ _) O3 hF3
              have hB3 : Blk ((w2.drewN nq).setCell ⟨db, i, none⟩ (.bool true)) db ((ds.set i true).map Value.bool).toArray 4 := by
                have := (hB2.drewN nq).set i (.bool true)
                simpa [List.map_set] using this
              generalize (w2.drewN nq).setCell ⟨db, i, none⟩ (.bool true) = w3 at hN3 C3 hB3
              have hlen3 : ((ps.eraseIdx (pixOf ((i : Int) + 1) ps)).length : Int) = lf - 1 := by
                rw [List.length_eraseIdx_of_lt (by simpa [oSt] using hx)]
                have : pixOf ((i : Int) + 1) ps < ps.length := by simpa [oSt] using hx
                omega
              clear hx
              generalize ps.eraseIdx (pixOf ((i : Int) + 1) ps) = ps3 at hN3 hI2 hlen3
              have hbnd : ∀ p ∈ (oSt ps3 l.length).ps, p.b.length ≤ 140737488355328 := fun p hp => by
                obtain ⟨i', hi', rfl, _⟩ := hI2.has p hp
                obtain ⟨_, _, _, _, _, hs'⟩ := HA.out i' hi'
                unfold oPk
                simp only
                rw [List.getD_eq_getElem?_getD, List.getElem?_eq_getElem hi', Array.length_toList]
                simp only [Option.getD_some, ByteArray.size] at hs' ⊢
                omega
              have HBN := Lib.hid hbnd
              have HL3 := Lib.hid hlen3
              have hp3 : (oSt ps3 l.length).ps.length ≤ 1000000 := by show ps3.length ≤ 1000000; omega
              have HP3 := Lib.hid hp3
              clear hbnd hlen3 hp3
              refine (packets_any ρ w3 nb _ hN3 HP3.out HBN.out).mono ?_
              rintro e w4 ⟨pv, rfl, hS4, hM4, _⟩
              have C4 := C3.fresh hM4
              have hN4 := hN3.keep hM4
              have hB4 := hB3.mod hM4 (fun h => h)
              obtain ⟨pA, pc, hpe, _⟩ := hS4.shape
              have e5 : (oSt ps3 l.length).ps.length = ps3.length := rfl
              rw [e5] at hpe
              subst hpe
              have e6 : ((ps3.length : Int) != lf - 1) = false := by rw [HL3.out]; simp
              clear e5 hS4
              go_wp2
              go_roundw
              case rel => exact ⟨j + 1, lf - 1, by omega, by omega, by go_num, rfl, ρ, ps3, _, hne, C4, hN4, hI2, HL3.out, hB4, hcol⟩
              case measure => simp [intOf]; omega
            · -- it was delivered
              have hmiss := hI.miss (id := (i : Int) + 1) (.inr (.inr (by rw [show ((i : Int) + 1 - 1).toNat = i by omega]; exact hdi)))
              go_wp2_with fail
              refine (deliver_any ρ wr nb _ hN hC.f _ (-1) hps).mono ?_
              rintro e w2 h2
              rcases h2 with ⟨_, rfl, hM2⟩ | ⟨hx, _⟩
              rotate_left
              · exact absurd hx (by show ¬ pixOf _ ps < ps.length; omega)
              have C2 := hC.fresh hM2
              have hN2 := hN.keep hM2
              have hB2 := hB.mod hM2 (fun h => h)
              have cd2 := hM2.cell cd' (fun h => h)
              have g1 : ¬ ((i : Int) + 1 < 1) := by omega
              have g2 : ¬ ((k : Int) < (i : Int) + 1) := by omega
              have g3 : (i : Int) < (k : Int) := by omega
              have g4 : (0 : Int) ≤ (i : Int) := by omega
              go_wp2
              go_roundw
              case rel => exact ⟨j + 1, lf, by omega, hl50, by go_num, rfl, ρ, ps, ds, hne, C2, hN2, hI, hlf, hB2, hcol⟩
              case measure => simp [intOf]; omega
          · by_cases h1 : id < 1
            · have hmiss := hI.miss (id := id) (.inl h1)
              go_wp2_with fail
              refine (deliver_any ρ wr nb _ hN hC.f _ (-1) hps).mono ?_
              rintro e w2 h2
              rcases h2 with ⟨_, rfl, hM2⟩ | ⟨hx, _⟩
              rotate_left
              · exact absurd hx (by show ¬ pixOf _ ps < ps.length; omega)
              have C2 := hC.fresh hM2
              have hN2 := hN.keep hM2
              have hB2 := hB.mod hM2 (fun h => h)
              clear hin
              go_wp2
              go_roundw
              case rel => exact ⟨j + 1, lf, by omega, hl50, by go_num, rfl, ρ, ps, ds, hne, C2, hN2, hI, hlf, hB2, hcol⟩
              case measure => simp [intOf]; omega
            · have h2 : (k : Int) < id := by omega
              have hmiss := hI.miss (id := id) (.inr (.inl (by rw [HL.out]; exact h2)))
              go_wp2_with fail
              refine (deliver_any ρ wr nb _ hN hC.f _ (-1) hps).mono ?_
              rintro e w2 h2
              rcases h2 with ⟨_, rfl, hM2⟩ | ⟨hx, _⟩
              rotate_left
              · exact absurd hx (by show ¬ pixOf _ ps < ps.length; omega)
              have C2 := hC.fresh hM2
              have hN2 := hN.keep hM2
              have hB2 := hB.mod hM2 (fun h => h)
              clear hin
              go_wp2
              go_roundw
              case rel => exact ⟨j + 1, lf, by omega, hl50, by go_num, rfl, ρ, ps, ds, hne, C2, hN2, hI, hlf, hB2, hcol⟩
              case measure => simp [intOf]; omega
        · go_wp2
          go_ret
          exact ⟨rfl, hC.m⟩

set_option maxRecDepth 100000 in
set_option maxHeartbeats 4000000 in
theorem nonce_out (w : World) (A A1 : Option Addr) (len cap len1 cap1 : Nat) (h : 50 < len ∨ 200 < len1) :
    Calls Try.prog 10 #[.slice A len cap, .slice A1 len1 cap1] w (TrueMod w) := by
  by_cases c1 : 50 < len
  · go_enter Try.func10, Try.ntmps10
    go_wp2_with fail
    refine (nawake_any w).mono ?_
    rintro e w0 ⟨rfl, hM0⟩
    go_wp2
    go_ret
    exact ⟨rfl, hM0⟩
  · have c2 : 200 < len1 := by omega
    clear h
    go_enter Try.func10, Try.ntmps10
    go_wp2_with fail
    refine (nawake_any w).mono ?_
    rintro e w0 ⟨rfl, hM0⟩
    go_wp2
    go_ret
    exact ⟨rfl, hM0⟩

theorem nonce_all (w : World) (A A1 : Option Addr) (len cap len1 cap1 : Nat) (l : List ByteArray) (o : List Int) (hl : l.length = len) (ho : o.length = len1) (hA : TextsAt w A l) (hO : IntsAt .i64 w A1 o) :
    Calls Try.prog 10 #[.slice A len cap, .slice A1 len1 cap1] w (TrueMod w) := by
  by_cases c : 50 < len ∨ 200 < len1
  · exact nonce_out w A A1 len cap len1 cap1 c
  · exact nonce_any w A A1 len cap len1 cap1 l o hl ho (by omega) (by omega) hA hO
end Go.Proofs.Ytpbadpkleiogoaa
