/-
  slices.Delete of one packet.
-/
import Derived.Test.YtpbadpkleiogoaaNetA
namespace Go.Proofs.Ytpbadpkleiogoaa
open Go.RowKit
attribute [local go_sem ↓] Go.wp_at_zero Go.wp_at_succ

theorem pkc_one (l : List (Pk × Value)) (h : ∀ x ∈ l, x.2.oneCell' = true) : ∀ u ∈ l.flatMap pkc, u.oneCell' = true := by
  intro u hu
  obtain ⟨x, hx, hu⟩ := List.mem_flatMap.1 hu
  simp [pkc] at hu
  rcases hu with rfl | rfl | rfl | rfl
  · rfl
  · rfl
  · rfl
  · exact h x hx

def DelPost (w : World) (A : Option Addr) (n c i : Nat) (l : List (Pk × Value)) (e : Ending) (w' : World) : Prop :=
  e = .returned (.slice A (n - 1) c) ∧ Sl w' 90 4 (.slice A (n - 1) c) (n - 1) ((l.eraseIdx i).flatMap pkc) ∧ Mod (fun b => (Value.slice A n c).ownBlock = some b) w w'

theorem zw_one : ∀ u ∈ (Value.agg #[.int .i64 0, .int .i64 0, .int .i64 0, .slice none 0 0]).cells.toList, u.oneCell' = true := by
  intro u hu
  simp [Value.cells] at hu
  rcases hu with rfl | rfl <;> rfl

theorem del_close {w w2 w3 : World} {g off c n i : Nat} {l : List (Pk × Value)} {cur2 : Array Value} {fz : Nat × Nat} (hfz : FreeZ cur2.size fz)
    (hm2 : Mod (fun b => (Value.slice (some ⟨g, off, none⟩) i c).ownBlock = some b) w.drew w2) (q0 : ((l.flatMap pkc).take (i * 4) ++ (l.flatMap pkc).drop ((i + 1) * 4)).length = (n - 1) * 4)
    (q2 : n - 1 ≤ c) (q3 : c ≤ maxLen) (q4 : off + c * 4 ≤ cur2.size)
    (q5 : ∀ j, j < ((l.flatMap pkc).take (i * 4) ++ (l.flatMap pkc).drop ((i + 1) * 4)).length → cur2[off + j]? = ((l.flatMap pkc).take (i * 4) ++ (l.flatMap pkc).drop ((i + 1) * 4))[j]?)
    (hc : ClearPost w2 90 g (off + (n - 1) * 4) cur2 fz w3) : DelPost w (some ⟨g, off, none⟩) n c i l (.returned (.slice (some ⟨g, off, none⟩) (n - 1) c)) w3 := by
  obtain ⟨cur3, r1, r2, r3, r4⟩ := hc
  have e : (l.eraseIdx i).flatMap pkc = (l.flatMap pkc).take (i * 4) ++ (l.flatMap pkc).drop ((i + 1) * 4) := by
    rw [List.eraseIdx_eq_take_drop_succ, List.flatMap_append, flat_take pkc 4 pkc_len, flat_drop pkc 4 pkc_len]
  refine ⟨rfl, ?_, ?_⟩
  · rw [e]
    refine ⟨q0, .inr ⟨g, off, c, cur3, fz, rfl, r1, by rw [r2]; exact hfz, q2, q3, by omega, fun j hj => ?_⟩⟩
    rw [← q5 j hj]
    exact r3 _ (by omega)
  · exact (Mod.of_drew hm2).trans r4 (fun b _ x => by subst x; rfl)

set_option maxRecDepth 100000 in
set_option maxHeartbeats 2000000 in
theorem delete_any (w : World) (A : Option Addr) (n c i : Nat) (l : List (Pk × Value)) (hl : l.length = n) (hn : n ≤ 1000000) (hi : i < n) (hv : Sl w 90 4 (.slice A n c) n (l.flatMap pkc)) (hone : ∀ x ∈ l, x.2.oneCell' = true) :
    Calls Try.prog 41 #[.slice A n c, .int .i64 i, .int .i64 ((i : Int) + 1)] w (DelPost w A n c i l) := by
  obtain ⟨i0, hi0, hz0, hz1, hz2⟩ := info_parts Net.info_waiting
  obtain ⟨g, off, cap, he, h1, h2, h3, h4, h5⟩ := hv.at_ (by omega)
  obtain ⟨rfl, rfl⟩ : A = some ⟨g, off, none⟩ ∧ c = cap := by simpa using he
  have hlt : ((i : Int) == (i : Int) + 1) = false := by simp; omega
  have b0 : (0 : Int) ≤ (i : Int) := by omega
  have b1 : (i : Int) + 1 ≤ (n : Int) := by omega
  have b2 : (n : Int) ≤ (c : Int) := by omega
  unfold maxLen at h2
  clear he
  have b3 : i ≤ c := by omega
  have b4 : i + 1 ≤ n := by omega
  have b5 : i + 1 ≤ c := by omega
  have b6 : (0 : Int) ≤ (i : Int) + 1 := by omega
  by_cases hc : c = i + 1
  · subst hc
    obtain rfl : n = i + 1 := by omega
    have d1 : (i : Int) ≤ (i : Int) + 1 := by omega
    have d2 : ¬ (i + 1 = i) := by omega
    have d3 : i ≤ i + 1 := by omega
    go_enter Try.func41, Try.ntmps41
    go_wp2_with fail
    go_region_law (first
        | (refine step_append_sl (by rfl) _ _ _ _ (by rfl) 90 i0 _ 4 48 Try.underlying85 hi0 hz0 hz1 hz2 rfl _ _ _ (by rfl) (Sl.take (w := w.drew) hv (Nat.le_succ i)) _ 0 [] (by rfl) (Src.empty _ _ _ _ Try.underlying85 _ _) (by unfold maxLen; omega) (by omega) ?_; rintro v2 w2 hp2))
    obtain ⟨hs2, hm2, _, _, hv2⟩ := hp2
    obtain rfl := hv2 _ _ rfl (by omega)
    have q0 := hs2.1
    rcases hs2.2 with ⟨e, _⟩ | ⟨g', off', cap', cur2, fz, e, q1, qz, q2, q3, q4, q5⟩
    · cases e
    · cases e
      go_wp2_with (refine wpList_clear_sl rfl (.tmp 31) 85 rfl 90 i0 _ 4 Try.underlying85 hi0 hz0 rfl zw_one (by omega) g (off + i * 4) 1 1 cur2 rfl (by omega) q1 qz ?c1 ?_)
      case c1 => omega
      intro w3 hcl
      go_wp2
      go_ret
      have hx : (l.flatMap pkc).drop ((i + 1) * 4) = [] := List.drop_of_length_le (Nat.le_of_eq hv.1)
      have e0 : i + 1 - 1 = i := by omega
      refine del_close qz hm2 ?_ (by omega) q3 q4 ?_ hcl
      · rw [hx, e0]
        exact q0
      · rw [hx]
        exact q5
  · go_enter Try.func41, Try.ntmps41
    go_wp2_with fail
    go_region_law (first
        | (refine step_append_sl (by rfl) _ _ _ _ (by rfl) 90 i0 _ 4 48 Try.underlying85 hi0 hz0 hz1 hz2 rfl _ _ _ (by rfl) (Sl.take (w := w.drew) hv (Nat.le_of_lt hi)) _ _ _ (by rfl) (Sl.tail (w := w.drew) Try.underlying85 hv (pkc_one l hone) _) (by unfold maxLen; omega) (by omega) ?_; rintro v2 w2 hp2))
    obtain ⟨hs2, hm2, _, _, hv2⟩ := hp2
    obtain rfl := hv2 _ _ rfl (by omega)
    have hk : i + (n - (i + 1)) = n - 1 := by omega
    rw [hk] at hs2 ⊢
    have q0 := hs2.1
    rcases hs2.2 with ⟨e, _⟩ | ⟨g', off', cap', cur2, fz, e, q1, qz, q2, q3, q4, q5⟩
    · cases e
    · cases e
      have b7 : n - 1 ≤ c := by omega
      have b8 : ¬ c = n - 1 := by omega
      have b9 : ((n - 1 : Nat) : Int) ≤ (n : Int) := by omega
      have b10 : n ≤ c := by omega
      have b11 : n - 1 ≤ n := by omega
      have b12 : 0 < n - (n - 1) := by omega
      have b13 : n - (n - 1) = 1 := by omega
      have B13 := Lib.hid b13
      clear b13
      go_wp2_with (refine wpList_clear_sl rfl (.tmp 31) 85 rfl 90 i0 _ 4 Try.underlying85 hi0 hz0 rfl zw_one (by omega) g (off + (n - 1) * 4) (n - (n - 1)) (c - (n - 1)) cur2 rfl b12 q1 qz ?c1 ?_)
      case c1 => rw [B13.out]; omega
      intro w3 hcl
      go_wp2
      go_ret
      exact del_close qz hm2 q0 q2 q3 q4 q5 hcl
end Go.Proofs.Ytpbadpkleiogoaa
