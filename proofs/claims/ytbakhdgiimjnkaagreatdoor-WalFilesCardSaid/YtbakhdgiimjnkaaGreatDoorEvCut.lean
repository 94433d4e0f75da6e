/-
  A slice's first ones, at the evaluator.
-/
import Derived.Test.YtbakhdgiimjnkaaGreatDoorEvB
set_option linter.unusedVariables false
set_option linter.unusedSimpArgs false
namespace Go.Proofs.YtbakhdgiimjnkaaGreatDoor.Abs

section
variable {P : Program}
theorem bndN_nat {x m : Nat} (h : x ≤ m) : bndN (.int .i64 (x : Int)) m = .ok x := by
  show ifb (Nat.ble x m) (Rs.ok x) (.no 37 "") = _
  rw [show Nat.ble x m = true by simpa using h]
  rfl
theorem cut_pre {n cap n' : Nat} (h : n' ≤ cap) : cutIx n cap [] [.int .i64 (n' : Int)] [] = .ok (0, n', cap) := by
  show ((Rs.ok cap).bind fun m => (bndN (.int .i64 (n' : Int)) m).bind fun h => (Rs.ok 0).bind fun o => Rs.ok (o, h, m)) = _
  show ((bndN (.int .i64 (n' : Int)) cap).bind fun h => (Rs.ok 0).bind fun o => Rs.ok (o, h, cap)) = _
  rw [bndN_nat h]
  rfl
theorem src_take {h : Tr AObj} {sz b o n n' c c' : Nat} {cs : List Value} (e : srcCells h sz (.slice (some ⟨b, o, none⟩) n c) = .ok (n, cs)) (hn : n' ≤ n) : srcCells h sz (.slice (some ⟨b, o, none⟩) n' c') = .ok (n', cs.take (n' * sz)) := by
  have hm : n' * sz ≤ n * sz := Nat.mul_le_mul_right _ hn
  have key : ∀ l : List Value, (Rs.of 75 (cutN l o (n * sz))).bind (fun cs => Rs.ok (n, cs)) = Rs.ok (n, cs) → (Rs.of 75 (cutN l o (n' * sz))).bind (fun cs => Rs.ok (n', cs)) = Rs.ok (n', cs.take (n' * sz)) := fun l h => by
    rw [cutN_eq] at h ⊢
    by_cases hl : n * sz ≤ l.length - o
    · rw [if_pos hl] at h
      obtain rfl : (l.drop o).take (n * sz) = cs := (Prod.mk.inj (Rs.ok.inj h)).2
      rw [if_pos (by omega), List.take_take, Nat.min_eq_left hm]
      rfl
    · rw [if_neg hl] at h
      cases h
  revert e
  show (match h.get b with
    | some (.cells l _ _ _ _) => (Rs.of 75 (cutN l o (n * sz))).bind fun cs => Rs.ok (n, cs)
    | some (.const l _) => (Rs.of 75 (cutN l o (n * sz))).bind fun cs => Rs.ok (n, cs)
    | _ => .no 75 "") = _ → (match h.get b with
    | some (.cells l _ _ _ _) => (Rs.of 75 (cutN l o (n' * sz))).bind fun cs => Rs.ok (n', cs)
    | some (.const l _) => (Rs.of 75 (cutN l o (n' * sz))).bind fun cs => Rs.ok (n', cs)
    | _ => .no 75 "") = _
  split
  · exact key _
  · exact key _
  · intro h; cases h
theorem slice1_eq {h : Tr AObj} {t e : TypeId} {v : Value} {lo hi mx : List Value} (hu : P.underlying t = some (.slice e)) : pSlice1 P h t v lo hi mx = pSlice2 P h e v lo hi mx := by
  unfold pSlice1
  rw [undT_eq, hu]
  rfl
theorem open_cap {st : St} {b o n sz e : Nat} {l : List Value} (hb : st.heap.get b = some (.cells l e sz true (0, 0))) (h0 : 0 < sz) (a : o % sz = 0) (hl : o + n * sz ≤ l.length ∧ o < l.length) : openCap st.heap ⟨b, o, none⟩ sz = .ok ((l.length - o) / sz) ∧ n ≤ (l.length - o) / sz := by
  refine ⟨?_, (Nat.le_div_iff_mul_le h0).2 (by omega)⟩
  show (match st.heap.get b with
    | some (.cells l _ s' true _) => ifb (Nat.beq sz s') ((ifb (Nat.blt 0 sz) (Rs.ok ((l.length - o) / sz)) (Rs.no 55 ""))) (Rs.no 55 "")
    | _ => Rs.no 55 "") = _
  rw [hb]
  show ifb (Nat.beq sz sz) ((ifb (Nat.blt 0 sz) (Rs.ok ((l.length - o) / sz)) (Rs.no 55 ""))) (Rs.no 55 "") = _
  rw [Nat.beq_refl, show Nat.blt 0 sz = true by simpa using h0]
  rfl
/-- the first ones of a slice -/
theorem Vec.pre {st : St} {t e : TypeId} {sz n n' : Nat} {v : Value} {cs : List Value} (hu : P.underlying t = some (.slice e)) (hsz : szT P e = .ok sz) (h0 : 0 < sz) (hv : Vec st e sz v n cs) (hn : n < open_) (h : n' ≤ n) :
    ∃ a c, pSlice1 P st.heap t v [] [.int .i64 (n' : Int)] [] = .ok (.slice a n' c) ∧ srcCells st.heap sz (.slice a n' c) = .ok (n', cs.take (n' * sz)) ∧ ∀ x, inBlk (.slice a n' c) x → inBlk v x := by
  rw [slice1_eq hu]
  cases hv with
  | nil =>
    obtain rfl : n' = 0 := by omega
    refine ⟨none, 0, ?_, ?_, fun x hx => hx⟩
    · show (cutIx 0 0 [] [.int .i64 ((0 : Nat) : Int)] []).bind (fun _ => (szT P e).bind fun _ => Rs.ok (Value.slice none 0 0)) = _
      rw [cut_pre (Nat.le_refl _), hsz]
      rfl
    · rw [Nat.zero_mul]
      rfl
  | @full a _ _ hs =>
    obtain ⟨b, o, sp⟩ := a
    cases sp with
    | some _ => cases hs
    | none =>
      refine ⟨some ⟨b, o, none⟩, n, ?_, src_take hs h, fun x ⟨o', m, c, e⟩ => by cases e; exact ⟨_, _, _, rfl⟩⟩
      show (szT P e).bind (fun s => ifb (Nat.blt n open_) (pSliceKnown ⟨b, o, none⟩ s n n [] [.int .i64 (n' : Int)] []) (pSliceOpen st.heap ⟨b, o, none⟩ s n n [] [.int .i64 (n' : Int)] [])) = _
      rw [hsz]
      show ifb (Nat.blt n open_) (pSliceKnown ⟨b, o, none⟩ sz n n [] [.int .i64 (n' : Int)] []) _ = _
      rw [ifb_blt, if_pos hn]
      unfold pSliceKnown
      rw [cut_pre h]
      show ifb (Nat.beq n 0) (Rs.ok (Value.slice (some ⟨b, o, none⟩) n' n)) (sliceV ⟨b, o, none⟩ sz 0 n' n) = _
      rw [show sliceV ⟨b, o, none⟩ sz 0 n' n = Rs.ok (Value.slice (some ⟨b, o, none⟩) n' n) by
        show Rs.ok (Value.slice (some ⟨b, o + 0 * sz, none⟩) n' n) = _
        rw [Nat.zero_mul]; rfl]
      cases Nat.beq n 0 <;> rfl
  | @room b o _ l _ hb ho hl hc =>
    refine ⟨some ⟨b, o, none⟩, open_, ?_, src_take (c := open_) (by rw [src_room hb hl.1, hc]) h, fun x ⟨o', m, c, e⟩ => by cases e; exact ⟨_, _, _, rfl⟩⟩
    obtain ⟨q1, q2⟩ := open_cap hb h0 ho hl
    show (szT P e).bind (fun s => ifb (Nat.blt open_ open_) (pSliceKnown ⟨b, o, none⟩ s n open_ [] [.int .i64 (n' : Int)] []) (pSliceOpen st.heap ⟨b, o, none⟩ s n open_ [] [.int .i64 (n' : Int)] [])) = _
    rw [hsz]
    show ifb (Nat.blt open_ open_) (pSliceKnown ⟨b, o, none⟩ sz n open_ [] [.int .i64 (n' : Int)] []) (pSliceOpen st.heap ⟨b, o, none⟩ sz n open_ [] [.int .i64 (n' : Int)] []) = _
    rw [ifb_blt, if_neg (Nat.lt_irrefl _)]
    unfold pSliceOpen
    rw [q1]
    show (cutIx n ((l.length - o) / sz) [] [.int .i64 (n' : Int)] []).bind (fun x => sliceV ⟨b, o, none⟩ sz x.1 (x.2.1 - x.1) open_) = _
    rw [cut_pre (by omega)]
    show Rs.ok (Value.slice (some ⟨b, o + 0 * sz, none⟩) n' open_) = _
    rw [Nat.zero_mul]
    rfl
end
end Go.Proofs.YtbakhdgiimjnkaaGreatDoor.Abs
