/-
  Conversions, parts, what is built, what is looked up.
-/
import Derived.Test.YtbakhdgiimjnkaaGreatDoorAbsPure3
namespace Go.Proofs.YtbakhdgiimjnkaaGreatDoor.Abs

section
variable {P : Program} {φ : Phi} {h : Tr AObj} {w : World}

theorem optN_ok {l l' : List Value} {d n i : Nat} (e : optN l d n = .ok i) (hl : LRel φ l l') : (l = [] ∧ l' = [] ∧ i = d) ∨ (∃ k x r r', l = x :: r ∧ l' = .int k (Int.ofNat i) :: r' ∧ i ≤ n) := by
  unfold optN at e
  split at e
  · cases e
    have : l' = [] := List.length_eq_zero_iff.1 hl.1.symm
    exact .inl ⟨rfl, this, rfl⟩
  · rename_i x r
    cases l' with
    | nil => have := hl.1; simp at this
    | cons x' r' =>
      have hx : VRel φ x x' := hl.2 0 x x' rfl rfl
      obtain ⟨k, rfl, hi⟩ := bndN_ok e hx
      exact .inr ⟨k, x, r, r', rfl, rfl, hi⟩
theorem bound_run {x v : Value} {n i : Nat} (e : bndN x n = .ok i) (hx : VRel φ x v) (n' : Nat) (hn : n ≤ n') (code : BoundsCode) : (Instr.sliceBound v n' code).run P w = .ok i w := by
  obtain ⟨k, rfl, hi⟩ := bndN_ok e hx
  unfold Instr.sliceBound
  simp only [asIntOf, Sem.run_bind, Sem.run_pure, Result.andThen_ok]
  have : (0 : Int) ≤ Int.ofNat i ∧ Int.ofNat i ≤ (n' : Int) := ⟨by simp, by simp; omega⟩
  rw [if_pos this]
  simp
theorem lo_run {low : Option Value} {l : List Value} {i n : Nat} (e : optN l 0 n = .ok i) (hl : LRel φ l low.toList) :
    (low = none ∧ i = 0) ∨ ∃ v, low = some v ∧ ∀ code, (Instr.sliceBound v n code).run P w = .ok i w := by
  cases low with
  | none =>
    obtain rfl : l = [] := List.length_eq_zero_iff.1 hl.1
    cases e
    exact .inl ⟨rfl, rfl⟩
  | some v =>
    cases l with
    | nil => have := hl.1; simp at this
    | cons x r => exact .inr ⟨v, rfl, fun code => bound_run e (hl.2 0 x v rfl rfl) n (Nat.le_refl _) code⟩
/-- the bounds of a part, where the model's capacity is at least what the evaluator knows of -/
theorem cutIx_run {isS : Bool} {len cap cap' : Nat} {low high max : Option Value} {lo hi mx : List Value} {o hh m : Nat} (e : cutIx len cap lo hi mx = .ok (o, hh, m)) (hlo : LRel φ lo low.toList) (hhi : LRel φ hi high.toList) (hmx : LRel φ mx max.toList)
    (hlen : len ≤ cap') (hcap : cap ≤ cap') :
    ∃ m', (Instr.sliceBounds isS len cap' low high max).run P w = .ok (o, hh, m') w ∧ (max = none → m' = cap' ∧ m = cap ∧ mx = []) ∧ (max ≠ none → m' = m ∧ m ≤ cap) ∧ o ≤ hh ∧ hh ≤ m' := by
  unfold cutIx at e
  obtain ⟨m1, h1, e1⟩ := Rs.bind_ok e
  obtain ⟨h2, h3, e2⟩ := Rs.bind_ok e1
  obtain ⟨o1, h4, e3⟩ := Rs.bind_ok e2
  cases e3
  have hbl : ∀ (x : Value) (n i : Nat), bndN x n = .ok i → i ≤ n := by
    intro x n i hb
    unfold bndN at hb
    split at hb
    · obtain ⟨a, b⟩ := ifb_no hb; cases b; simpa using a
    · cases hb
  have olo : ∀ n, optN lo 0 n = .ok o → o ≤ n := by
    intro n hn
    unfold optN at hn
    split at hn
    · cases hn; omega
    · exact hbl _ _ _ hn
  cases max with
  | none =>
    obtain rfl : mx = [] := List.length_eq_zero_iff.1 hmx.1
    have hm : m = cap := by cases h1; rfl
    subst hm
    refine ⟨cap', ?_, fun _ => ⟨rfl, rfl, rfl⟩, fun x => absurd rfl x, olo _ h4, ?_⟩
    · unfold Instr.sliceBounds
      cases high with
      | none =>
        obtain rfl : hi = [] := List.length_eq_zero_iff.1 hhi.1
        cases h3
        rcases lo_run (P := P) (w := w) h4 hlo with ⟨rfl, rfl⟩ | ⟨v, rfl, hv⟩
        · rfl
        · simp [hv]
      | some v =>
        cases hi with
        | nil => have := hhi.1; simp at this
        | cons x r =>
          have b1 := fun code => bound_run (P := P) (w := w) h3 (hhi.2 0 x v rfl rfl) cap' hcap code
          rcases lo_run (P := P) (w := w) h4 hlo with ⟨rfl, rfl⟩ | ⟨v, rfl, hv⟩
          · simp [b1]
          · simp [b1, hv]
    · cases hi with
      | nil => cases h3; omega
      | cons x r => have := hbl x _ _ h3; omega
  | some vm =>
    cases mx with
    | nil => have := hmx.1; simp at this
    | cons xm rm =>
      have h1' : bndN xm cap = .ok m := h1
      have hmc := hbl _ _ _ h1'
      have b1 := fun code => bound_run (P := P) (w := w) h1' (hmx.2 0 xm vm rfl rfl) cap' hcap code
      cases hi with
      | nil => cases h3
      | cons x r =>
        cases high with
        | none => have := hhi.1; simp at this
        | some v =>
          have b2 := fun code => bound_run (P := P) (w := w) h3 (hhi.2 0 x v rfl rfl) m (Nat.le_refl _) code
          refine ⟨m, ?_, fun x => (by cases x), fun _ => ⟨rfl, hmc⟩, olo _ h4, hbl _ _ _ h3⟩
          unfold Instr.sliceBounds
          rcases lo_run (P := P) (w := w) h4 hlo with ⟨rfl, rfl⟩ | ⟨v, rfl, hv⟩
          · simp [b1, b2]
          · simp [b1, b2, hv]

theorem sliceV_ok {a : Addr} {s o n c : Nat} {v : Value} (e : sliceV a s o n c = .ok v) : a.spot = none ∧ v = .slice (some ⟨a.block, a.off + o * s, none⟩) n c := by
  obtain ⟨r, h1, h2⟩ := Rs.bind_ok e
  cases h2
  obtain ⟨h3, rfl⟩ := addA_ok h1
  exact ⟨h3, rfl⟩

theorem sliceU {t e : TypeId} (hu : P.underlying t = some (.slice e)) {a : Option Addr} {len cap o hh m s : Nat} {low high max : Option Value} (hb : (Instr.sliceBounds true len cap low high max).run P w = .ok (o, hh, m) w) (hs : (sizeOf e).run P w = .ok s w) :
    (Instr.slice t (.slice a len cap) low high max).run P w = .ok (.slice (if m = o then a else a.map (·.add (o * s))) (hh - o) (m - o)) w := by
  unfold Instr.slice
  simp [run_underlying hu, hb, hs]
theorem sliceAt_eq {t e : TypeId} (hu : P.underlying t = some (.slice e)) (x : Value) (low high max : Option Value) : (Instr.sliceAt t x low high max).run P w = (Instr.slice t x low high max).run P w := by
  unfold Instr.sliceAt
  simp [run_underlying hu]

theorem known_ok {b o0 s n c : Nat} {lo hi mx : List Value} {v : Value} {L : Loc} {low high max : Option Value} (hL : φ b = some L) (hc : c < open_) (e : pSliceKnown ⟨b, o0, none⟩ s n c lo hi mx = .ok v)
    (hlo : LRel φ lo low.toList) (hhi : LRel φ hi high.toList) (hmx : LRel φ mx max.toList) (hn : n ≤ c) (isS : Bool) :
    ∃ o hh m, (Instr.sliceBounds isS n c low high max).run P w = .ok (o, hh, m) w ∧ VRel φ v (.slice (if m = o then some ⟨L.blk, L.base + o0, none⟩ else some ⟨L.blk, L.base + o0 + o * s, none⟩) (hh - o) (m - o)) := by
  obtain ⟨⟨o, hh, m⟩, h1, h2⟩ := Rs.bind_ok e
  obtain ⟨m', r1, r2, r3, r4, r5⟩ := cutIx_run (P := P) (w := w) (isS := isS) h1 hlo hhi hmx hn (Nat.le_refl _)
  have hm : m' = m ∧ m ≤ c := by
    cases max with
    | none => obtain ⟨a, b, _⟩ := r2 rfl; omega
    | some x => exact r3 (by simp)
  obtain ⟨rfl, hmc⟩ := hm
  refine ⟨o, hh, m', r1, ?_⟩
  rcases ifb_ok h2 with ⟨e1, e2⟩ | ⟨e1, e2⟩
  · cases e2
    have : m' = o := Nat.eq_of_beq_eq_true e1
    rw [if_pos this]
    exact .slice _ hL (by simp only; omega) (by simp only; omega)
  · obtain ⟨_, rfl⟩ := sliceV_ok e2
    have : m' ≠ o := Nat.ne_of_beq_eq_false e1
    rw [if_neg this, Nat.add_assoc]
    exact .slice _ hL (by simp only; omega) (by simp only; omega)

theorem pSlice_ok (hm : HRel φ h w) {t : TypeId} {a a' v : Value} {lo hi mx : List Value} {low high max : Option Value} (e : pSlice1 P h t a lo hi mx = .ok v) (ha : VRel φ a a')
    (hlo : LRel φ lo low.toList) (hhi : LRel φ hi high.toList) (hmx : LRel φ mx max.toList) : ∃ v', (Instr.sliceAt t a' low high max).run P w = .ok v' w ∧ VRel φ v v' := by
  unfold pSlice1 at e
  obtain ⟨u, hu, e1⟩ := Rs.bind_ok e
  have hU := undT_ok hu
  have hr := undT_run hu w
  split at e1
  · split at e1 <;> first | (cases e1; done) | skip
    rename_i s
    unfold pSliceStr at e1
    split at e1 <;> first | (cases e1; done) | skip
    obtain ⟨⟨o, hh, m⟩, h1, h2⟩ := Rs.bind_ok e1
    cases h2
    cases ha
    obtain rfl : max = none := by cases max with | none => rfl | some x => have := hmx.1; simp at this
    have hsz : s.data.toList.length = s.size := Array.length_toList (xs := s.data)
    rw [hsz] at h1
    obtain ⟨m', r1, _⟩ := cutIx_run (P := P) (w := w) (isS := false) h1 hlo hhi (mx := []) (max := none) (.nil φ) (Nat.le_refl _) (Nat.le_refl _)
    refine ⟨.string (s.extract o hh), ?_, ?_⟩
    · unfold Instr.sliceAt Instr.slice
      simp [hr, r1]
    · have : mkStr ((s.data.toList.take hh).drop o) = .string (s.extract o hh) := by
        unfold mkStr
        congr 1
        apply ByteArray.ext
        apply Array.ext'
        simp [List.drop_take]
      rw [this]
      exact .string _
  · rename_i el
    rw [sliceAt_eq hU]
    unfold pSlice2 at e1
    split at e1
    · obtain ⟨⟨o, hh, m⟩, h1, e2⟩ := Rs.bind_ok e1
      obtain ⟨s, h2, e3⟩ := Rs.bind_ok e2
      cases e3
      cases ha
      obtain ⟨m', r1, r2, r3, r4, r5⟩ := cutIx_run (P := P) (w := w) (isS := true) h1 hlo hhi hmx (Nat.le_refl _) (Nat.le_refl _)
      have hm0 : m' = 0 := by
        cases max with
        | none => exact (r2 rfl).1
        | some x => obtain ⟨a, b⟩ := r3 (by simp); omega
      refine ⟨_, sliceU hU r1 (szT_run h2 w), ?_⟩
      obtain rfl : hh = 0 := by omega
      obtain rfl : o = 0 := by omega
      subst hm0
      exact .nilSlice
    · rename_i A n c
      obtain ⟨s, h1, e2⟩ := Rs.bind_ok e1
      rcases ifb_ok e2 with ⟨hc, e3⟩ | ⟨hc, e3⟩
      · have hc' : c < open_ := by simpa using hc
        cases ha with
        | @slice b _ _ L o hL _ hn =>
          obtain ⟨o', hh, m, r1, r2⟩ := known_ok (P := P) (w := w) hL hc' e3 hlo hhi hmx hn true
          refine ⟨_, sliceU hU r1 (szT_run h1 w), ?_⟩
          simpa [add_none] using r2
        | room => exact absurd hc' (by simp)
        | full => exact absurd hc' (by simp)
      · have hc' : ¬ c < open_ := by
          intro hh
          have : c.blt open_ = true := by simpa using hh
          rw [this] at hc; cases hc
        unfold pSliceOpen at e3
        obtain ⟨cap, h2, e4⟩ := Rs.bind_ok e3
        obtain ⟨⟨o, hh, m⟩, h3, e5⟩ := Rs.bind_ok e4
        have hs := szT_run h1 w
        unfold openCap at h2
        split at h2 <;> first | (cases h2; done) | skip
        rename_i l ty s' fz hb
        obtain ⟨h4, h5⟩ := ifb_no h2
        obtain ⟨h6, h7⟩ := ifb_no h5
        have hss : s = s' := Nat.eq_of_beq_eq_true h4
        subst hss
        have hs0 : 0 < s := by simpa using h6
        have hcap : cap = (l.length - A.off) / s := by cases h7; rfl
        clear h2 h5 h6 h7 h4
        cases ha with
        | slice o' hL hcc hn => exact absurd hcc hc'
        | @room b _ c' j L hL hs' hjc hn =>
          obtain ⟨cs, fr, hw, _, _, _, hop⟩ := hm.cellsAt hb hL
          obtain ⟨rfl, _, hsz, hll, _⟩ := hop rfl
          simp only at hcap
          have hle : cap ≤ c' := by
            rw [hcap]
            refine Nat.le_trans (Nat.div_le_div_right (c := L.s) (show l.length - j * L.s ≤ c' * L.s from ?_)) (Nat.le_of_eq (Nat.mul_div_cancel c' hs0))
            rw [← hjc, Nat.add_mul] at hll
            omega
          obtain ⟨m', r1, r2, r3, r4, r5⟩ := cutIx_run (P := P) (w := w) (isS := true) h3 hlo hhi hmx hn hle
          refine ⟨_, sliceU hU r1 hs, ?_⟩
          split at e5
          · obtain rfl : max = none := by cases max with | none => rfl | some x => have := hmx.1; simp at this
            obtain ⟨rfl, _, _⟩ := r2 rfl
            obtain ⟨_, rfl⟩ := sliceV_ok e5
            simp only
            by_cases hmo : m' = o
            · rw [if_pos hmo]
              obtain rfl : hh = o := by omega
              subst hmo
              simp only [Nat.sub_self]
              exact .full _ hL (by rw [← hjc, Nat.add_mul])
            · rw [if_neg hmo]
              simp only [Option.map_some, add_none]
              rw [← Nat.add_mul, Nat.add_assoc, ← Nat.add_mul]
              exact .room hL hs0 (by omega) (by omega)
          · rename_i hne
            obtain ⟨e6, e7⟩ := ifb_no e5
            simp only [Bool.and_eq_true] at e6
            have hmo2 : m < open_ := by simpa using e6.2
            have hmax : max ≠ none := by
              intro hx; subst hx
              exact hne (List.length_eq_zero_iff.1 hmx.1)
            obtain ⟨rfl, _⟩ := r3 hmax
            rcases ifb_ok e7 with ⟨e8, e9⟩ | ⟨e8, e9⟩
            · cases e9
              have : m' = o := Nat.eq_of_beq_eq_true e8
              rw [if_pos this]
              exact .slice _ hL (by simp only at hmo2 ⊢; omega) (by simp only; omega)
            · obtain ⟨_, rfl⟩ := sliceV_ok e9
              have : m' ≠ o := Nat.ne_of_beq_eq_false e8
              rw [if_neg this]
              simp only [Option.map_some, add_none]
              rw [Nat.add_assoc]
              exact .slice _ hL (by omega) (by omega)
        | @full b o' L a' hL ho =>
          obtain ⟨cs, fr, hw, _, _, _, hop⟩ := hm.cellsAt hb hL
          obtain ⟨rfl, _, hsz, hll, _⟩ := hop rfl
          simp only at hcap
          have h0 : cap = 0 := by
            rw [hcap, ho, show l.length - L.cap * L.s = 0 by omega]
            exact Nat.zero_div _
          subst h0
          obtain ⟨m', r1, r2, r3, r4, r5⟩ := cutIx_run (P := P) (w := w) (isS := true) h3 hlo hhi hmx (Nat.le_refl 0) (Nat.le_refl 0)
          refine ⟨_, sliceU hU r1 hs, ?_⟩
          split at e5
          · obtain rfl : max = none := by cases max with | none => rfl | some x => have := hmx.1; simp at this
            obtain ⟨rfl, _, _⟩ := r2 rfl
            obtain ⟨_, rfl⟩ := sliceV_ok e5
            obtain rfl : hh = 0 := by omega
            obtain rfl : o = 0 := by omega
            simp only [Nat.zero_mul, Nat.add_zero, Nat.sub_self]
            exact .full _ hL ho
          · obtain ⟨e6, _⟩ := ifb_no e5
            simp at e6
    · cases e1
  · rename_i n el
    split at e1 <;> first | (cases e1; done) | skip
    rename_i A
    obtain ⟨s, h1, e2⟩ := Rs.bind_ok e1
    cases ha with
    | @ptr b L o hL =>
      obtain ⟨h2, e3⟩ := ifb_no e2
      have hn : n < open_ := by simpa using h2
      obtain ⟨o', hh, m, r1, r2⟩ := known_ok (P := P) (w := w) hL hn e3 hlo hhi hmx (Nat.le_refl _) false
      refine ⟨_, ?_, r2⟩
      unfold Instr.sliceAt
      simp only [Sem.run_bind, hr, Result.andThen_ok, Instr.sureAddr, Sem.run_pure, r1, szT_run h1 w, add_none]
      split <;> rfl
  · cases e1
end
end Go.Proofs.YtbakhdgiimjnkaaGreatDoor.Abs
