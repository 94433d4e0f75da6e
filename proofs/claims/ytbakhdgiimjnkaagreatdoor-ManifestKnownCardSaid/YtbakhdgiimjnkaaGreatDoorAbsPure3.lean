/-
  The other operations that change nothing.
-/
import Derived.Test.YtbakhdgiimjnkaaGreatDoorAbsPure2
import Derived.Laws.BytesString
namespace Go.Proofs.YtbakhdgiimjnkaaGreatDoor.Abs

section
variable {P : Program} {φ : Phi} {h : Tr AObj} {w : World}

theorem aUn_ok {op : UnOp} {x x' v : Value} (e : aUn op x = .ok v) (hx : VRel φ x x') : ∃ v', (Op.unary op x').run P w = .ok v' w ∧ VRel φ v v' := by
  unfold aUn at e
  split at e
  · cases hx; cases e
    exact ⟨_, rfl, .int _ _⟩
  · rename_i k n
    cases hx
    obtain ⟨r1, r2⟩ := aInt_ok (P := P) (φ := φ) (w := w) e 0 (by decide)
    refine ⟨v, ?_, r2⟩
    rw [← r1]
    simp [Op.unary, binOp]
  · cases hx; cases e
    exact ⟨_, rfl, .bool _⟩
  · cases e

theorem add_none (b o n : Nat) : (⟨b, o, none⟩ : Addr).add n = ⟨b, o + n, none⟩ := by
  unfold Addr.add
  split
  · rename_i h; subst h; rfl
  · rfl
theorem addA_ok {a r : Addr} {n : Nat} (e : addA a n = .ok r) : a.spot = none ∧ r = ⟨a.block, a.off + n, none⟩ := by
  unfold addA at e
  split at e
  · rename_i hs; cases e; exact ⟨hs, rfl⟩
  · cases e

/-- cells that are read one by one -/
theorem load_many {b base o n : Nat} {c : Array Value} {e : TypeId} {fr : Nat × Nat} {L : Loc} {l cs : List Value} (hb : L.blk = b) (hL : L.base = base) (h1 : w.heap[b]? = some (.cells c e fr)) (hc : CellsAt φ L l c) (hcut : cutN l o n = some cs) :
    ∃ cs', (loadCells ⟨b, base + o, none⟩ n).run P w = .ok ⟨cs'⟩ w ∧ LRel φ cs cs' := by
  subst hb hL
  obtain ⟨hn, rfl⟩ := cutN_some hcut
  have hget : ∀ j, j < n → ∃ v v', l[o + j]? = some v ∧ c[L.base + (o + j)]? = some v' ∧ VRel φ v v' := fun j hj => by
    have hlt : o + j < l.length := by omega
    obtain ⟨v', h2, h3⟩ := hc (o + j) _ (List.getElem?_eq_getElem hlt)
    exact ⟨_, v', List.getElem?_eq_getElem hlt, h2, h3⟩
  refine ⟨(List.range n).map fun j => (c[L.base + (o + j)]?).getD undefV, ?_, ?_, ?_⟩
  · have := run_loadCells (P := P) w ⟨L.blk, L.base + o, none⟩ n (fun j => (c[L.base + (o + j)]?).getD undefV) (fun j hj => by
      obtain ⟨v, v', _, h2, _⟩ := hget j hj
      rw [add_none, cell_of h1, Nat.add_assoc, h2]; rfl)
    simpa using this
  · simp; omega
  · intro i v v' ha hb
    have hi : i < n := by
      rcases Nat.lt_or_ge i n with x | x
      · exact x
      · rw [List.getElem?_take, if_neg (by omega)] at ha; cases ha
    rw [List.getElem?_take, if_pos hi, List.getElem?_drop] at ha
    obtain ⟨u, u', h1', h2, h3⟩ := hget i hi
    rw [h1'] at ha
    cases ha
    simp only [List.getElem?_map, List.getElem?_range hi, Option.map_some, h2, Option.getD_some, Option.some.injEq] at hb
    subst hb
    exact h3

theorem idxN_ok {x x' : Value} {n i : Nat} (e : idxN x n = .ok i) (hx : VRel φ x x') : ∃ k, x' = .int k (Int.ofNat i) ∧ i < n := by
  unfold idxN at e
  split at e
  · obtain ⟨h1, h2⟩ := ifb_no e
    cases h2
    cases hx
    exact ⟨_, rfl, by simpa using h1⟩
  · cases e
theorem bndN_ok {x x' : Value} {n i : Nat} (e : bndN x n = .ok i) (hx : VRel φ x x') : ∃ k, x' = .int k (Int.ofNat i) ∧ i ≤ n := by
  unfold bndN at e
  split at e
  · obtain ⟨h1, h2⟩ := ifb_no e
    cases h2
    cases hx
    exact ⟨_, rfl, by simpa using h1⟩
  · cases e

theorem pIndexAddr_ok {t : TypeId} {a a' i i' v : Value} (e : pIndexAddr P t a i = .ok v) (ha : VRel φ a a') (hi : VRel φ i i') : ∃ v', (Instr.indexAt t a' i').run P w = .ok v' w ∧ VRel φ v v' := by
  unfold pIndexAddr at e
  obtain ⟨u, hu, e1⟩ := Rs.bind_ok e
  have hr := undT_run hu w
  have fin : ∀ (n : Nat) (e : TypeId) (A : Addr), pIndexAddr2 P n e A i = .ok v → ∃ k m s, i' = .int k (Int.ofNat m) ∧ m < n ∧ (sizeOf e).run P w = .ok s w ∧ A.spot = none ∧ v = .pointer (some ⟨A.block, A.off + m * s, none⟩) := by
    intro n e A h1
    obtain ⟨m, h2, h3⟩ := Rs.bind_ok h1
    obtain ⟨s, h4, h5⟩ := Rs.bind_ok h3
    obtain ⟨r, h6, h7⟩ := Rs.bind_ok h5
    cases h7
    obtain ⟨k, h8, h9⟩ := idxN_ok h2 hi
    obtain ⟨h10, rfl⟩ := addA_ok h6
    exact ⟨k, m, s, h8, h9, szT_run h4 w, h10, rfl⟩
  split at e1
  · rename_i n el
    split at e1 <;> first | (cases e1; done) | skip
    rename_i A
    obtain ⟨k, m, s, rfl, hm, hs, hsp, rfl⟩ := fin _ _ _ e1
    cases ha with
    | ptr o hL =>
      have hlt : (0 : Int) ≤ Int.ofNat m ∧ Int.ofNat m < (n : Int) := ⟨by simp, by simpa using hm⟩
      refine ⟨_, ?_, .ptr _ hL⟩
      unfold Instr.indexAt
      simp only [asIntOf, Sem.run_bind, Sem.run_pure, Result.andThen_ok, hr, Instr.sureAddr]
      rw [if_pos hlt]
      simp only [Sem.run_bind, hs, Result.andThen_ok, Sem.run_pure, add_none]
      simp [Nat.add_assoc]
  · rename_i el
    split at e1 <;> first | (cases e1; done) | skip
    rename_i A n c
    obtain ⟨k, m, s, rfl, hm, hs, hsp, rfl⟩ := fin _ _ _ e1
    have hlt : (0 : Int) ≤ Int.ofNat m ∧ Int.ofNat m < (n : Int) := ⟨by simp, by simpa using hm⟩
    have go : ∀ (b o : Nat) (cc : Nat), (Instr.indexAt t (.slice (some ⟨b, o, none⟩) n cc) (.int k (Int.ofNat m))).run P w = .ok (.pointer (some ⟨b, o + m * s, none⟩)) w := by
      intro b o cc
      unfold Instr.indexAt
      simp only [asIntOf, Sem.run_bind, Sem.run_pure, Result.andThen_ok, hr]
      rw [if_pos hlt]
      simp only [Sem.run_bind, hs, Result.andThen_ok, Sem.run_pure, add_none]
      simp
    cases ha with
    | slice o hL hc hn =>
      refine ⟨_, go _ _ _, ?_⟩
      rw [Nat.add_assoc]
      exact .ptr _ hL
    | room hL h1 h2 h3 =>
      refine ⟨_, go _ _ _, ?_⟩
      rw [Nat.add_assoc]
      exact .ptr _ hL
    | full a' hL ho => omega
  · cases e1

theorem pFieldAddr_ok {t : TypeId} {f : Nat} {a a' v : Value} (e : pFieldAddr P t f a = .ok v) (ha : VRel φ a a') : ∃ v', (Instr.fieldAt t a' f).run P w = .ok v' w ∧ VRel φ v v' := by
  unfold pFieldAddr at e
  obtain ⟨u, hu, e1⟩ := Rs.bind_ok e
  have hr := undT_run hu w
  split at e1 <;> first | (cases e1; done) | skip
  unfold pFieldAddr2 at e1
  split at e1 <;> first | (cases e1; done) | skip
  obtain ⟨fl, h1, e2⟩ := Rs.bind_ok e1
  obtain ⟨s, h2, e3⟩ := Rs.bind_ok e2
  obtain ⟨h3, e4⟩ := ifb_no' e3
  obtain ⟨r, h4, e5⟩ := Rs.bind_ok e4
  cases e5
  have hs : s ≠ 0 := by intro hh; subst hh; simp at h3
  obtain ⟨h5, rfl⟩ := addA_ok h4
  have h1 := Rs.of_ok h1
  cases ha with
  | ptr o hL =>
    refine ⟨_, ?_, .ptr _ hL⟩
    unfold Instr.fieldAt
    simp only [Sem.run_bind, hr, Result.andThen_ok, h1, Instr.sureAddr, Sem.run_pure, fieldPlace, szT_run h2 w, if_neg hs, add_none, Nat.add_assoc]

theorem pLoad_ok (hm : HRel φ h w) {t : TypeId} {x x' v : Value} (e : pLoad P h t x = .ok v) (hx : VRel φ x x') : ∃ v', (Instr.loadAt t x').run P w = .ok v' w ∧ VRel φ v v' := by
  unfold pLoad at e
  split at e <;> first | (cases e; done) | skip
  rename_i b o
  obtain ⟨l, h1, e1⟩ := Rs.bind_ok e
  obtain ⟨g, h2, e2⟩ := Rs.bind_ok e1
  cases hx with
  | ptr o hL =>
    rename_i L
    obtain ⟨c, ty, fr, hw, hc⟩ : ∃ c ty fr, w.heap[L.blk]? = some (.cells c ty fr) ∧ CellsAt φ L l c := by
      unfold objCells at h1
      split at h1
      · rename_i hb; cases h1
        obtain ⟨c, fr, a, b, _⟩ := hm.cellsAt hb hL
        exact ⟨c, _, fr, a, b⟩
      · rename_i hb; cases h1
        obtain ⟨c, _, fr, a, b⟩ := constAt hm hb hL
        exact ⟨c, _, fr, a, b⟩
      · cases h1
    have hg := aggT_run h2 w
    unfold Instr.loadAt loadVar
    simp only [Instr.sureAddr, Sem.run_bind, Sem.run_pure, Result.andThen_ok, hg]
    unfold pLoad2 at e2
    rcases ifb_ok e2 with ⟨rfl, e3⟩ | ⟨rfl, e3⟩
    · obtain ⟨n, h3, e4⟩ := Rs.bind_ok e3
      obtain ⟨cs, h4, e5⟩ := Rs.bind_ok e4
      cases e5
      obtain ⟨cs', r1, r2⟩ := load_many (P := P) (w := w) rfl rfl hw hc (Rs.of_ok h4)
      simp only [if_true, Sem.run_bind, szT_run h3 w, Result.andThen_ok, r1, Sem.run_pure]
      exact ⟨_, rfl, .agg (by simpa using r2.1) fun i v v' a b => r2.2 i v v' (by simpa using a) (by simpa using b)⟩
    · have h3 := Rs.of_ok e3
      rw [nth_eq] at h3
      obtain ⟨v', h4, h5⟩ := hc _ _ h3
      simp only [Bool.false_eq_true, if_false, run_load, cell_of hw, h4]
      exact ⟨v', rfl, h5⟩

theorem pIndex_ok {t : TypeId} {a a' i i' v : Value} (e : pIndex P t a i = .ok v) (ha : VRel φ a a') (hi : VRel φ i i') : ∃ v', (Instr.index t a' i').run P w = .ok v' w ∧ VRel φ v v' := by
  unfold pIndex at e
  split at e
  · rename_i s
    obtain ⟨u, hu, e1⟩ := Rs.bind_ok e
    have hr := undT_run hu w
    split at e1 <;> first | (cases e1; done) | skip
    unfold pIndexStr at e1
    split at e1 <;> first | (cases e1; done) | skip
    rename_i m
    obtain ⟨b, h1, e2⟩ := Rs.bind_ok e1
    cases e2
    cases ha
    cases hi
    have h1 := Rs.of_ok h1
    rw [nth_eq] at h1
    refine ⟨_, ?_, .int _ _⟩
    unfold Instr.index
    have hs : s[(Int.ofNat m).toNat]? = some b := by
      have hm : m < s.size := by
        rcases Nat.lt_or_ge m s.data.toList.length with x | x
        · simpa using x
        · rw [List.getElem?_eq_none x] at h1; cases h1
      have : s[m]? = some b := by
        rw [getElem?_pos s m hm]
        have : s.data.toList[m]? = some s[m] := by
          rw [List.getElem?_eq_getElem (by simpa using hm)]
          rfl
        rw [this] at h1
        exact h1
      simpa using this
    simp only [asIntOf, Sem.run_bind, Sem.run_pure, Result.andThen_ok, hr]
    have h0 : (0 : Int) ≤ Int.ofNat m := by simp
    rw [if_pos h0, hs]
    rfl
  · obtain ⟨u, hu, e1⟩ := Rs.bind_ok e
    have hr := undT_run hu w
    split at e1 <;> first | (cases e1; done) | skip
    rename_i cs _ n el
    obtain ⟨m, h1, e2⟩ := Rs.bind_ok e1
    obtain ⟨s, h2, e3⟩ := Rs.bind_ok e2
    obtain ⟨k, rfl, hm⟩ := idxN_ok h1 hi
    cases ha with
    | agg ha1 ha2 =>
      obtain ⟨v', r1, r2⟩ := part_run (w := w) e3 (LRel.of_arr ha1 ha2)
      refine ⟨v', ?_, r2⟩
      have hlt : (0 : Int) ≤ Int.ofNat m ∧ Int.ofNat m < (n : Int) := ⟨by simp, by simpa using hm⟩
      unfold Instr.index
      simp only [asIntOf, Sem.run_bind, Sem.run_pure, Result.andThen_ok, hr]
      rw [if_pos hlt]
      simp only [Sem.run_bind, szT_run h2 w, Result.andThen_ok]
      exact r1
  · cases e

theorem pField_ok {t : TypeId} {f : Nat} {a a' v : Value} (e : pField P t f a = .ok v) (ha : VRel φ a a') : ∃ v', (Instr.field t a' f).run P w = .ok v' w ∧ VRel φ v v' := by
  unfold pField at e
  obtain ⟨u, hu, e1⟩ := Rs.bind_ok e
  have hr := undT_run hu w
  split at e1 <;> first | (cases e1; done) | skip
  obtain ⟨fl, h1, e2⟩ := Rs.bind_ok e1
  have h1 := Rs.of_ok h1
  cases ha with
  | agg ha1 ha2 =>
    obtain ⟨v', r1, r2⟩ := part_run (w := w) e2 (LRel.of_arr ha1 ha2)
    refine ⟨v', ?_, r2⟩
    unfold Instr.field
    simp only [Sem.run_bind, hr, Result.andThen_ok, h1, asAgg, Sem.run_pure]
    exact r1

theorem pExtract_ok {i : Nat} {a a' v : Value} (e : pExtract i a = .ok v) (ha : VRel φ a a') : ∃ v', (Instr.extract a' i).run P w = .ok v' w ∧ VRel φ v v' := by
  unfold pExtract at e
  split at e <;> first | (cases e; done) | skip
  have h1 := Rs.of_ok e
  rw [nth_eq] at h1
  cases ha with
  | tuple ha1 ha2 =>
    obtain ⟨v', r1, r2⟩ := (LRel.of_arr ha1 ha2).get h1
    refine ⟨v', ?_, r2⟩
    unfold Instr.extract
    have : ∀ ys : Array Value, ys.toList[i]? = some v' → ys[i]? = some v' := fun ys hh => by simpa using hh
    simp only [this _ r1]
    rfl

theorem pIface_ok {t : TypeId} {a a' v : Value} (e : pIface P t a = .ok v) (ha : VRel φ a a') : ∃ v', (Instr.makeInterface t a').run P w = .ok v' w ∧ VRel φ v v' := by
  unfold pIface at e
  obtain ⟨u, hu, e1⟩ := Rs.bind_ok e
  have hr := undT_run hu w
  split at e1
  · cases e1
  · rename_i hn
    cases e1
    refine ⟨_, ?_, .iface _ ha⟩
    unfold Instr.makeInterface
    simp only [Sem.run_bind, hr, Result.andThen_ok]
    rfl

theorem pAssert_ok {t xt : TypeId} {ok : Bool} {a a' v : Value} (e : pAssert P t ok a = .ok v) (ha : VRel φ a a') : ∃ v', (Instr.typeAssert a' xt t ok).run P w = .ok v' w ∧ VRel φ v v' := by
  unfold pAssert at e
  split at e <;> first | (cases e; done) | skip
  obtain ⟨u, hu, e1⟩ := Rs.bind_ok e
  have hr := undT_run hu w
  split at e1
  · cases e1
  · obtain ⟨h1, e2⟩ := ifb_no e1
    cases e2
    have ht := Nat.eq_of_beq_eq_true h1
    cases ha with
    | @iface t' v0 v' hv =>
      subst ht
      refine ⟨if ok then .tuple #[v', .bool true] else v', ?_, ?_⟩
      · unfold Instr.typeAssert
        simp only [Sem.run_bind, hr, Result.andThen_ok]
        split <;> simp_all
      · cases ok
        · exact hv
        · exact .tuple rfl fun i x y a b => by
            match i with
            | 0 => simp at a b; subst a b; exact hv
            | 1 => simp at a b; subst a b; exact .bool _
            | n + 2 => simp at a
end
end Go.Proofs.YtbakhdgiimjnkaaGreatDoor.Abs
