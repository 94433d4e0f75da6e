/-
  Appends: the evaluator's word holds.
-/
import Derived.Test.YtbakhdgiimjnkaaGreatDoorAbsEff6
namespace Go.Proofs.YtbakhdgiimjnkaaGreatDoor.Abs
section
variable {P : Program} {φ : Phi} {st : St} {w : World} {β : Type}

theorem srcCells_len {h : Tr AObj} {s n : Nat} {x : Value} {cs : List Value} (e : srcCells h s x = .ok (n, cs)) : cs.length = n * s := by
  unfold srcCells at e
  split at e <;> first | (cases e; done) | skip
  · cases e; simp
  · split at e <;> first | (cases e; done) | skip
    all_goals
      obtain ⟨q, h1, h2⟩ := Rs.bind_ok e
      cases h2
      obtain ⟨_, rfl⟩ := cutN_some (Rs.of_ok h1)
      simp
      omega
  · obtain ⟨h1, h2⟩ := ifb_no e
    cases h2
    have hs : s = 1 := Nat.eq_of_beq_eq_true h1
    rw [hs, lenN_eq, byteCells_eq]
    simp
theorem srcCells_n {h : Tr AObj} {s n c b o : Nat} {q : Nat × List Value} (e : srcCells h s (.slice (some ⟨b, o, none⟩) n c) = .ok q) : q.1 = n := by
  unfold srcCells at e
  simp only at e
  split at e <;> first | (cases e; done) | skip
  all_goals
    obtain ⟨_, _, h2⟩ := Rs.bind_ok e
    cases h2
    rfl

theorem appSrc_ok (hm : HRel φ st.heap w) {z : Value} (hz : Flat z) {ts : Array TypeId} {t : TypeId} {xt : List TypeId} (hts : ts.toList = t :: xt) {sz b m : Nat} {nw : List Value} {x x' : Value}
    (e : appSrc P st.heap sz (cellsOf z) xt x = .ok (m, nw)) (hlim : m * b ≤ 1073741824) (hlen : (cellsOf z).length = sz) (hx : VRel φ x x') : ∃ new, Src P w ts sz b z x' m new ∧ LRel φ nw new ∧ nw.length = m * sz := by
  have src : srcCells st.heap sz x = .ok (m, nw) → ∃ new, ((∀ d, (Builtin.lenOf x').run P { w with drawn := d } = .ok m { w with drawn := d }) ∧ ∀ d, (Builtin.firstCells sz m x').run P { w with drawn := d } = .ok ⟨new⟩ { w with drawn := d }) ∧ LRel φ nw new ∧ nw.length = m * sz := by
    intro h
    obtain ⟨k1, k2⟩ := srcCells_ok (P := P) hm h hx
    obtain ⟨c, k3, k4⟩ := k2 m (Nat.le_refl _)
    have hl := srcCells_len h
    rw [List.take_of_length_le (by omega)] at k4
    exact ⟨c, ⟨fun d => k1 _, k3⟩, k4, hl⟩
  unfold appSrc at e
  cases xt with
  | nil =>
    obtain ⟨new, ⟨h1, h2⟩, h3⟩ := src e
    refine ⟨new, .none ?_ h1 h2, h3⟩
    have : ts[1]? = ts.toList[1]? := by simp
    rw [this, hts]; rfl
  | cons u us =>
    have hu1 : ts[1]? = some u := by
      have : ts[1]? = ts.toList[1]? := by simp
      rw [this, hts]; rfl
    obtain ⟨ud, hu, e1⟩ := Rs.bind_ok e
    split at e1
    · split at e1 <;> first | (cases e1; done) | skip
      obtain ⟨h1, h2⟩ := ifb_no e1
      rw [natK_eq] at h2
      cases h2
      cases hx
      exact ⟨_, .zeros u _ _ hu1 (undT_ok hu) rfl (by simpa using h1) hlim rfl, reps_rel hz _, by rw [reps_length, hlen]⟩
    · rename_i hne
      obtain ⟨new, ⟨h1, h2⟩, h3⟩ := src e1
      exact ⟨new, .some u ud hu1 (undT_ok hu) (fun k hk => hne k hk) h1 h2, h3⟩

/-- A BLOCK IS FORGOTTEN. -/
theorem Post.kill (hS : SRel φ st w) (b : Nat) : Post φ st w φ ⟨st.heap.del b, st.next⟩ w :=
  ⟨⟨⟨fun c d x y L M h1 h2 h3 h4 h5 => hS.mem.inj c d x y L M (Tr.get_del h1).2 (Tr.get_del h2).2 h3 h4 h5, fun c x h1 => hS.mem.obj c x (Tr.get_del h1).2⟩, hS.fresh, hS.globals⟩, φ.le_refl,
    ⟨Nat.le_refl _, rfl, rfl, rfl, fun _ _ hn => ⟨rfl, fun c x L h1 h2 h3 => FrF.own hn c x L (Tr.get_del h1).2 h2 h3⟩⟩, Nat.le_refl _, fun _ _ => rfl⟩

/-- A BLOCK GOES ON UNDER A NEW NAME. -/
theorem Post.move {b : Nat} {x y : AObj} {L L' : Loc} {w' : World} (hS : SRel φ st w) (hx : st.heap.get b = some x) (hc : x.isConst = false) (hL : φ b = some L) (hL' : L'.blk = L.blk)
    (hw : w'.heap.size = w.heap.size ∧ w'.os = w.os ∧ w'.tape = w.tape ∧ w'.output = w.output) (ho : ∀ i, i ≠ L.blk → w'.heap[i]? = w.heap[i]?) (hy : ∃ o, w'.heap[L.blk]? = some o ∧ ∀ ψ : Phi, φ.le ψ → ORel ψ L' y o) :
    Post φ st w (φ.add st.next L') ⟨(st.heap.del b).set st.next y, st.next + 1⟩ w' := by
  have hle : φ.le (φ.add st.next L') := Phi.add_le (hS.fresh _ (Nat.le_refl _))
  have other : ∀ c z M, c ≠ b → st.heap.get c = some z → φ c = some M → M.blk ≠ L.blk := fun c z M n h1 h2 e => n (hS.mem.inj c b _ _ M L h1 hx h2 hL e)
  refine ⟨⟨⟨?_, ?_⟩, ?_, fun g hg => hle _ _ (hS.globals g hg)⟩, hle, ⟨by omega, hw.2.1, hw.2.2.1, hw.2.2.2, ?_⟩, Nat.le_succ _, fun b hb => by simp only [Phi.add]; rw [if_neg (Nat.ne_of_lt hb)]⟩
  · intro c d u v M N hb hc hM hN hMN
    rcases Tr.get_set hb with ⟨rfl, _⟩ | ⟨n1, g1⟩ <;> rcases Tr.get_set hc with ⟨rfl, _⟩ | ⟨n2, g2⟩
    · rfl
    · rw [Phi.add_same] at hM
      obtain rfl := Option.some.inj hM
      simp only [Phi.add, if_neg n2] at hN
      exact absurd (hMN.symm.trans hL') (other d _ N (Tr.get_del g2).1 (Tr.get_del g2).2 hN)
    · rw [Phi.add_same] at hN
      obtain rfl := Option.some.inj hN
      simp only [Phi.add, if_neg n1] at hM
      exact absurd (hMN.trans hL') (other c _ M (Tr.get_del g1).1 (Tr.get_del g1).2 hM)
    · simp only [Phi.add, if_neg n1] at hM
      simp only [Phi.add, if_neg n2] at hN
      exact hS.mem.inj c d u v M N (Tr.get_del g1).2 (Tr.get_del g2).2 hM hN hMN
  · intro c z h
    rcases Tr.get_set h with ⟨rfl, rfl⟩ | ⟨n1, g1⟩
    · obtain ⟨o, h1, h2⟩ := hy
      exact ⟨L', Phi.add_same _ _ _, o, by rw [hL']; exact h1, h2 _ hle⟩
    · obtain ⟨n2, g2⟩ := Tr.get_del g1
      obtain ⟨M, h1, o, h2, h3⟩ := hS.mem.obj c z g2
      exact ⟨M, hle _ _ h1, o, by rw [ho _ (other c z M n2 g2 h1)]; exact h2, h3.mono hle⟩
  · intro c hc
    have hc' : st.next + 1 ≤ c := hc
    simp only [Phi.add]
    rw [if_neg (by omega)]
    exact hS.fresh c (by omega)
  · intro i hi hn
    have hne : L.blk ≠ i := hn b x L hx hc hL
    refine ⟨ho i fun e => hne e.symm, fun c z M h1 h3 hk => ?_⟩
    rcases Tr.get_set h1 with ⟨rfl, _⟩ | ⟨n1, g1⟩
    · rw [Phi.add_same] at h3
      obtain rfl := Option.some.inj h3
      rw [hL'] at hk
      exact absurd hk hne
    · simp only [Phi.add, if_neg n1] at h3
      exact FrF.own hn c z M (Tr.get_del g1).2 h3 hk

/-- a new block with room behind -/
theorem room_new {cs rest : List Value} {old : List Value} {e : TypeId} {sz cap n blk : Nat} (fz : Nat × Nat) (hs : 0 < sz) (hl : LRel φ cs old) (hn : cs.length = n * sz) (hc : n ≤ cap) (hr : rest.length = (cap - n) * sz) :
    ∀ ψ : Phi, φ.le ψ → ORel ψ ⟨blk, 0, sz, cap⟩ (.cells cs e sz true fz) (.cells ⟨old ++ rest⟩ e (0, 0)) := by
  intro ψ hle
  have hsz : (old ++ rest).length = cap * sz := by
    rw [List.length_append, ← hl.1, hn, hr, ← Nat.add_mul]
    congr 1
    omega
  have hmul : n * sz ≤ cap * sz := Nat.mul_le_mul_right sz hc
  refine .room (L := ⟨blk, 0, sz, cap⟩) hs (by simp at hsz ⊢; omega) (by simp; omega) ?_ ⟨fun i _ _ h => absurd h (by simp), fun _ h => absurd h (by simp), Nat.le_refl _, fun _ => .inl rfl⟩ ?_
  · intro i v hv
    obtain ⟨v', h1, h2⟩ := hl.get hv
    refine ⟨v', ?_, h2.mono hle⟩
    have hi : i < old.length := by
      rcases Nat.lt_or_ge i old.length with x | x
      · exact x
      · rw [List.getElem?_eq_none x] at h1; cases h1
    simp only [Nat.zero_add]
    show (⟨old ++ rest⟩ : Array Value)[i]? = _
    simp [List.getElem?_append_left hi, h1]
  · intro i hi
    simp only at hi
    refine ⟨_, Array.getElem?_eq_getElem (by simp at hsz ⊢; omega)⟩
end
end Go.Proofs.YtbakhdgiimjnkaaGreatDoor.Abs
