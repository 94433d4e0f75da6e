/-
  Operations that turn cells.
-/
import Derived.Test.YtbakhdgiimjnkaaGreatDoorAbsNew2
namespace Go.Proofs.YtbakhdgiimjnkaaGreatDoor.Abs
section
variable {P : Program} {φ : Phi}

theorem oneB_eq {v : Value} (h : oneB v = true) : v.oneCell' = true := by cases v <;> first | rfl | cases h
theorem VRel.one {v v' : Value} (h : VRel φ v v') (k : oneB v = true) : v'.oneCell' = true := by cases h <;> first | rfl | cases k

theorem modify_eq (w : World) (b : Nat) (c c' : Array Value) (e : TypeId) (fr : Nat × Nat) (f : Obj → Obj) (h : w.heap[b]? = some (.cells c e fr)) (hf : f (.cells c e fr) = .cells c' e fr) : w.heap.modify b f = w.heap.setIfInBounds b (.cells c' e fr) := by
  apply Array.ext_getElem?
  intro i
  rw [Array.getElem?_modify, Array.getElem?_setIfInBounds]
  have hb : b < w.heap.size := (Array.getElem?_eq_some_iff.1 h).1
  by_cases hi : b = i
  · subst hi
    rw [if_pos rfl, if_pos rfl, if_pos hb, h]
    simp only [Option.map_some, hf]
  · rw [if_neg hi, if_neg hi]
/-- values go into cells, one by one -/
theorem run_store_list (b o : Nat) (e : TypeId) (fr : Nat × Nat) : ∀ (vs : List Value) (i : Nat) (w : World) (c : Array Value), w.heap[b]? = some (.cells c e fr) → (∀ v ∈ vs, v.oneCell' = true) → o + i + vs.length ≤ c.size →
    (∀ j, i ≤ j → j < i + vs.length → ¬ (fr.1 ≤ o + j ∧ o + j < fr.2)) →
    ∃ c' : Array Value, (storeCells ⟨b, o, none⟩ vs i).run P w = .ok () { w with heap := w.heap.setIfInBounds b (.cells c' e fr) } ∧ c'.toList = c.toList.take (o + i) ++ (vs ++ c.toList.drop (o + i + vs.length))
  | [], i, w, c, hw, _, _, _ => by
    refine ⟨c, ?_, by simp⟩
    have : w.heap.setIfInBounds b (.cells c e fr) = w.heap := by
      apply Array.ext_getElem?
      intro j
      rw [Array.getElem?_setIfInBounds]
      by_cases hj : b = j
      · subst hj
        rw [if_pos rfl, if_pos (Array.getElem?_eq_some_iff.1 hw).1, hw]
      · rw [if_neg hj]
    rw [this]
    rfl
  | v :: vs, i, w, c, hw, hv, hl, hf => by
    simp only [List.length_cons] at hl hf
    have hb : b < w.heap.size := (Array.getElem?_eq_some_iff.1 hw).1
    have hc : o + i < c.size := by omega
    have hcell : w.cell? ⟨b, o + i, none⟩ = some c[o + i] := by rw [cell_of hw, Array.getElem?_eq_getElem hc]
    have hfr : w.frozen? ⟨b, o + i, none⟩ = false := by
      rw [frozen_of hw]
      have := hf i (Nat.le_refl _) (by omega)
      simp only [Bool.and_eq_false_iff, decide_eq_false_iff_not]
      omega
    have hset : w.setCell ⟨b, o + i, none⟩ v = { w with heap := w.heap.setIfInBounds b (.cells (c.setIfInBounds (o + i) v) e fr) } := by
      unfold World.setCell
      congr 1
      exact modify_eq w b c _ e fr _ hw rfl
    obtain ⟨c', h1, h2⟩ := run_store_list b o e fr vs (i + 1) { w with heap := w.heap.setIfInBounds b (.cells (c.setIfInBounds (o + i) v) e fr) } (c.setIfInBounds (o + i) v) (by simp [hb]) (fun u hu => hv u (by simp [hu])) (by simp; omega)
      (fun j hj1 hj2 => hf j (by omega) (by omega))
    refine ⟨c', ?_, ?_⟩
    · unfold storeCells
      have := run_store P w ⟨b, o + i, none⟩ v .plain (hv v (by simp))
      rw [hcell, hfr] at this
      simp only [Bool.false_eq_true, if_false] at this
      rw [Sem.run_bind, add_none, this, hset]
      simp only [Result.andThen_ok]
      rw [h1]
      congr 2
      apply Array.ext_getElem?
      intro j
      simp only [Array.getElem?_setIfInBounds]
      by_cases hj : b = j
      · subst hj; simp [hb]
      · simp [hj]
    · rw [h2]
      have hset : (c.setIfInBounds (o + i) v).toList = c.toList.take (o + i) ++ v :: c.toList.drop (o + i + 1) := by
        rw [Array.toList_setIfInBounds, List.set_eq_take_append_cons_drop, if_pos (by simpa using hc)]
      have ht : (c.toList.take (o + i)).length = o + i := by simp; omega
      rw [hset]
      generalize c.toList.take (o + i) = A at *
      have e1 : o + (i + 1) = A.length + 1 := by omega
      have e2 : A.length + 1 + vs.length = A.length + (vs.length + 1) := by omega
      rw [e1, e2, List.take_length_add_append, List.drop_length_add_append]
      simp only [List.take_succ_cons, List.take_zero, List.drop_succ_cons, List.drop_drop, List.append_assoc, List.cons_append, List.nil_append, List.length_cons]
      congr 4
      omega

/-- CELLS OF A BLOCK ARE TURNED. -/
theorem turn_ok {β : Type} {st : St} {w : World} (hS : SRel φ st w) {b o : Nat} {vs vs' : List Value} {k : St → Rs β} {r : β} {L : Loc} (hL : φ b = some L) (h : turn st b o vs k = .ok r) (hv : LRel φ vs vs') :
    ∃ st' w', (storeCells ⟨L.blk, L.base + o, none⟩ vs').run P w = .ok () w' ∧ Post φ st w φ st' w' ∧ k st' = .ok r ∧ st'.next = st.next := by
  unfold turn at h
  split at h <;> first | (cases h; done) | skip
  rename_i l e s opn fz hb
  obtain ⟨h1, h2⟩ := ifb_no h
  obtain ⟨l', h3, h4⟩ := Rs.bind_ok h2
  rw [St.put_eq] at h4
  obtain ⟨h5, rfl⟩ := over_some (Rs.of_ok h3)
  simp only [Bool.and_eq_true, Bool.or_eq_true, List.all_eq_true] at h1
  obtain ⟨hz, hone⟩ := h1
  obtain ⟨c, fr, hw, hc, hfz, hcl, hop⟩ := hS.mem.cellsAt hb hL
  have hlen : vs'.length = vs.length := hv.1.symm
  -- all these cells are there, and none is frozen
  have hsz : L.base + o + vs'.length ≤ c.size := by
    cases opn with
    | false => obtain ⟨x, y⟩ := hcl rfl; omega
    | true => obtain ⟨x, _, y, z, _⟩ := hop rfl; omega
  have hfr : ∀ j, 0 ≤ j → j < 0 + vs'.length → ¬ (fr.1 ≤ L.base + o + j ∧ L.base + o + j < fr.2) := by
    rintro j _ hj ⟨f1, f2⟩
    have := hfz.1 (o + j) (by omega) (by omega) (by omega)
    rw [lenN_eq] at hz
    rcases hz with hz | hz
    · have : fz.2 ≤ o := by simpa using hz
      omega
    · have : o + vs.length ≤ fz.1 := by simpa using hz
      omega
  have h1c : ∀ v ∈ vs', v.oneCell' = true := by
    intro v hm
    obtain ⟨i, hi⟩ := List.mem_iff_getElem?.1 hm
    have hlt : i < vs.length := by
      rcases Nat.lt_or_ge i vs'.length with x | x
      · omega
      · rw [List.getElem?_eq_none x] at hi; cases hi
    exact (hv.2 i _ v (List.getElem?_eq_getElem hlt) hi).one (hone _ (List.getElem_mem hlt))
  obtain ⟨c', r1, r2⟩ := run_store_list (P := P) L.blk (L.base + o) e fr vs' 0 w c hw h1c (by simpa using hsz) hfr
  simp only [Nat.add_zero] at r2
  have hbs : L.blk < w.heap.size := (Array.getElem?_eq_some_iff.1 hw).1
  have hc'sz : c'.size = c.size := by
    have := congrArg List.length r2
    simp at this
    omega
  have hcells : CellsAt φ L (l.take o ++ (vs ++ l.drop (o + vs.length))) c' := by
    intro i v hi
    have : c'[L.base + i]? = (c.toList.take (L.base + o) ++ (vs' ++ c.toList.drop (L.base + o + vs'.length)))[L.base + i]? := by rw [← r2]; simp
    rw [this]
    have ht : (c.toList.take (L.base + o)).length = L.base + o := by simp; omega
    have ht2 : (l.take o).length = o := by simp; omega
    by_cases c1 : i < o
    · rw [List.getElem?_append_left (by omega), List.getElem?_take, if_pos (by omega)]
      rw [List.getElem?_append_left (by omega), List.getElem?_take, if_pos c1] at hi
      obtain ⟨v', x, y⟩ := hc i v hi
      exact ⟨v', by simpa using x, y⟩
    · rw [List.getElem?_append_right (by omega), ht]
      rw [List.getElem?_append_right (by omega), ht2] at hi
      by_cases c2 : i - o < vs.length
      · rw [List.getElem?_append_left c2] at hi
        rw [List.getElem?_append_left (by omega), show L.base + i - (L.base + o) = i - o by omega]
        exact hv.get hi
      · rw [List.getElem?_append_right (by omega), List.getElem?_drop] at hi
        rw [List.getElem?_append_right (by omega), List.getElem?_drop]
        obtain ⟨v', x, y⟩ := hc i v (by rw [← hi]; congr 1; omega)
        refine ⟨v', ?_, y⟩
        have e : L.base + o + vs'.length + (L.base + i - (L.base + o) - vs'.length) = L.base + i := by omega
        rw [e]
        simpa using x
  have hl' : (l.take o ++ (vs ++ l.drop (o + vs.length))).length = l.length := by simp; omega
  refine ⟨_, _, r1, ?_, h4, rfl⟩
  refine Post.turn hS hb rfl hL ⟨by simp, rfl, rfl, rfl⟩ (fun i hi => Array.getElem?_setIfInBounds_ne (fun e => hi e.symm)) ⟨.cells c' e fr, by simp [hbs], ?_⟩
  cases opn with
  | false =>
    obtain ⟨x, y⟩ := hcl rfl
    exact .closed x (by omega) hcells (by rw [hl']; exact hfz)
  | true =>
    obtain ⟨rfl, x2, y, z, x5, x6⟩ := hop rfl
    refine .room x2 (by omega) (by omega) hcells x5 fun i hi => ?_
    obtain ⟨v, hv'⟩ := x6 i hi
    have : L.base + i < c'.size := by have := (Array.getElem?_eq_some_iff.1 hv').1; omega
    exact ⟨_, Array.getElem?_eq_getElem this⟩
end
end Go.Proofs.YtbakhdgiimjnkaaGreatDoor.Abs
