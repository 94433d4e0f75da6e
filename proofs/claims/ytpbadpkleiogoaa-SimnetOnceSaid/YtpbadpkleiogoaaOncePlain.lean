/-
  SimnetOnce, the plain part: which packets wait when some have been delivered. No program in sight.
-/
import Derived.Test.YtpbadpkleiogoaaNetTake
namespace Go.Proofs.Ytpbadpkleiogoaa

/-- the packet that the law sends i-th -/
def oPk (l : List ByteArray) (i : Nat) : Pk := ⟨(i : Int) + 1, i, (i : Int) + 1, (l.getD i ByteArray.empty).data.toList⟩

structure OInv (l : List ByteArray) (ps : List Pk) (ds : List Bool) : Prop where
  len : ds.length = l.length
  has : ∀ p ∈ ps, ∃ i, i < l.length ∧ p = oPk l i ∧ ds[i]? = some false
  all : ∀ i, i < l.length → ds[i]? = some false → oPk l i ∈ ps
  nd : (ps.map (·.id)).Nodup

theorem OInv.start (l : List ByteArray) : OInv l ((List.range l.length).map (oPk l)) (List.replicate l.length false) where
  len := by simp
  has p hp := by
    obtain ⟨i, hi, rfl⟩ := List.mem_map.1 hp
    have := List.mem_range.1 hi
    exact ⟨i, this, rfl, by simp [this]⟩
  all i hi _ := List.mem_map.2 ⟨i, List.mem_range.2 hi, rfl⟩
  nd := by
    rw [List.map_map]
    unfold List.Nodup
    rw [List.pairwise_map]
    refine List.Pairwise.imp ?_ (List.pairwise_lt_range (n := l.length))
    intro a b hab e
    simp [oPk] at e
    omega

theorem pix_lt {id : Int} {ps : List Pk} (h : ∃ p ∈ ps, p.id = id) : pixOf id ps < ps.length := by
  obtain ⟨p, hp, e⟩ := h
  exact List.findIdx_lt_length_of_exists ⟨p, hp, by simpa using e⟩
theorem pix_get {id : Int} {ps : List Pk} (h : pixOf id ps < ps.length) : ps[pixOf id ps].id = id := by
  have h' : List.findIdx (fun x : Pk => x.id == id) ps < ps.length := h
  have := List.findIdx_getElem (p := fun x : Pk => x.id == id) (w := h')
  exact beq_iff_eq.1 this
theorem pix_none {id : Int} {ps : List Pk} (h : ∀ p ∈ ps, p.id ≠ id) : ps.length ≤ pixOf id ps := by
  rcases Nat.lt_or_ge (pixOf id ps) ps.length with x | x
  · exact absurd (pix_get x) (h _ (List.getElem_mem _))
  · exact x

theorem nodup_erase {ps : List Pk} (h : (ps.map (·.id)).Nodup) {k : Nat} (hk : k < ps.length) : ((ps.eraseIdx k).map (·.id)).Nodup ∧ (∀ p, p ∈ ps.eraseIdx k ↔ p ∈ ps ∧ p.id ≠ ps[k].id) := by
  induction ps generalizing k with
  | nil => simp at hk
  | cons a ps ih =>
    rw [List.map_cons, List.nodup_cons] at h
    obtain ⟨h1, h2⟩ := h
    have hno : ∀ p ∈ ps, p.id ≠ a.id := fun p hp e => h1 (e ▸ List.mem_map_of_mem hp)
    cases k with
    | zero =>
      refine ⟨by simpa using h2, fun p => ?_⟩
      simp only [List.eraseIdx_cons_zero, List.getElem_cons_zero, List.mem_cons]
      constructor
      · exact fun hp => ⟨.inr hp, hno p hp⟩
      · rintro ⟨rfl | hp, hn⟩
        · exact absurd rfl hn
        · exact hp
    | succ k =>
      have hk' : k < ps.length := by simpa using hk
      obtain ⟨q1, q2⟩ := ih h2 hk'
      simp only [List.eraseIdx_cons_succ, List.getElem_cons_succ, List.map_cons, List.nodup_cons, List.mem_cons]
      refine ⟨⟨fun hm => h1 ?_, q1⟩, fun p => ?_⟩
      · obtain ⟨p, hp, e⟩ := List.mem_map.1 hm
        exact List.mem_map.2 ⟨p, ((q2 p).1 hp).1, e⟩
      · rw [q2]
        constructor
        · rintro (rfl | ⟨hp, hn⟩)
          · exact ⟨.inl rfl, fun e => hno _ (List.getElem_mem hk') e.symm⟩
          · exact ⟨.inr hp, hn⟩
        · rintro ⟨rfl | hp, hn⟩
          · exact .inl rfl
          · exact .inr ⟨hp, hn⟩

theorem OInv.hit {l : List ByteArray} {ps : List Pk} {ds : List Bool} (h : OInv l ps ds) {i : Nat} (hi : i < l.length) (hd : ds[i]? = some false) :
    ∃ hk : pixOf ((i : Int) + 1) ps < ps.length, ps[pixOf ((i : Int) + 1) ps] = oPk l i ∧ OInv l (ps.eraseIdx (pixOf ((i : Int) + 1) ps)) (ds.set i true) := by
  have hk := pix_lt (id := (i : Int) + 1) ⟨_, h.all i hi hd, rfl⟩
  have hg := pix_get hk
  have he : ps[pixOf ((i : Int) + 1) ps] = oPk l i := by
    obtain ⟨j, hj, e, _⟩ := h.has _ (List.getElem_mem hk)
    rw [e] at hg ⊢
    have : j = i := by simp [oPk] at hg; omega
    rw [this]
  obtain ⟨q1, q2⟩ := nodup_erase h.nd hk
  refine ⟨hk, he, by simpa using h.len, fun p hp => ?_, fun j hj hdj => ?_, q1⟩
  · obtain ⟨hp1, hp2⟩ := (q2 p).1 hp
    obtain ⟨j, hj, e, hdj⟩ := h.has p hp1
    refine ⟨j, hj, e, ?_⟩
    have hne : i ≠ j := by
      rintro rfl
      rw [hg, e] at hp2
      exact hp2 rfl
    rw [List.getElem?_set_ne hne]
    exact hdj
  · have hne : i ≠ j := by
      rintro rfl
      rw [List.getElem?_set_self (by rw [h.len]; exact hi)] at hdj
      cases hdj
    rw [List.getElem?_set_ne hne] at hdj
    refine (q2 _).2 ⟨h.all j hj hdj, ?_⟩
    rw [hg]
    simp [oPk]
    omega

theorem OInv.miss {l : List ByteArray} {ps : List Pk} {ds : List Bool} (h : OInv l ps ds) {id : Int} (hm : id < 1 ∨ (l.length : Int) < id ∨ ds[(id - 1).toNat]? = some true) : ps.length ≤ pixOf id ps := by
  refine pix_none fun p hp e => ?_
  obtain ⟨i, hi, rfl, hd⟩ := h.has p hp
  have e' : (i : Int) + 1 = id := e
  rcases hm with hm | hm | hm
  · omega
  · omega
  · rw [show (id - 1).toNat = i by omega, hd] at hm
    cases hm
end Go.Proofs.Ytpbadpkleiogoaa
