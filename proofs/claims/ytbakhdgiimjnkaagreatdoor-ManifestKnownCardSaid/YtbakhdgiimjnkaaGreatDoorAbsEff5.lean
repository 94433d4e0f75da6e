/-
  Appends.
-/
import Derived.Test.YtbakhdgiimjnkaaGreatDoorAbsEff4
namespace Go.Proofs.YtbakhdgiimjnkaaGreatDoor.Abs
section
variable {P : Program} {φ : Phi} {st : St} {w : World} {β : Type}

theorem load_any {b base o n : Nat} {c : Array Value} {e : TypeId} {fr : Nat × Nat} {L : Loc} {l cs : List Value} (hb : L.blk = b) (hL : L.base = base) (h1 : w.heap[b]? = some (.cells c e fr)) (hc : CellsAt φ L l c) (hcut : cutN l o n = some cs) :
    ∃ cs', (∀ d, (loadCells ⟨b, base + o, none⟩ n).run P { w with drawn := d } = .ok ⟨cs'⟩ { w with drawn := d }) ∧ LRel φ cs cs' := by
  obtain ⟨cs', h2, h3⟩ := load_many (P := P) hb hL h1 hc hcut
  refine ⟨cs', fun d => ?_, h3⟩
  obtain ⟨cs2, h4, h5⟩ := load_many (P := P) (w := { w with drawn := d }) hb hL h1 hc hcut
  obtain ⟨hn, _⟩ := cutN_some hcut
  subst hb hL
  have hget : ∀ j, j < n → ∃ v', c[L.base + (o + j)]? = some v' := fun j hj => by
    have hlt : o + j < l.length := by omega
    obtain ⟨v', h2, h3⟩ := hc (o + j) _ (List.getElem?_eq_getElem hlt)
    exact ⟨v', h2⟩
  have r1 := run_loadCells (P := P) w ⟨L.blk, L.base + o, none⟩ n (fun j => (c[L.base + (o + j)]?).getD undefV) (fun j hj => by
      obtain ⟨v', h2⟩ := hget j hj
      rw [add_none, cell_of h1, Nat.add_assoc, h2]; rfl)
  have r2 := run_loadCells (P := P) { w with drawn := d } ⟨L.blk, L.base + o, none⟩ n (fun j => (c[L.base + (o + j)]?).getD undefV) (fun j hj => by
      obtain ⟨v', h2⟩ := hget j hj
      rw [add_none, cell_of (w := { w with drawn := d }) h1, Nat.add_assoc, h2]; rfl)
  rw [r2]
  rw [h2] at r1
  cases r1
  rfl
/-- the elements a slice or a string gives -/
theorem srcCells_ok {h : Tr AObj} (hm : HRel φ h w) {s n : Nat} {x x' : Value} {cs : List Value} (e : srcCells h s x = .ok (n, cs)) (hx : VRel φ x x') :
    (∀ w, (Builtin.lenOf x').run P w = .ok n w) ∧ ∀ m, m ≤ n → ∃ c : List Value, (∀ d, (Builtin.firstCells s m x').run P { w with drawn := d } = .ok ⟨c⟩ { w with drawn := d }) ∧ LRel φ (cs.take (m * s)) c := by
  unfold srcCells at e
  split at e <;> first | (cases e; done) | skip
  · cases e
    cases hx
    exact ⟨fun _ => rfl, fun m hm => ⟨[], fun _ => rfl, by simp; exact .nil φ⟩⟩
  · rename_i b o n' c'
    have main : ∀ l, (Rs.of 75 (cutN l o (n' * s))).bind (fun cs => .ok (n', cs)) = Rs.ok (n, cs) → (∀ L, φ b = some L → ∃ c ty fr, w.heap[L.blk]? = some (.cells c ty fr) ∧ CellsAt φ L l c) →
        (∀ w, (Builtin.lenOf x').run P w = .ok n w) ∧ ∀ m, m ≤ n → ∃ c : List Value, (∀ d, (Builtin.firstCells s m x').run P { w with drawn := d } = .ok ⟨c⟩ { w with drawn := d }) ∧ LRel φ (cs.take (m * s)) c := by
      intro l e1 hb
      obtain ⟨c, h1, h2⟩ := Rs.bind_ok e1
      cases h2
      have hcut := Rs.of_ok h1
      have cut : ∀ m, m ≤ n → cutN l o (m * s) = some (cs.take (m * s)) := by
        intro m hmn
        obtain ⟨k1, rfl⟩ := cutN_some hcut
        have hms : m * s ≤ n * s := Nat.mul_le_mul_right s hmn
        rw [cutN_eq, if_pos (by omega), List.take_take, Nat.min_eq_left hms]
      have load : ∀ (L : Loc) (m : Nat), φ b = some L → m ≤ n → ∃ c : List Value, (∀ d, (loadCells ⟨L.blk, L.base + o, none⟩ (m * s)).run P { w with drawn := d } = .ok ⟨c⟩ { w with drawn := d }) ∧ LRel φ (cs.take (m * s)) c := by
        intro L m hL hmn
        obtain ⟨c, ty, fr, hw, hc⟩ := hb L hL
        exact load_any rfl rfl hw hc (cut m hmn)
      cases hx with
      | slice o hL => exact ⟨fun _ => rfl, fun m hmn => load _ m hL hmn⟩
      | room hL => exact ⟨fun _ => rfl, fun m hmn => load _ m hL hmn⟩
      | full a hL => 
        refine ⟨fun _ => rfl, fun m hmn => ⟨[], fun d => ?_, ?_⟩⟩
        · have : m = 0 := by omega
          subst this
          unfold Builtin.firstCells
          simp only [Nat.zero_mul]
          rfl
        · have : m = 0 := by omega
          subst this
          simp
          exact .nil φ
    split at e <;> first | (cases e; done) | skip
    · rename_i hb
      exact main _ e fun L hL => by
        obtain ⟨c, fr, h1, h2, _⟩ := hm.cellsAt hb hL
        exact ⟨c, _, fr, h1, h2⟩
    · rename_i hb
      exact main _ e fun L hL => by
        obtain ⟨c, _, fr, h1, h2⟩ := constAt hm hb hL
        exact ⟨c, _, fr, h1, h2⟩
  · rename_i str
    obtain ⟨h1, h2⟩ := ifb_no e
    cases h2
    cases hx
    have hs : s = 1 := Nat.eq_of_beq_eq_true h1
    have hsz : lenN str.data.toList = str.size := by rw [lenN_eq]; exact Array.length_toList
    subst hs
    refine ⟨fun _ => by rw [hsz]; rfl, fun m hmn => ⟨(byteCells str.data.toList).take m, fun d => ?_, ?_⟩⟩
    · unfold Builtin.firstCells
      simp only [Sem.run_pure]
      congr 1
      apply Array.ext'
      rw [byteCells_eq]
      simp [← List.map_take]
    · rw [Nat.mul_one]
      refine ⟨rfl, fun i v v' a b => ?_⟩
      rw [a] at b
      cases b
      rw [byteCells_eq, ← List.map_take, List.getElem?_map] at a
      obtain ⟨y, _, rfl⟩ := Option.map_eq_some_iff.1 a
      exact .int _ _

theorem eCopy_ok (hS : SRel φ st w) {ts : Array TypeId} {t ty : TypeId} {args : Array Value} {d src d' src' : Value} {k : Value → St → Rs β} {r : β} (ht : ts[0]? = some t) (h : eCopy P st t d src k = .ok r) (h0 : args[0]? = some d') (h1 : args[1]? = some src')
    (hd : VRel φ d d') (hs : VRel φ src src') : Act P φ st w (Builtin.copy_ ts ty args) k r := by
  unfold eCopy at h
  obtain ⟨u, hu, e1⟩ := Rs.bind_ok h
  split at e1 <;> first | (cases e1; done) | skip
  rename_i e a dn dc
  obtain ⟨s, hsz, e2⟩ := Rs.bind_ok e1
  obtain ⟨⟨n, cs⟩, hq, e3⟩ := Rs.bind_ok e2
  rw [natK_eq] at e3
  obtain ⟨k1, k2⟩ := srcCells_ok (P := P) hS.mem hq hs
  obtain ⟨c, k3', k4⟩ := k2 (min n dn) (Nat.min_le_left _ _)
  have k3 := k3' w.drawn
  obtain ⟨base, c2, rfl⟩ : ∃ base c2, d' = .slice base dn c2 := by
    cases hd <;> exact ⟨_, _, rfl⟩
  have hmin : Nat.min n dn = min n dn := rfl
  have run : ∀ w', (match base with | some a => storeCells a c | none => pure () : Sem Unit).run P w = .ok () w' → (Builtin.copy_ ts ty args).run P w = .ok (goInt (min n dn : Nat)) w' := by
    intro w' hw
    unfold Builtin.copy_
    rw [ht, h0, h1]
    simp only [Sem.run_bind, undT_run hu, Result.andThen_ok, k1, szT_run hsz, hmin, k3]
    cases base with
    | none => 
      simp only [Sem.run_pure] at hw ⊢
      cases hw
      rfl
    | some b =>
      simp only [Sem.run_bind] at hw ⊢
      rw [hw]
      rfl
  split at e3 <;> first | (cases e3; done) | skip
  · rename_i h2
    simp only at h2
    have hc : c = [] := by
      have := k4.1
      rw [h2] at this
      simpa using this.symm
    subst hc
    refine ⟨_, st, φ, _, w, run w (by cases base <;> rfl), .refl hS, ?_, e3⟩
    rw [h2]
    exact .int _ _
  · rename_i b o m h2
    simp only at h2
    obtain ⟨cc, h3, h4⟩ := Rs.bind_ok e3
    have h5 := Rs.of_ok h3
    rw [takeN_eq] at h5
    split at h5 <;> first | (cases h5; done) | skip
    obtain rfl := Option.some.inj h5
    rw [h2] at k4
    have fin : ∀ L, φ b = some L → base = some ⟨L.blk, L.base + o, none⟩ → Act P φ st w (Builtin.copy_ ts ty args) k r := by
      intro L hL hbase
      subst hbase
      obtain ⟨st', w', r1, r2, r3, _⟩ := turn_ok (P := P) hS hL h4 k4
      exact ⟨_, st', φ, _, w', run w' r1, r2, by rw [h2]; exact .int _ _, r3⟩
    cases hd with
    | slice o hL => exact fin _ hL rfl
    | room hL => exact fin _ hL rfl
    | full a hL => simp at h2
end
end Go.Proofs.YtbakhdgiimjnkaaGreatDoor.Abs
