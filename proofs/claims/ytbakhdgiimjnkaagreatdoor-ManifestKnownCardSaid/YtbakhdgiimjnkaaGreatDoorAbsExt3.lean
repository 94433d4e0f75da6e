/-
  More functions without a body.
-/
import Derived.Test.YtbakhdgiimjnkaaGreatDoorAbsExt2
namespace Go.Proofs.YtbakhdgiimjnkaaGreatDoor.Abs
section
variable {P : Program} {φ : Phi} {st : St} {w : World} {β : Type}

theorem xTouch_ok (hS : SRel φ st w) {rt : Array TypeId} {m : Addr → Mark} {args : List Value} {as : Array Value} {k : Value → St → Rs β} {r : β} (h : ext P st rt .touch args k = .ok r) (hl : LRel φ args as.toList) : Act P φ st w (Extern.Race.marked m as) k r := by
  unfold ext at h
  split at h <;> first | (cases h; done) | contradiction | skip
  obtain ⟨p', rfl, hp⟩ := args1 hl
  have fin : ∀ a, p' = .pointer (some a) → Act P φ st w (Extern.Race.marked m #[p']) k r := by
    intro a ha
    subst ha
    exact ⟨_, st, φ, .tuple #[], w, rfl, .refl hS, und_rel, h⟩
  cases hp
  exact fin _ rfl
theorem xNothing_ok (hS : SRel φ st w) {rt : Array TypeId} {m : Mark} {args : List Value} {as : Array Value} {k : Value → St → Rs β} {r : β} (h : ext P st rt .nothing args k = .ok r) : Act P φ st w ((fun _ => do mark m; pure Extern.Race.none_ : Array Value → Sem Value) as) k r := by
  unfold ext at h
  split at h <;> first | (cases h; done) | contradiction | skip
  exact ⟨_, st, φ, .tuple #[], w, rfl, .refl hS, und_rel, h⟩

theorem args3 {t u v : Value} {as : Array Value} (h : LRel φ [t, u, v] as.toList) : ∃ t' u' v', as = #[t', u', v'] ∧ VRel φ t t' ∧ VRel φ u u' ∧ VRel φ v v' := by
  obtain ⟨l⟩ := as
  match l, h with
  | [t', u', v'], h => exact ⟨t', u', v', rfl, h.2 0 t t' rfl rfl, h.2 1 u u' rfl rfl, h.2 2 v v' rfl rfl⟩
  | [], h => exact absurd h.1 (by simp)
  | [_], h => exact absurd h.1 (by simp)
  | [_, _], h => exact absurd h.1 (by simp)
  | _ :: _ :: _ :: _ :: _, h => exact absurd h.1 (by simp)
theorem xCas_ok (hS : SRel φ st w) {kd : IntKind} {rt : Array TypeId} {args : List Value} {as : Array Value} {k : Value → St → Rs β} {r : β} (h : ext P st rt (.cas kd) args k = .ok r) (hl : LRel φ args as.toList) :
    Act P φ st w (Extern.Atomic.casT (.int kd) as) k r := by
  unfold ext at h
  split at h <;> first | (cases h; done) | contradiction | skip
  rename_i kd' b o ko old kn new heq
  cases heq
  split at h <;> first | (cases h; done) | skip
  rename_i l e s opn fz hb
  obtain ⟨v, h1, h2⟩ := Rs.bind_ok h
  split at h2 <;> first | (cases h2; done) | skip
  rename_i kv n
  obtain ⟨h3, h4⟩ := ifb_no h2
  obtain ⟨h5, h6⟩ := ifb_no h4
  have hk : kd = kv := of_decide_eq_true h3
  subst hk
  have hno : n = old := eq_of_beq h5
  subst hno
  obtain ⟨p', o', n', rfl, hp, ho, hn⟩ := args3 hl
  cases ho
  cases hn
  cases hp with
  | @ptr _ L _ hL =>
    obtain ⟨v', c1, c2⟩ := cellAt hS hb hL (Rs.of_ok h1)
    cases c2
    obtain ⟨st', w', r1, r2, r3, _⟩ := turn_ok (P := P) hS hL h6 (LRel.cons (.int kn new) (.nil φ))
    have hst := store_as r1 rfl c1 rfl .atomic
    obtain ⟨c, fr, hw, _⟩ := hS.mem.cellsAt hb hL
    have hfr : w.frozen? ⟨L.blk, L.base + o, none⟩ = false := by
      rw [run_store _ _ _ _ _ rfl, c1] at hst
      cases hq : w.frozen? ⟨L.blk, L.base + o, none⟩ with
      | false => rfl
      | true => simp [hq] at hst
    have ht : (Extern.Atomic.touchesFrozen ⟨L.blk, L.base + o, none⟩).run P w = .ok false w := by
      unfold Extern.Atomic.touchesFrozen viewAt
      simp [shape_of hw, hfr]
    refine ⟨_, st', φ, _, w', ?_, r2, .bool true, r3⟩
    show Sem.run P (asAddr (.pointer (some ⟨L.blk, L.base + o, none⟩)) >>= fun a => _) w = _
    simp only [asAddr, Sem.run_bind, Sem.run_pure, Result.andThen_ok, ht, Bool.false_eq_true, if_false, Extern.Atomic.read, run_load, c1, if_true]
    show Sem.run P (pure (n == n) >>= fun eq => if eq = true then (store ⟨L.blk, L.base + o, none⟩ (.int kn new) .atomic >>= fun _ => pure (Value.bool eq)) else pure (Value.bool eq)) w = _
    simp only [beq_self_eq_true, Sem.run_bind, Sem.run_pure, Result.andThen_ok, if_true, hst]

theorem digits_size : ∀ (n t : Nat) (acc : Array Value), (Extern.BytealgMakeNoZero.digits n t acc).size = acc.size + n
  | 0, _, _ => rfl
  | n + 1, t, acc => by
    unfold Extern.BytealgMakeNoZero.digits
    rw [digits_size n]
    simp
    omega
theorem xMake_ok (hS : SRel φ st w) {ps rt : Array TypeId} {args : List Value} {as : Array Value} {k : Value → St → Rs β} {r : β} (h : ext P st rt .makeNoZero args k = .ok r) (hl : LRel φ args as.toList) : Act P φ st w (Extern.BytealgMakeNoZero.makeNoZero ps rt as) k r := by
  unfold ext at h
  split at h <;> first | (cases h; done) | contradiction | skip
  rename_i n _
  obtain ⟨t, h1, h2⟩ := Rs.bind_ok h
  obtain ⟨u, h3, h4⟩ := Rs.bind_ok h2
  split at h4 <;> first | (cases h4; done) | skip
  rename_i e
  obtain ⟨h5, h6⟩ := ifb_no h4
  rw [St.new_eq] at h6
  obtain ⟨p', rfl, hp⟩ := args1 hl
  cases hp
  have hn : n ≤ 1073741824 := by simpa using h5
  have run : ∃ cap d c, n ≤ cap ∧ c.size = cap ∧ (Extern.BytealgMakeNoZero.makeNoZero ps rt #[.int .i64 (Int.ofNat n)]).run P w = .ok (.slice (some ⟨w.heap.size, 0, none⟩) n cap) { w with heap := w.heap.push (.cells c e), drawn := d } := by
    refine ⟨(Question.appendCap n 0 e).cut (w.tape w.drawn (.appendCap n 0 e)), w.drawn + 2,
      Extern.BytealgMakeNoZero.digits ((Question.appendCap n 0 e).cut (w.tape w.drawn (.appendCap n 0 e))) ((Question.extern "internal/bytealg.MakeNoZero.bytes" 0).cut (w.tape (w.drawn + 1) (.extern "internal/bytealg.MakeNoZero.bytes" 0))) #[], Nat.le_add_right _ _, ?_, ?_⟩
    · rw [digits_size]; simp
    · have hnf : (Question.appendCap n 0 e).forced = false := rfl
      have hnf2 : (Question.extern "internal/bytealg.MakeNoZero.bytes" 0).forced = false := rfl
      have hn1 : ¬ ((n : Int) < 0) := by omega
      have hn2 : ¬ ((n : Int) > 2 ^ 48) := by omega
      unfold Extern.BytealgMakeNoZero.makeNoZero
      rw [Rs.of_ok h1]
      show Sem.run P (underlying t >>= _) w = _
      simp only [Sem.run_bind, undT_run h3, Result.andThen_ok, Int.ofNat_eq_natCast, hn1, hn2, decide_false, Bool.or_false, Bool.false_eq_true, if_false, Int.toNat_natCast, run_choose, hnf, hnf2, run_askRoom, newRow, run_newObj, Sem.run_pure]
  obtain ⟨cap, d, c, k1, k2, k3⟩ := run
  have hO : ∀ ψ : Phi, φ.le ψ → ORel ψ ⟨w.heap.size, 0, 1, cap⟩ (.cells [] e 1 true (0, 0)) (.cells c e (0, 0)) := fun ψ _ =>
    .room (L := ⟨w.heap.size, 0, 1, cap⟩) (by simp) (by simp [k2]) (by simp) (fun i v hv => by simp at hv) (frozen_zero _ _) fun i hi => ⟨_, Array.getElem?_eq_getElem (by simp at hi ⊢; omega)⟩
  have hp := Post.newAt hS (.cells [] e 1 true (0, 0)) (.cells c e) ⟨w.heap.size, 0, 1, cap⟩ st.next (st.next + 1) d (hS.fresh _ (Nat.le_refl _)) (Nat.le_refl _) (Nat.lt_succ_self _) (Nat.le_succ _) rfl hO
  refine ⟨_, _, _, _, _, k3, hp, ?_, h6⟩
  have := VRel.room (φ := φ.add st.next ⟨w.heap.size, 0, 1, cap⟩) (b := st.next) (n := n) (c := cap) (j := 0) (L := ⟨w.heap.size, 0, 1, cap⟩) (Phi.add_same _ _ _) (by simp) (by simp) k1
  simpa using this
end
end Go.Proofs.YtbakhdgiimjnkaaGreatDoor.Abs
