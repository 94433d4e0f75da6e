/-
  Keys, conversions, what is built; all operations that change nothing.
-/
import Derived.Test.YtbakhdgiimjnkaaGreatDoorAbsPure4
namespace Go.Proofs.YtbakhdgiimjnkaaGreatDoor.Abs

section
variable {P : Program} {φ : Phi} {h : Tr AObj} {w : World}

theorem findNow_int (q : IntKind) {hh : Tr AObj} {kt : TypeId} {kk : IntKind} {x : Int} : ∀ {es : List MapEntry} {fs : List MapEntry} {i : Nat} {r : Option (Nat × Value)},
    findR P hh kt (.int kk x) es i = .ok r → es.length = fs.length → (∀ (j : Nat) (e f : MapEntry), es[j]? = some e → fs[j]? = some f → ERel φ e f) →
    ∃ r', Instr.findNow (.int q) (.int kk x) fs i = some r' ∧ ((r = none ∧ r' = none) ∨ ∃ j v v', r = some (j, v) ∧ r' = some (j, v') ∧ VRel φ v v')
  | [], [], i, r, e, _, _ => by cases e; exact ⟨none, rfl, .inl ⟨rfl, rfl⟩⟩
  | [], f :: fs, i, r, e, hl, _ => by simp at hl
  | a :: es, [], i, r, e, hl, _ => by simp at hl
  | a :: es, f :: fs, i, r, e, hl, hr => by
    have e' : (keyEq P hh kt (.int kk x) a.key).bind (fun b => ifb b (.ok (some (i, a.val))) (findR P hh kt (.int kk x) es (i + 1))) = .ok r := e
    obtain ⟨b, h1, h2⟩ := Rs.bind_ok e'
    obtain ⟨k1, k2, _⟩ := hr 0 a f rfl rfl
    unfold keyEq at h1
    split at h1 <;> first | (cases h1; done) | skip
    · rename_i j y k z hj hk
      cases hj
      obtain ⟨h3, h4⟩ := ifb_no h1
      cases h4
      have hkk := kEq_eq h3
      subst hkk
      rw [hk] at k1
      have hf : f.key = .int kk z := by
        generalize f.key = fk at k1
        cases k1; rfl
      rw [iBeq_eq] at h2
      unfold Instr.findNow
      rw [hf]
      simp only [Instr.sameNow, if_true]
      cases hxy : x == z with
      | true =>
        rw [hxy] at h2
        cases h2
        exact ⟨_, rfl, .inr ⟨i, a.val, f.val, rfl, rfl, k2⟩⟩
      | false =>
        rw [hxy] at h2
        exact findNow_int q h2 (by simpa using hl) (fun j e f a b => hr (j + 1) e f (by simpa using a) (by simpa using b))
    · rename_i hj _; cases hj
    · rename_i hj _; cases hj
theorem findNow_str {hh : Tr AObj} {kt : TypeId} {x : ByteArray} : ∀ {es : List MapEntry} {fs : List MapEntry} {i : Nat} {r : Option (Nat × Value)},
    findR P hh kt (.string x) es i = .ok r → es.length = fs.length → (∀ (j : Nat) (e f : MapEntry), es[j]? = some e → fs[j]? = some f → ERel φ e f) →
    ∃ r', Instr.findNow .string (.string x) fs i = some r' ∧ ((r = none ∧ r' = none) ∨ ∃ j v v', r = some (j, v) ∧ r' = some (j, v') ∧ VRel φ v v')
  | [], [], i, r, e, _, _ => by cases e; exact ⟨none, rfl, .inl ⟨rfl, rfl⟩⟩
  | [], f :: fs, i, r, e, hl, _ => by simp at hl
  | a :: es, [], i, r, e, hl, _ => by simp at hl
  | a :: es, f :: fs, i, r, e, hl, hr => by
    have e' : (keyEq P hh kt (.string x) a.key).bind (fun b => ifb b (.ok (some (i, a.val))) (findR P hh kt (.string x) es (i + 1))) = .ok r := e
    obtain ⟨b, h1, h2⟩ := Rs.bind_ok e'
    obtain ⟨k1, k2, _⟩ := hr 0 a f rfl rfl
    unfold keyEq at h1
    split at h1 <;> first | (cases h1; done) | skip
    · rename_i hj _; cases hj
    · rename_i y z hj hk
      cases hj
      cases h1
      rw [hk] at k1
      have hf : f.key = .string z := by
        generalize f.key = fk at k1
        cases k1; rfl
      rw [bEq_eq] at h2
      unfold Instr.findNow
      rw [hf]
      have hb : (x == z) = (x.data.toList == z.data.toList) := by rw [beq_toListBytes, Lib.toList_data, Lib.toList_data]
      simp only [Instr.sameNow, hb]
      cases hxy : x.data.toList == z.data.toList with
      | true =>
        rw [hxy] at h2
        cases h2
        exact ⟨_, rfl, .inr ⟨i, a.val, f.val, rfl, rfl, k2⟩⟩
      | false =>
        rw [hxy] at h2
        exact findNow_str h2 (by simpa using hl) (fun j e f a b => hr (j + 1) e f (by simpa using a) (by simpa using b))
    · rename_i hj _; cases hj
theorem findAsk (hm : HRel φ h w) {kt : TypeId} {xs xs' : Array Value} (hx : VRel φ (.agg xs) (.agg xs')) : ∀ {es : List MapEntry} {fs : List MapEntry} {i : Nat} {r : Option (Nat × Value)},
    findR P h kt (.agg xs) es i = .ok r → es.length = fs.length → (∀ (j : Nat) (e f : MapEntry), es[j]? = some e → fs[j]? = some f → ERel φ e f) →
    ∃ r', (Instr.findAsking kt (.agg xs') fs i).run P w = .ok r' w ∧ ((r = none ∧ r' = none) ∨ ∃ j v v', r = some (j, v) ∧ r' = some (j, v') ∧ VRel φ v v')
  | [], [], i, r, e, _, _ => by cases e; exact ⟨none, rfl, .inl ⟨rfl, rfl⟩⟩
  | [], f :: fs, i, r, e, hl, _ => by simp at hl
  | a :: es, [], i, r, e, hl, _ => by simp at hl
  | a :: es, f :: fs, i, r, e, hl, hr => by
    have e' : (keyEq P h kt (.agg xs) a.key).bind (fun b => ifb b (.ok (some (i, a.val))) (findR P h kt (.agg xs) es (i + 1))) = .ok r := e
    obtain ⟨b, h1, h2⟩ := Rs.bind_ok e'
    obtain ⟨k1, k2, _⟩ := hr 0 a f rfl rfl
    unfold keyEq at h1
    split at h1 <;> first | (cases h1; done) | skip
    · rename_i hj _; cases hj
    · rename_i hj _; cases hj
    · rename_i y z hj hk
      cases hj
      rw [hk] at k1
      have hq : (Op.equal kt (.agg xs') f.key).run P w = .ok b w := aEq_ok (P := P) hm 40 (n := 10000) kt _ _ _ _ b (by decide) h1 hx k1
      unfold Instr.findAsking
      simp only [Sem.run_bind, hq, Result.andThen_ok]
      cases b with
      | true =>
        cases h2
        exact ⟨_, rfl, .inr ⟨i, a.val, f.val, rfl, rfl, k2⟩⟩
      | false =>
        exact findAsk hm hx h2 (by simpa using hl) (fun j e f a b => hr (j + 1) e f (by simpa using a) (by simpa using b))

/-- what is looked up by a key -/
theorem findR_ok (hm : HRel φ h w) {kt : TypeId} {k k' : Value} {es : List MapEntry} {fs : List MapEntry} {r : Option (Nat × Value)} (hk : keyOk P kt k = true) (hv : VRel φ k k') (e : findR P h kt k es 0 = .ok r)
    (hl : es.length = fs.length) (hr : ∀ (j : Nat) (e f : MapEntry), es[j]? = some e → fs[j]? = some f → ERel φ e f) :
    ∃ r', (Instr.findKey kt k' fs).run P w = .ok r' w ∧ ((r = none ∧ r' = none) ∨ ∃ j v v', r = some (j, v) ∧ r' = some (j, v') ∧ VRel φ v v') := by
  unfold keyOk at hk
  unfold Instr.findKey
  split at hk
  · split at hk <;> first | (cases hk; done) | skip
    rename_i q hu
    cases hv
    obtain ⟨r', h1, h2⟩ := findNow_int (φ := φ) q e hl hr
    exact ⟨r', by simp [run_underlying hu, h1], h2⟩
  · split at hk <;> first | (cases hk; done) | skip
    rename_i hu
    cases hv
    obtain ⟨r', h1, h2⟩ := findNow_str (φ := φ) e hl hr
    exact ⟨r', by simp [run_underlying hu, h1], h2⟩
  · split at hk <;> first | (cases hk; done) | skip
    rename_i fds hu
    cases hv with
    | @agg _ xs' a1 a2 =>
      obtain ⟨r', h1, h2⟩ := findAsk hm (.agg a1 a2) e hl hr
      refine ⟨r', ?_, h2⟩
      simp only [Sem.run_bind, run_underlying hu, Result.andThen_ok]
      cases fs with
      | nil => exact h1
      | cons f fs =>
        have : Instr.findNow (.struct fds) (.agg xs') (f :: fs) 0 = none := by
          unfold Instr.findNow
          cases f.key <;> rfl
        rw [this]
        exact h1
  · cases hk

theorem checkKey_plain {b : Bool} {n : Nat} {t : TypeId} {v : Value} {u : TypeDesc} (hu : P.underlying t = some u) (hp : plainT (some u) = true) : (Instr.checkKey b (n + 1) t v).run P w = .ok () w := by
  unfold Instr.checkKey
  rw [Sem.run_bind, run_underlying hu]
  simp only [Result.andThen_ok]
  cases u <;> first | (cases hp; done) | rfl

theorem checkFields {b : Bool} {n : Nat} {cs cs' : List Value} (hc : LRel φ cs cs') : ∀ {fs : List Field}, fs.all (fieldOk P cs) = true →
    (forIn fs PUnit.unit (fun f _ => if f.name ≠ "_" then (do Instr.checkKey b (n + 1) f.type (← Go.part f.type ⟨cs'⟩ f.offset); pure (.yield PUnit.unit)) else pure (.yield PUnit.unit)) : Sem PUnit).run P w = .ok PUnit.unit w
  | [], _ => rfl
  | f :: fs, h => by
    simp only [List.all_cons, Bool.and_eq_true] at h
    obtain ⟨h1, h2⟩ := h
    unfold fieldOk at h1
    simp only [Bool.and_eq_true] at h1
    obtain ⟨⟨h3, h4⟩, h5⟩ := h1
    have hn : f.name ≠ "_" := by simpa using h3
    split at h5 <;> first | (cases h5; done) | skip
    rename_i v hv
    rw [nth_eq] at hv
    obtain ⟨v', hv', _⟩ := hc.get hv
    obtain ⟨u, hu⟩ : ∃ u, P.underlying f.type = some u := by
      cases hh : P.underlying f.type with
      | none => rw [hh] at h4; cases h4
      | some u => exact ⟨u, rfl⟩
    rw [hu] at h4
    have hg : (isAgg f.type).run P w = .ok false w := by
      unfold isAgg
      rw [Sem.run_bind, run_underlying hu]
      simp only [Result.andThen_ok]
      cases u <;> first | (cases h4; done) | rfl
    have hp : (Go.part f.type ⟨cs'⟩ f.offset).run P w = .ok v' w := by
      unfold Go.part
      have : (⟨cs'⟩ : Array Value)[f.offset]? = some v' := by simpa using hv'
      simp [hg, this]
    simp only [List.forIn_cons, Sem.run_bind, hn, ne_eq, not_false_eq_true, if_true, hp, Result.andThen_ok, checkKey_plain hu h4, Sem.run_pure]
    exact checkFields hc h2
theorem checkKey_ok {b : Bool} {kt : TypeId} {k k' : Value} (hk : keyOk P kt k = true) (hv : VRel φ k k') : (Instr.checkKey b 10000 kt k').run P w = .ok () w := by
  unfold keyOk at hk
  split at hk
  · split at hk <;> first | (cases hk; done) | skip
    rename_i hu
    exact checkKey_plain hu rfl
  · split at hk <;> first | (cases hk; done) | skip
    rename_i hu
    exact checkKey_plain hu rfl
  · split at hk <;> first | (cases hk; done) | skip
    rename_i fds hu
    cases hv with
    | @agg _ xs' a1 a2 =>
      have := checkFields (P := P) (w := w) (b := b) (n := 9998) (LRel.of_arr a1 a2) hk
      unfold Instr.checkKey
      simp only [Sem.run_bind, run_underlying hu, Result.andThen_ok]
      rw [← Array.forIn_toList]
      refine (congrArg (Result.andThen · _) this).trans ?_
      rfl
  · cases hk

theorem mapOf_ok (hm : HRel φ h w) {m m' : Value} {es : List MapEntry} (e : mapOf h m = .ok es) (hv : VRel φ m m') :
    (m = .map none ∧ m' = .map none ∧ es = []) ∨ ∃ r L fs clock, m = .map (some r) ∧ m' = .map (some L.blk) ∧ φ r = some L ∧ w.heap[L.blk]? = some (.map fs clock) ∧ es.length = fs.toList.length ∧
      ∀ (j : Nat) (e f : MapEntry), es[j]? = some e → fs.toList[j]? = some f → ERel φ e f := by
  unfold mapOf at e
  split at e
  · cases e; cases hv; exact .inl ⟨rfl, rfl, rfl⟩
  · split at e <;> first | (cases e; done) | skip
    rename_i hb
    cases e
    cases hv with
    | map hL =>
      obtain ⟨o, h1, h2⟩ := hm.objAt hb hL
      cases h2 with
      | map k1 k2 => exact .inr ⟨_, _, _, _, rfl, rfl, hL, h1, by simpa using k1, fun j e f a b => k2 j e f a (by simpa using b)⟩
  · cases e

theorem pLookup_ok (hm : HRel φ h w) {t : TypeId} {ok : Bool} {m m' k k' v : Value} (e : pLookup P h t ok m k = .ok v) (hmv : VRel φ m m') (hk : VRel φ k k') : ∃ v', (Instr.lookup t m' k' ok).run P w = .ok v' w ∧ VRel φ v v' := by
  unfold pLookup at e
  obtain ⟨u, hu, e1⟩ := Rs.bind_ok e
  have hr := undT_run hu w
  split at e1 <;> first | (cases e1; done) | skip
  rename_i kt el
  obtain ⟨es, h1, e2⟩ := Rs.bind_ok e1
  obtain ⟨h2, e3⟩ := ifb_no e2
  obtain ⟨r, h3, e4⟩ := Rs.bind_ok e3
  have fin : ∀ (fs : List MapEntry), (es.length = fs.length) → (∀ (j : Nat) (e f : MapEntry), es[j]? = some e → fs[j]? = some f → ERel φ e f) →
      (∃ z, (Instr.findKey kt k' fs).run P w = .ok none w ∧ (zeroValue el).run P w = .ok z w ∧ VRel φ v (if ok = true then .tuple #[z, .bool false] else z)) ∨
      (∃ j x, (Instr.findKey kt k' fs).run P w = .ok (some (j, x)) w ∧ VRel φ v (if ok = true then .tuple #[x, .bool true] else x)) := by
    intro fs hl hrr
    obtain ⟨r', f1, f2⟩ := findR_ok (P := P) hm h2 hk h3 hl hrr
    rcases f2 with ⟨rfl, rfl⟩ | ⟨j, x, x', rfl, rfl, hx⟩
    · simp only at e4
      obtain ⟨z, h5, e5⟩ := Rs.bind_ok e4
      cases e5
      obtain ⟨z1, z2⟩ := zeroT_ok h5
      refine .inl ⟨z, f1, z1 w, ?_⟩
      cases ok
      · exact z2.rel φ
      · exact (Flat.tuple (xs := #[z, .bool false]) fun i v a => by
          match i with
          | 0 => simp at a; subst a; exact z2
          | 1 => simp at a; subst a; exact .bool _
          | n + 2 => simp at a).rel φ
    · simp only at e4
      cases e4
      refine .inr ⟨j, x', f1, ?_⟩
      cases ok
      · exact hx
      · exact .tuple rfl fun i y y' a b => by
          match i with
          | 0 => simp at a b; subst a b; exact hx
          | 1 => simp at a b; subst a b; exact .bool _
          | n + 2 => simp at a
  unfold Instr.lookup
  rcases mapOf_ok hm h1 hmv with ⟨rfl, rfl, rfl⟩ | ⟨q, L, fs, clock, rfl, rfl, hL, hw, hl, hrr⟩
  · rcases fin [] rfl (fun j e f a => by simp at a) with ⟨z, f1, f2, f3⟩ | ⟨j, x, f1, f2⟩
    · exact ⟨_, by simp [hr, checkKey_ok h2 hk, f1, f2], f3⟩
    · exact ⟨_, by simp [hr, checkKey_ok h2 hk, f1], f2⟩
  · have hg : (getObj L.blk).run P w = .ok (.map fs clock) w := by simp [getObj, Sem.run, hw]
    rcases fin fs.toList hl hrr with ⟨z, f1, f2, f3⟩ | ⟨j, x, f1, f2⟩
    · exact ⟨_, by simp [hr, checkKey_ok h2 hk, hg, f1, f2], f3⟩
    · exact ⟨_, by simp [hr, checkKey_ok h2 hk, hg, f1], f2⟩
end
end Go.Proofs.YtbakhdgiimjnkaaGreatDoor.Abs
