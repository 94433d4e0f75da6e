/-
  Stores and maps.
-/
import Derived.Test.YtbakhdgiimjnkaaGreatDoorAbsEff
namespace Go.Proofs.YtbakhdgiimjnkaaGreatDoor.Abs
section
variable {P : Program} {φ : Phi} {st : St} {w : World} {β : Type}

/-- what is done answers what the evaluator goes on with -/
def Act (P : Program) (φ : Phi) (st : St) (w : World) (s : Sem Value) (k : Value → St → Rs β) (r : β) : Prop :=
  ∃ v st' ψ v' w', s.run P w = .ok v' w' ∧ Post φ st w ψ st' w' ∧ VRel ψ v v' ∧ k v st' = .ok r
def ActU (P : Program) (φ : Phi) (st : St) (w : World) (s : Sem Unit) (k : Value → St → Rs β) (r : β) : Prop :=
  ∃ st' ψ w', s.run P w = .ok () w' ∧ Post φ st w ψ st' w' ∧ k undefV st' = .ok r

theorem run_getObj {b : Nat} {o : Obj} (h : w.heap[b]? = some o) (n : ∀ c e fr, o ≠ .cells c e fr) : (getObj b).run P w = .ok o w := by
  cases o <;> first | exact absurd rfl (n _ _ _) | simp only [getObj, Sem.run, h]
theorem run_setObj {b : Nat} {o q : Obj} (h : w.heap[b]? = some o) (n : ∀ c e fr, o ≠ .cells c e fr) : (setObj b q).run P w = .ok () { w with heap := w.heap.setIfInBounds b q } := by
  cases o <;> first | exact absurd rfl (n _ _ _) | simp only [setObj, Sem.run, h]
/-- a block of another kind than cells turns -/
theorem Post.put {b : Nat} {x y : AObj} {L : Loc} {o q : Obj} (hS : SRel φ st w) (hx : st.heap.get b = some x) (hc : x.isConst = false) (hL : φ b = some L) (ho : w.heap[L.blk]? = some o) (hy : ORel φ L y q) :
    Post φ st w φ ⟨st.heap.set b y, st.next⟩ { w with heap := w.heap.setIfInBounds L.blk q } :=
  Post.turn hS hx hc hL ⟨by simp, rfl, rfl, rfl⟩ (fun i hi => Array.getElem?_setIfInBounds_ne (fun e => hi e.symm)) ⟨q, by simp [(Array.getElem?_eq_some_iff.1 ho).1], hy⟩

theorem eStore_ok (hS : SRel φ st w) {t : TypeId} {a x a' x' : Value} {k : Value → St → Rs β} {r : β} (h : eStore P st t a x k = .ok r) (ha : VRel φ a a') (hx : VRel φ x x') : ActU P φ st w (Instr.storeAt t a' x') k r := by
  unfold eStore at h
  split at h <;> first | (cases h; done) | skip
  obtain ⟨s, h1, h2⟩ := Rs.bind_ok h
  obtain ⟨h3, h4⟩ := ifb_no h2
  cases ha with
  | ptr o hL =>
    have hc := hx.cells
    obtain ⟨st', w', r1, r2, r3, _⟩ := turn_ok (P := P) hS hL h4 hc
    refine ⟨st', φ, w', ?_, r2, r3⟩
    have hs : x'.cells.size = s := by
      have := hc.1
      rw [lenN_eq] at h3
      have h5 := Nat.eq_of_beq_eq_true h3
      simp at this
      omega
    unfold Instr.storeAt
    simp only [Instr.sureAddr, pure_bind]
    unfold storeVar
    simp only [Sem.run_bind, szT_run h1, Result.andThen_ok, hs, ne_eq, not_true, if_false]
    exact r1

theorem sameFlat_eq {a b : Value} (h : sameFlat a b = true) : a = b ∧ Flat a := by
  unfold sameFlat at h
  split at h <;> first | (cases h; done) | skip
  · rename_i x y
    obtain rfl : x = y := by simpa using h
    exact ⟨rfl, .bool _⟩
  · rw [ifb_eq] at h
    split at h <;> first | (cases h; done) | skip
    rename_i hk
    rw [iBeq_eq] at h
    obtain rfl := kEq_eq hk
    obtain h := eq_of_beq h
    exact ⟨by rw [h], .int _ _⟩
  · rw [bEq_eq] at h
    rename_i x y
    have : x = y := by
      cases x; cases y
      congr 1
      apply Array.ext'
      simpa using h
    exact ⟨by rw [this], .string _⟩
theorem sameFlat_bits {a b : Value} (h : sameFlat a b = true) (n : Nat) : Instr.sameBits n a a = true := by
  have byt : ∀ s : ByteArray, (s == s) = true := fun s => by rw [beq_toListBytes]; simp
  cases a <;> cases b <;> first | (cases h; done) | (cases n <;> simp [Instr.sameBits, byt])
theorem sameAll_eq : ∀ {xs ys : List Value}, sameAll xs ys = true → xs = ys ∧ ∀ x ∈ xs, sameFlat x x = true
  | [], [], _ => ⟨rfl, fun _ h => by simp at h⟩
  | [], _ :: _, h => by cases h
  | _ :: _, [], h => by cases h
  | x :: xs, y :: ys, h => by
    have h' : ifb (sameFlat x y) (sameAll xs ys) false = true := h
    rw [ifb_eq] at h'
    split at h' <;> first | (cases h'; done) | skip
    rename_i hk
    obtain ⟨rfl, hf⟩ := sameFlat_eq hk
    obtain ⟨rfl, h2⟩ := sameAll_eq h'
    exact ⟨rfl, fun z hz => by
      rcases List.mem_cons.1 hz with rfl | hz
      · exact hk
      · exact h2 z hz⟩
theorem sameKey_ok {a b a' b' : Value} (h : sameKey a b = true) (ha : VRel φ a a') (hb : VRel φ b b') : a = b ∧ a' = b' ∧ Instr.sameBits 10000 b' a' = true := by
  have flat1 : ∀ {x y : Value}, sameFlat x y = true → ∀ {x' y' : Value}, VRel φ x x' → VRel φ y y' → x' = x ∧ y' = x := by
    intro x y hs x' y' hx hy
    obtain ⟨rfl, _⟩ := sameFlat_eq hs
    cases x <;> first | (cases hs; done) | skip
    all_goals (cases hx; cases hy; exact ⟨rfl, rfl⟩)
  unfold sameKey at h
  split at h
  · rename_i x y
    obtain ⟨h1, h2⟩ := sameAll_eq h
    have hxy : x = y := Array.ext' h1
    subst hxy
    refine ⟨rfl, ?_⟩
    cases ha with
    | @agg _ xs a1 a2 =>
      cases hb with
      | @agg _ ys b1 b2 =>
        have key : ∀ {zs : Array Value}, x.size = zs.size → (∀ (i : Nat) (v v' : Value), x[i]? = some v → zs[i]? = some v' → VRel φ v v') → zs = x := by
          intro zs z1 z2
          apply Array.ext z1.symm
          intro i hi1 hi2
          have hm : x[i] ∈ x.toList := by simp
          have := z2 i x[i] zs[i] (Array.getElem?_eq_getElem hi2) (Array.getElem?_eq_getElem hi1)
          exact (flat1 (h2 _ hm) this this).1
        rw [key a1 a2, key b1 b2]
        refine ⟨rfl, ?_⟩
        show (x.size == x.size && (x.toList.zip x.toList).all fun (p, q) => Instr.sameBits 9999 p q) = true
        simp only [beq_self_eq_true, Bool.true_and, List.all_eq_true]
        intro p hp
        have : p.1 = p.2 ∧ p.1 ∈ x.toList := by
          obtain ⟨i, hi⟩ := List.mem_iff_getElem?.1 hp
          rw [List.getElem?_zip_eq_some] at hi
          have := hi.1.symm.trans hi.2
          exact ⟨by simpa using this, List.mem_of_getElem? hi.1⟩
        rw [← this.1]
        exact sameFlat_bits (h2 _ this.2) _
  · obtain ⟨rfl, _⟩ := sameFlat_eq h
    obtain ⟨rfl, rfl⟩ := flat1 h ha hb
    exact ⟨rfl, rfl, sameFlat_bits h _⟩
theorem stays {a b a' b' : Value} (h : sameKey a b = true) (ha : VRel φ a a') (hb : VRel φ b b') : (Instr.keyThatStays b' a').run P w = .ok a' w := by
  unfold Instr.keyThatStays
  rw [if_pos (sameKey_ok h ha hb).2.2]
  rfl

/-- what a store into a map finds -/
theorem mapPut_ok {hh : Tr AObj} {t : TypeId} {key x : Value} {clock : Nat} : ∀ {es : List MapEntry} {q : List MapEntry × Bool} (i : Nat), mapPut P hh t key x clock es = .ok q →
    (findR P hh t key es i = .ok none ∧ q = (es ++ [⟨key, x, clock⟩], true)) ∨
    ∃ j e, findR P hh t key es i = .ok (some (i + j, e.val)) ∧ es[j]? = some e ∧ sameKey key e.key = true ∧ q = (es.set j { e with key := key, val := x }, false)
  | [], q, i, h => by
    cases h
    exact .inl ⟨rfl, rfl⟩
  | e :: es, q, i, h => by
    have h' : ((keyEq P hh t key e.key).bind fun b => ifb b (ifb (sameKey key e.key) (.ok ({ e with key := key, val := x } :: es, false)) (.no 81 "")) ((mapPut P hh t key x clock es).bind fun r => .ok (e :: r.1, r.2))) = .ok q := h
    obtain ⟨b, h1, h2⟩ := Rs.bind_ok h'
    have hf : findR P hh t key (e :: es) i = (keyEq P hh t key e.key).bind fun b => ifb b (.ok (some (i, e.val))) (findR P hh t key es (i + 1)) := rfl
    rw [hf, h1]
    cases b with
    | true =>
      obtain ⟨h3, h4⟩ := ifb_no (show ifb (sameKey key e.key) (.ok ({ e with key := key, val := x } :: es, false)) (.no 81 "") = Rs.ok q from h2)
      cases h4
      exact .inr ⟨0, e, rfl, rfl, h3, rfl⟩
    | false =>
      obtain ⟨r, h3, h4⟩ := Rs.bind_ok (show ((mapPut P hh t key x clock es).bind fun r => .ok (e :: r.1, r.2)) = Rs.ok q from h2)
      cases h4
      rcases mapPut_ok (i + 1) h3 with ⟨f1, rfl⟩ | ⟨j, e', f1, f2, f3, rfl⟩
      · exact .inl ⟨f1, rfl⟩
      · refine .inr ⟨j + 1, e', ?_, by simpa using f2, f3, rfl⟩
        show findR P hh t key es (i + 1) = _
        rw [f1, show i + 1 + j = i + (j + 1) by omega]

theorem mapAt (hS : SRel φ st w) {b : Nat} {es : List MapEntry} {clock : Nat} {L : Loc} (hb : st.heap.get b = some (.map es clock)) (hL : φ b = some L) :
    ∃ fs, w.heap[L.blk]? = some (.map fs clock) ∧ es.length = fs.size ∧ ∀ (i : Nat) (e f : MapEntry), es[i]? = some e → fs[i]? = some f → ERel φ e f := by
  obtain ⟨o, h1, h2⟩ := hS.mem.objAt hb hL
  cases h2 with
  | map k1 k2 => exact ⟨_, h1, k1, k2⟩
theorem map_push {es : List MapEntry} {fs : Array MapEntry} {L : Loc} {clock : Nat} (h1 : es.length = fs.size) (h2 : ∀ (i : Nat) (e f : MapEntry), es[i]? = some e → fs[i]? = some f → ERel φ e f) {e f : MapEntry} (he : ERel φ e f) : ORel φ L (.map (es ++ [e]) clock) (.map (fs.push f) clock) := by
  refine .map (by simp [h1]) fun i a b ha hb => ?_
  rw [Array.getElem?_push] at hb
  by_cases hi : i = fs.size
  · rw [if_pos hi] at hb
    cases hb
    rw [List.getElem?_append_right (by omega), hi, h1] at ha
    simp at ha
    subst ha
    exact he
  · rw [if_neg hi] at hb
    have : i < es.length := by
      rcases Nat.lt_or_ge i fs.size with x | x
      · omega
      · rw [Array.getElem?_eq_none x] at hb; cases hb
    rw [List.getElem?_append_left this] at ha
    exact h2 i a b ha hb
theorem map_set {es : List MapEntry} {fs : Array MapEntry} {L : Loc} {clock j : Nat} (h1 : es.length = fs.size) (h2 : ∀ (i : Nat) (e f : MapEntry), es[i]? = some e → fs[i]? = some f → ERel φ e f) {e : MapEntry} {g : MapEntry → MapEntry}
    (he : ∀ f, fs[j]? = some f → ERel φ e (g f)) : ORel φ L (.map (es.set j e) clock) (.map (fs.modify j g) clock) := by
  refine .map (by simp [h1]) fun i a b ha hb => ?_
  rw [Array.getElem?_modify] at hb
  by_cases hi : j = i
  · subst hi
    rw [if_pos rfl] at hb
    obtain ⟨f, hf, rfl⟩ := Option.map_eq_some_iff.1 hb
    have hlt : j < es.length := by have := (Array.getElem?_eq_some_iff.1 hf).1; omega
    rw [List.getElem?_set_self hlt] at ha
    cases ha
    exact he f hf
  · rw [if_neg hi] at hb
    rw [List.getElem?_set_ne hi] at ha
    exact h2 i a b ha hb

theorem eMapPut_ok (hS : SRel φ st w) {t : TypeId} {m key x m' key' x' : Value} {k : Value → St → Rs β} {r : β} (h : eMapPut P st t m key x k = .ok r) (hm : VRel φ m m') (hk : VRel φ key key') (hx : VRel φ x x') :
    ActU P φ st w (Instr.mapUpdate t m' key' x') k r := by
  unfold eMapPut at h
  obtain ⟨u, hu, h1⟩ := Rs.bind_ok h
  split at h1 <;> first | (cases h1; done) | skip
  rename_i kt el b
  unfold eMapPut2 at h1
  split at h1 <;> first | (cases h1; done) | skip
  rename_i es clock hb
  obtain ⟨h2, h3⟩ := ifb_no h1
  obtain ⟨q, h4, h5⟩ := Rs.bind_ok h3
  rw [natK_eq, St.put_eq] at h5
  cases hm with
  | @map _ L hL =>
    obtain ⟨fs, hw, k1, k2⟩ := mapAt hS hb hL
    have nc : ∀ c e fr, Obj.map fs clock ≠ .cells c e fr := fun _ _ _ e => by cases e
    have find := fun r => @findR_ok P φ st.heap w hS.mem kt key key' es fs.toList r h2 hk
    have k2' : ∀ (i : Nat) (e f : MapEntry), es[i]? = some e → fs.toList[i]? = some f → ERel φ e f := fun i e f a b => k2 i e f a (by simpa using b)
    unfold Instr.mapUpdate
    rcases mapPut_ok 0 h4 with ⟨f1, rfl⟩ | ⟨j, e, f1, f2, f3, rfl⟩
    · obtain ⟨r', g1, g2⟩ := find _ f1 (by simpa using k1) k2'
      have : r' = none := by
        rcases g2 with ⟨_, g⟩ | ⟨_, _, _, g, _⟩
        · exact g
        · cases g
      subst this
      have hE : ERel φ ⟨key, x, clock⟩ ⟨key', x', clock⟩ := ⟨hk, hx, rfl⟩
      have hp := Post.put (x := .map es clock) (y := .map (es ++ [⟨key, x, clock⟩]) (clock + 1)) (q := .map (fs.push ⟨key', x', clock⟩) (clock + 1)) hS hb rfl hL hw (map_push k1 k2 hE)
      refine ⟨_, φ, _, ?_, hp, h5⟩
      simp only [Sem.run_bind, undT_run hu, Result.andThen_ok, run_getObj hw nc, checkKey_ok h2 hk, g1, run_setObj hw nc]
    · obtain ⟨r', g1, g2⟩ := find _ f1 (by simpa using k1) k2'
      obtain ⟨v', rfl⟩ : ∃ v', r' = some (j, v') := by
        rcases g2 with ⟨g, _⟩ | ⟨j', v, v', g, g', _⟩
        · cases g
        · cases g
          exact ⟨v', by rw [g']; simp⟩
      have hj : j < fs.size := by
        have := (List.getElem?_eq_some_iff.1 f2).1
        omega
      have hfj : fs[j]? = some fs[j] := Array.getElem?_eq_getElem hj
      have hE := k2 j e fs[j] f2 hfj
      have hp := Post.put (x := .map es clock) (y := .map (es.set j { e with key := key, val := x }) clock) (q := .map (fs.modify j fun e => { e with key := key', val := x' }) clock) hS hb rfl hL hw (map_set k1 k2 fun f hf => ⟨hk, hx, (k2 j e f f2 hf).2.2⟩)
      refine ⟨_, φ, _, ?_, hp, h5⟩
      · simp only [Sem.run_bind, undT_run hu, Result.andThen_ok, run_getObj hw nc, checkKey_ok h2 hk, g1, hfj, Option.map_some, Option.getD_some]
        rw [stays f3 hk hE.1]
        simp only [Result.andThen_ok, run_setObj hw nc]
end
end Go.Proofs.YtbakhdgiimjnkaaGreatDoor.Abs
