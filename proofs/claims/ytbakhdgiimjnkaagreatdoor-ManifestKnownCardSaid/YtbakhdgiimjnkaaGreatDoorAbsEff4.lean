/-
  Steps and entries of maps, deletions.
-/
import Derived.Test.YtbakhdgiimjnkaaGreatDoorAbsEff3
namespace Go.Proofs.YtbakhdgiimjnkaaGreatDoor.Abs
section
variable {P : Program} {φ : Phi} {st : St} {w : World} {β : Type}

theorem beq_nat (x b : Nat) : Nat.beq x b = (x == b) := by
  by_cases e : x = b
  · subst e; simp
  · have : Nat.beq x b = false := by
      cases hq : Nat.beq x b with
      | false => rfl
      | true => exact absurd (Nat.eq_of_beq_eq_true hq) e
    rw [this]
    symm
    rw [beq_eq_false_iff_ne]
    exact e
theorem eNext_ok (hS : SRel φ st w) {b : Bool} {it it' : Value} {t : TypeId} {k : Value → St → Rs β} {r : β} (h : eNext st b it k = .ok r) (hx : VRel φ it it') : Act P φ st w (Instr.next it' b t) k r := by
  unfold eNext at h
  split at h <;> first | (cases h; done) | skip
  rename_i a
  unfold eNext2 at h
  cases hx with
  | @ptr _ L _ hL =>
    split at h <;> first | (cases h; done) | skip
    · rename_i hb
      exact eNextStr_ok hS hb hL h
    · rename_i hb
      obtain ⟨o, h1, h2⟩ := hS.mem.objAt hb hL
      cases h2 with
      | nilIter hbase =>
        refine ⟨_, st, φ, _, w, ?_, .refl hS, tup1 (.bool false), h⟩
        unfold Instr.next
        rw [hbase]
        simp [run_getObj h1 (fun _ _ _ e => by cases e)]
    · rename_i hb
      exact eNextMap_ok hS hb hL h

theorem eEntry_ok (hS : SRel φ st w) {it it' : Value} {k : Value → St → Rs β} {r : β} (h : eEntry st it k = .ok r) (hx : VRel φ it it') : Act P φ st w (Instr.entry it') k r := by
  unfold eEntry at h
  split at h <;> first | (cases h; done) | skip
  split at h <;> first | (cases h; done) | skip
  rename_i m since seen stepped hb
  split at h <;> first | (cases h; done) | skip
  rename_i b hl
  unfold eEntry2 at h
  split at h <;> first | (cases h; done) | skip
  rename_i es clock hm
  obtain ⟨h1, h2⟩ := ifb_no h
  split at h2 <;> first | (cases h2; done) | skip
  rename_i e he
  cases hx with
  | @ptr _ L _ hL =>
    obtain ⟨o, g1, g2⟩ := hS.mem.objAt hb hL
    cases g2 with
    | @iter _ M hbase hM =>
      obtain ⟨fs, hw, hE⟩ := mapAtL hS hm hM
      obtain ⟨f, hf, hR⟩ := hE.find (fun n => Nat.beq n b) he
      refine ⟨_, st, φ, .tuple #[f.key, f.val], w, ?_, .refl hS, tup2 hR.1 hR.2.1, h2⟩
      have hcs : clock = stepped := Nat.eq_of_beq_eq_true h1
      have hback : (⟨seen⟩ : Array Nat).back? = some b := by simpa [Array.back?_eq_getElem?, List.getLast?_eq_getElem?] using hl
      have hf' : (⟨fs⟩ : Array MapEntry).find? (fun e => e.born == b) = some f := by
        rw [← Array.find?_toList]
        have : (fun e : MapEntry => e.born == b) = fun e => Nat.beq e.born b := by
          funext e
          exact (beq_nat e.born b).symm
        rw [this]
        exact hf
      unfold Instr.entry
      rw [hbase]
      simp only [Sem.run_bind, run_getObj g1 (fun _ _ _ e => by cases e), Result.andThen_ok, hback, run_getObj hw (fun _ _ _ e => by cases e), hcs, bne_self_eq_false, Bool.false_eq_true, if_false, hf', Sem.run_pure]

theorem eMapEntry_ok (hS : SRel φ st w) {t : TypeId} {m key m' key' : Value} {k : Value → St → Rs β} {r : β} (h : eMapEntry P st t m key k = .ok r) (hm : VRel φ m m') (hk : VRel φ key key') :
    Act P φ st w (Instr.mapEntry t m' key') k r := by
  unfold eMapEntry at h
  obtain ⟨u, hu, h1⟩ := Rs.bind_ok h
  split at h1 <;> first | (cases h1; done) | skip
  rename_i kt el b
  split at h1 <;> first | (cases h1; done) | skip
  rename_i es clock hb
  obtain ⟨h2, h3⟩ := ifb_no h1
  obtain ⟨q, f1, h5⟩ := Rs.bind_ok h3
  cases hm with
  | @map _ L hL =>
    obtain ⟨fs, hw, k1, k2⟩ := mapAt hS hb hL
    have nc : ∀ c e fr, Obj.map fs clock ≠ .cells c e fr := fun _ _ _ e => by cases e
    have k2' : ∀ (i : Nat) (e f : MapEntry), es[i]? = some e → fs.toList[i]? = some f → ERel φ e f := fun i e f a b => k2 i e f a (by simpa using b)
    obtain ⟨r', g1, g2⟩ := findR_ok (P := P) hS.mem h2 hk f1 (by simpa using k1) k2'
    unfold Instr.mapEntry
    rcases g2 with ⟨rfl, rfl⟩ | ⟨j, v, v', rfl, rfl, hv⟩
    · obtain ⟨z, h6, h7⟩ := Rs.bind_ok h5
      rw [natK_eq, St.put_eq] at h7
      obtain ⟨z1, z2⟩ := zeroT_ok h6
      have hE : ERel φ ⟨key, z, clock⟩ ⟨key', z, clock⟩ := ⟨hk, z2.rel φ, rfl⟩
      have hp := Post.put (x := .map es clock) (y := .map (es ++ [⟨key, z, clock⟩]) (clock + 1)) (q := .map (fs.push ⟨key', z, clock⟩) (clock + 1)) hS hb rfl hL hw (map_push k1 k2 hE)
      refine ⟨_, _, φ, .tuple #[z, goInt clock], _, ?_, hp, tup2 (z2.rel φ) (.int _ _), h7⟩
      simp only [Sem.run_bind, undT_run hu, Result.andThen_ok, run_getObj hw nc, checkKey_ok h2 hk, g1, z1 w, run_setObj hw nc, Sem.run_pure]
    · obtain ⟨e, h6, h7⟩ := Rs.bind_ok h5
      obtain ⟨h8, h9⟩ := ifb_no h7
      have he := Rs.of_ok h6
      rw [nth_eq] at he
      have hj : j < fs.size := by
        have := (List.getElem?_eq_some_iff.1 he).1
        omega
      have hfj : fs[j]? = some fs[j] := Array.getElem?_eq_getElem hj
      have hE := k2 j e fs[j] he hfj
      obtain ⟨s1, s2, s3⟩ := sameKey_ok h8 hk hE.1
      have hmod : (fs.modify j fun e => { e with key := key' }) = fs := by
        apply Array.ext_getElem?
        intro i
        rw [Array.getElem?_modify]
        split
        · rename_i hij
          subst hij
          rw [hfj, Option.map_some, s2]
        · rfl
      refine ⟨_, st, φ, .tuple #[v', goInt fs[j].born], w, ?_, .refl hS, tup2 hv (by rw [hE.2.2]; exact .int _ _), h9⟩
      simp only [Sem.run_bind, undT_run hu, Result.andThen_ok, run_getObj hw nc, checkKey_ok h2 hk, g1, hfj, Option.map_some, Option.getD_some]
      rw [stays h8 hk hE.1]
      simp only [Result.andThen_ok, run_setObj hw nc, Sem.run_pure, hmod]
      congr 2
      apply Array.ext_getElem?
      intro i
      rw [Array.getElem?_setIfInBounds]
      split
      · rename_i hi
        subst hi
        rw [if_pos (Array.getElem?_eq_some_iff.1 hw).1, hw]
      · rfl

theorem bornSet_ok {b : Nat} {x x' : Value} (hx : VRel φ x x') : ∀ {es fs qs : List MapEntry}, bornSet b x es = some qs → EsR φ es fs → ∃ i, fs.findIdx? (fun e => (e.born : Int) == (b : Int)) = some i ∧ EsR φ qs (fs.modify i fun e => { e with val := x' })
  | [], _, _, h, _ => by cases h
  | e :: es, _, qs, h, .cons (f := f) (fs := fs) he ht => by
    have h' : ifb (Nat.beq e.born b) (some ({ e with val := x } :: es)) (Option.rec none (fun r => some (e :: r)) (bornSet b x es)) = some qs := h
    rw [ifb_eq] at h'
    have hbb : ((f.born : Int) == (b : Int)) = Nat.beq e.born b := by
      rw [← he.2.2]
      rw [Bool.eq_iff_iff, beq_iff_eq]
      constructor
      · intro q
        have : e.born = b := by omega
        rw [this]; simp
      · intro q
        rw [Nat.eq_of_beq_eq_true q]
    rw [List.findIdx?_cons, hbb]
    split at h'
    · rename_i hc
      cases h'
      rw [if_pos hc]
      exact ⟨0, rfl, .cons ⟨he.1, hx, he.2.2⟩ ht⟩
    · rename_i hc
      rw [if_neg hc]
      cases hs : bornSet b x es with
      | none => rw [hs] at h'; cases h'
      | some q2 =>
        rw [hs] at h'
        cases h'
        obtain ⟨i, h1, h2⟩ := bornSet_ok hx hs ht
        exact ⟨i + 1, by rw [h1]; rfl, .cons he h2⟩

theorem eEntryStore_ok (hS : SRel φ st w) {t : TypeId} {m b x m' b' x' : Value} {k : Value → St → Rs β} {r : β} (h : eEntryStore st m b x k = .ok r) (hm : VRel φ m m') (hb : VRel φ b b') (hx : VRel φ x x') :
    ActU P φ st w (Instr.entryStore t m' b' x') k r := by
  unfold eEntryStore at h
  split at h <;> first | (cases h; done) | skip
  rename_i rr kk bb
  split at h <;> first | (cases h; done) | skip
  rename_i es clock hg
  obtain ⟨qs, h1, h2⟩ := Rs.bind_ok h
  rw [St.put_eq] at h2
  cases hb
  cases hm with
  | @map _ L hL =>
    obtain ⟨fs, hw, hE⟩ := mapAtL hS hg hL
    have nc : ∀ c e fr, Obj.map ⟨fs⟩ clock ≠ .cells c e fr := fun _ _ _ e => by cases e
    obtain ⟨i, h3, h4⟩ := bornSet_ok hx (Rs.of_ok h1) hE
    have hp := Post.put (y := .map qs clock) hS hg rfl hL hw (h4.obj L clock)
    refine ⟨_, φ, _, ?_, hp, h2⟩
    unfold Instr.entryStore
    have hi : (⟨fs⟩ : Array MapEntry).findIdx? (fun e => (e.born : Int) == Int.ofNat bb) = some i := by
      rw [List.findIdx?_toArray]
      exact h3
    have hmod : ((⟨fs⟩ : Array MapEntry).modify i fun e => { e with val := x' }) = ⟨fs.modify i fun e => { e with val := x' }⟩ := by
      apply Array.ext'
      simp
    simp only [Sem.run_bind, run_getObj hw nc, Result.andThen_ok, asInt, asIntOf, Sem.run_pure, hi, run_setObj hw nc, hmod]

theorem mapDel_ok {hh : Tr AObj} {t : TypeId} {key : Value} : ∀ {es q : List MapEntry} (i : Nat), mapDel P hh t key es = .ok q →
    (findR P hh t key es i = .ok none ∧ q = es) ∨ ∃ j e, findR P hh t key es i = .ok (some (i + j, e)) ∧ q = es.eraseIdx j
  | [], q, i, h => by
    cases h
    exact .inl ⟨rfl, rfl⟩
  | e :: es, q, i, h => by
    have h' : ((keyEq P hh t key e.key).bind fun b => ifb b (.ok es) ((mapDel P hh t key es).bind fun r => .ok (e :: r))) = .ok q := h
    obtain ⟨b, h1, h2⟩ := Rs.bind_ok h'
    have hf : findR P hh t key (e :: es) i = (keyEq P hh t key e.key).bind fun b => ifb b (.ok (some (i, e.val))) (findR P hh t key es (i + 1)) := rfl
    rw [hf, h1]
    cases b with
    | true =>
      cases h2
      exact .inr ⟨0, e.val, rfl, rfl⟩
    | false =>
      obtain ⟨r, h3, h4⟩ := Rs.bind_ok (show ((mapDel P hh t key es).bind fun r => .ok (e :: r)) = Rs.ok q from h2)
      cases h4
      rcases mapDel_ok (i + 1) h3 with ⟨f1, rfl⟩ | ⟨j, e', f1, rfl⟩
      · exact .inl ⟨f1, rfl⟩
      · refine .inr ⟨j + 1, e', ?_, rfl⟩
        show findR P hh t key es (i + 1) = _
        rw [f1, show i + 1 + j = i + (j + 1) by omega]
theorem EsR.erase {es fs : List MapEntry} (h : EsR φ es fs) : ∀ j, EsR φ (es.eraseIdx j) (fs.eraseIdx j) := by
  induction h with
  | nil => exact fun _ => .nil
  | cons he ht ih =>
    intro j
    cases j with
    | zero => exact ht
    | succ j => exact .cons he (ih j)
theorem put_same {b : Nat} {o : Obj} (h : w.heap[b]? = some o) : ({ w with heap := w.heap.setIfInBounds b o } : World) = w := by
  have : w.heap.setIfInBounds b o = w.heap := by
    apply Array.ext_getElem?
    intro i
    rw [Array.getElem?_setIfInBounds]
    split
    · rename_i hi
      subst hi
      rw [if_pos (Array.getElem?_eq_some_iff.1 h).1, h]
    · rfl
  rw [this]

theorem eDelete_ok (hS : SRel φ st w) {ts : Array TypeId} {t ty : TypeId} {args : Array Value} {m key m' key' : Value} {k : Value → St → Rs β} {r : β} (ht : ts[0]? = some t) (h : eDelete P st t m key k = .ok r) (h0 : args[0]? = some m') (h1 : args[1]? = some key')
    (hm : VRel φ m m') (hk : VRel φ key key') : Act P φ st w (Builtin.delete_ ts ty args) k r := by
  unfold eDelete at h
  obtain ⟨u, hu, e1⟩ := Rs.bind_ok h
  unfold Builtin.delete_
  rw [ht, h0, h1]
  have und : VRel φ undefV (.tuple #[]) := .tuple rfl fun i v v' a => by simp at a
  split at e1 <;> first | (cases e1; done) | skip
  · obtain ⟨h2, h3⟩ := ifb_no e1
    cases hm
    refine ⟨_, st, φ, _, w, ?_, .refl hS, und, h3⟩
    simp only [Sem.run_bind, undT_run hu, Result.andThen_ok, checkKey_ok h2 hk, Sem.run_pure]
  · split at e1 <;> first | (cases e1; done) | skip
    rename_i es clock hb
    obtain ⟨h2, h3⟩ := ifb_no e1
    obtain ⟨q, h4, h5⟩ := Rs.bind_ok h3
    rw [St.put_eq] at h5
    cases hm with
    | @map _ L hL =>
      obtain ⟨fs, hw, hE⟩ := mapAtL hS hb hL
      have nc : ∀ c e fr, Obj.map ⟨fs⟩ clock ≠ .cells c e fr := fun _ _ _ e => by cases e
      rcases mapDel_ok 0 h4 with ⟨f1, rfl⟩ | ⟨j, e', f1, rfl⟩
      · obtain ⟨r', g1, g2⟩ := findR_ok (P := P) hS.mem h2 hk f1 hE.to.1 hE.to.2
        have : r' = none := by
          rcases g2 with ⟨_, g⟩ | ⟨_, _, _, g, _⟩
          · exact g
          · cases g
        subst this
        have hp := Post.put (y := .map q clock) hS hb rfl hL hw (hE.obj L clock)
        refine ⟨_, _, φ, _, _, ?_, hp, und, h5⟩
        simp only [Sem.run_bind, undT_run hu, Result.andThen_ok, run_getObj hw nc, checkKey_ok h2 hk, g1, run_setObj hw nc, Sem.run_pure]
      · obtain ⟨r', g1, g2⟩ := findR_ok (P := P) hS.mem h2 hk f1 hE.to.1 hE.to.2
        obtain ⟨v', rfl⟩ : ∃ v', r' = some (j, v') := by
          rcases g2 with ⟨g, _⟩ | ⟨j', v, v', g, g', _⟩
          · cases g
          · cases g
            exact ⟨v', by rw [g']; simp⟩
        have her : (⟨fs⟩ : Array MapEntry).eraseIdxIfInBounds j = ⟨fs.eraseIdx j⟩ := by
          apply Array.ext'
          rw [Array.toList_eraseIdxIfInBounds]
        have hp := Post.put (y := .map (es.eraseIdx j) clock) hS hb rfl hL hw ((hE.erase j).obj L clock)
        refine ⟨_, _, φ, _, _, ?_, hp, und, h5⟩
        simp only [Sem.run_bind, undT_run hu, Result.andThen_ok, run_getObj hw nc, checkKey_ok h2 hk, g1, run_setObj hw nc, Sem.run_pure, her]
end
end Go.Proofs.YtbakhdgiimjnkaaGreatDoor.Abs
