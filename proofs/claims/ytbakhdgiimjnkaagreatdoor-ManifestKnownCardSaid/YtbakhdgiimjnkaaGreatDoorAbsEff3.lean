/-
  Iterators, entries of maps.
-/
import Derived.Test.YtbakhdgiimjnkaaGreatDoorAbsEff2
namespace Go.Proofs.YtbakhdgiimjnkaaGreatDoor.Abs
section
variable {P : Program} {φ : Phi} {st : St} {w : World} {β : Type}

/-- entries of maps, one by one -/
inductive EsR (φ : Phi) : List MapEntry → List MapEntry → Prop where
  | nil : EsR φ [] []
  | cons {e f : MapEntry} {es fs : List MapEntry} (h : ERel φ e f) (t : EsR φ es fs) : EsR φ (e :: es) (f :: fs)
theorem EsR.of : ∀ {es fs : List MapEntry}, es.length = fs.length → (∀ (i : Nat) (e f : MapEntry), es[i]? = some e → fs[i]? = some f → ERel φ e f) → EsR φ es fs
  | [], [], _, _ => .nil
  | [], _ :: _, h, _ => by simp at h
  | _ :: _, [], h, _ => by simp at h
  | e :: es, f :: fs, h, k => .cons (k 0 e f rfl rfl) (EsR.of (by simpa using h) fun i a b x y => k (i + 1) a b (by simpa using x) (by simpa using y))
theorem EsR.to {es fs : List MapEntry} (h : EsR φ es fs) : es.length = fs.length ∧ ∀ (i : Nat) (e f : MapEntry), es[i]? = some e → fs[i]? = some f → ERel φ e f := by
  induction h with
  | nil => exact ⟨rfl, fun i e f a => by simp at a⟩
  | cons h _ ih =>
    refine ⟨by simp [ih.1], fun i a b x y => ?_⟩
    cases i with
    | zero =>
      cases x
      cases y
      exact h
    | succ i => exact ih.2 i a b (by simpa using x) (by simpa using y)
theorem EsR.obj {es fs : List MapEntry} (h : EsR φ es fs) (L : Loc) (clock : Nat) : ORel φ L (.map es clock) (.map ⟨fs⟩ clock) := .map (by simpa using h.to.1) fun i e f a b => h.to.2 i e f a (by simpa using b)
theorem EsR.filter {es fs : List MapEntry} (h : EsR φ es fs) (q : Nat → Bool) : EsR φ (es.filter fun e => q e.born) (fs.filter fun e => q e.born) := by
  induction h with
  | nil => exact .nil
  | cons h _ ih =>
    rw [List.filter_cons, List.filter_cons, h.2.2]
    split
    · exact .cons h ih
    · exact ih
theorem EsR.any {es fs : List MapEntry} (h : EsR φ es fs) (q : Nat → Bool) : (es.any fun e => q e.born) = fs.any fun e => q e.born := by
  induction h with
  | nil => rfl
  | cons h _ ih => rw [List.any_cons, List.any_cons, h.2.2, ih]
theorem EsR.mem {es fs : List MapEntry} (h : EsR φ es fs) {e : MapEntry} (he : e ∈ es) : ∃ f, f ∈ fs ∧ ERel φ e f := by
  induction h with
  | nil => cases he
  | cons h _ ih =>
    rcases List.mem_cons.1 he with rfl | he
    · exact ⟨_, List.mem_cons_self, h⟩
    · obtain ⟨f, a, b⟩ := ih he
      exact ⟨f, List.mem_cons_of_mem _ a, b⟩
theorem EsR.find {es fs : List MapEntry} (h : EsR φ es fs) (q : Nat → Bool) {e : MapEntry} (he : (es.find? fun e => q e.born) = some e) : ∃ f, (fs.find? fun e => q e.born) = some f ∧ ERel φ e f := by
  induction h with
  | nil => cases he
  | cons h _ ih =>
    rw [List.find?_cons] at he ⊢
    rw [← h.2.2]
    split at he
    · cases he
      exact ⟨_, rfl, h⟩
    · exact ih he
theorem EsR.mono {ψ : Phi} (hle : φ.le ψ) {es fs : List MapEntry} (h : EsR φ es fs) : EsR ψ es fs := by
  induction h with
  | nil => exact .nil
  | cons h _ ih => exact .cons ⟨h.1.mono hle, h.2.1.mono hle, h.2.2⟩ ih
theorem mapAtL (hS : SRel φ st w) {b : Nat} {es : List MapEntry} {clock : Nat} {L : Loc} (hb : st.heap.get b = some (.map es clock)) (hL : φ b = some L) : ∃ fs, w.heap[L.blk]? = some (.map ⟨fs⟩ clock) ∧ EsR φ es fs := by
  obtain ⟨fs, h1, h2, h3⟩ := mapAt hS hb hL
  exact ⟨fs.toList, h1, .of (by simpa using h2) fun i e f a b => h3 i e f a (by simpa using b)⟩

theorem tup2 {a b a' b' : Value} (ha : VRel φ a a') (hb : VRel φ b b') : VRel φ (.tuple #[a, b]) (.tuple #[a', b']) := by
  refine .tuple rfl fun i v v' x y => ?_
  match i with
  | 0 => cases x; cases y; exact ha
  | 1 => cases x; cases y; exact hb
  | n + 2 => simp at x
theorem tup3 {a b c a' b' c' : Value} (ha : VRel φ a a') (hb : VRel φ b b') (hc : VRel φ c c') : VRel φ (.tuple #[a, b, c]) (.tuple #[a', b', c']) := by
  refine .tuple rfl fun i v v' x y => ?_
  match i with
  | 0 => cases x; cases y; exact ha
  | 1 => cases x; cases y; exact hb
  | 2 => cases x; cases y; exact hc
  | n + 3 => simp at x
theorem tup1 {a a' : Value} (ha : VRel φ a a') : VRel φ (.tuple #[a]) (.tuple #[a']) := by
  refine .tuple rfl fun i v v' x y => ?_
  match i with
  | 0 => cases x; cases y; exact ha
  | n + 1 => simp at x

theorem eRange_ok (hS : SRel φ st w) {t : TypeId} {x x' : Value} {k : Value → St → Rs β} {r : β} (h : eRange P st t x k = .ok r) (hx : VRel φ x x') : Act P φ st w (Instr.range t x') k r := by
  unfold eRange at h
  obtain ⟨u, hu, h1⟩ := Rs.bind_ok h
  unfold Instr.range
  have fin : ∀ (x : AObj) (o : Obj) (s : Sem Obj), s.run P w = .ok o w → (∀ ψ : Phi, φ.le ψ → ORel ψ ⟨w.heap.size, 0, 0, 0⟩ x o) → st.new x (fun n => k (.pointer (some ⟨n, 0, none⟩))) = .ok r →
      Act P φ st w (do let it ← s; pure (.pointer (some ⟨← newObj it, 0, none⟩))) k r := by
    intro x o s hs hx hk
    rw [St.new_eq] at hk
    refine ⟨_, _, φ.add st.next ⟨w.heap.size, 0, 0, 0⟩, .pointer (some ⟨w.heap.size, 0, none⟩), _, ?_, Post.new hS x o ⟨w.heap.size, 0, 0, 0⟩ rfl hx, ?_, hk⟩
    · simp [hs]
    · exact .ptr (L := ⟨w.heap.size, 0, 0, 0⟩) 0 (Phi.add_same _ _ _)
  split at h1 <;> first | (cases h1; done) | skip
  · cases hx
    have := fin _ _ (pure (.stringIter _ 0)) rfl (fun ψ _ => .str rfl _ _) h1
    obtain ⟨v, st', ψ, v', w', a, b⟩ := this
    exact ⟨v, st', ψ, v', w', by simpa [undT_run hu] using a, b⟩
  · cases hx
    have := fin _ _ (pure (.mapIter none 0 #[] 0)) rfl (fun ψ _ => .nilIter rfl _ _ _) h1
    obtain ⟨v, st', ψ, v', w', a, b⟩ := this
    exact ⟨v, st', ψ, v', w', by simpa [undT_run hu] using a, b⟩
  · split at h1 <;> first | (cases h1; done) | skip
    rename_i hb
    cases hx with
    | map hL =>
      obtain ⟨fs, hw, _⟩ := mapAtL hS hb hL
      have hg := run_getObj (P := P) hw (fun _ _ _ e => by cases e)
      have := fin _ _ (pure (.mapIter (some _) _ #[] _)) rfl (fun ψ hle => .iter rfl (hle _ _ hL) _ _ _) h1
      obtain ⟨v, st', ψ, v', w', a, b⟩ := this
      exact ⟨v, st', ψ, v', w', by simpa [undT_run hu, hg] using a, b⟩

theorem eNextStr_ok (hS : SRel φ st w) {b pos : Nat} {s : ByteArray} {L : Loc} {t : TypeId} {k : Value → St → Rs β} {r : β} (hb : st.heap.get b = some (.str s pos)) (hL : φ b = some L) (h : eNextStr st b s pos k = .ok r) :
    Act P φ st w (Instr.next (.pointer (some ⟨L.blk, L.base + 0, none⟩)) true t) k r := by
  obtain ⟨o, h1, h2⟩ := hS.mem.objAt hb hL
  cases h2 with
  | str hbase s pos =>
    unfold eNextStr at h
    have hsz : lenN s.data.toList = s.size := by rw [lenN_eq]; exact Array.length_toList
    have nc : ∀ c e fr, Obj.stringIter s pos ≠ .cells c e fr := fun _ _ _ e => by cases e
    unfold Instr.next
    rw [hbase]
    rcases ifb_ok h with ⟨c1, c2⟩ | ⟨c1, c2⟩
    · rw [natK_eq, natK_eq, St.put_eq] at c2
      rw [hsz] at c1
      have hlt : pos < s.size := by simpa using c1
      refine ⟨_, _, φ, _, _, ?_, Post.put (q := .stringIter s (pos + (Utf8.decode s pos).2)) hS hb rfl hL h1 (.str hbase _ _), tup3 (.bool _) (.int _ _) (.int _ _), c2⟩
      simp only [Sem.run_bind, run_getObj h1 nc, Result.andThen_ok, hlt, if_true, run_setObj h1 nc, Sem.run_pure]
      rfl
    · rw [hsz] at c1
      have hlt : ¬ pos < s.size := by
        have := Nat.blt_eq (x := pos) (y := s.size)
        rw [c1] at this
        simpa using this
      refine ⟨_, st, φ, _, w, ?_, .refl hS, tup1 (.bool _), c2⟩
      simp only [Sem.run_bind, run_getObj h1 nc, Result.andThen_ok, hlt, if_false, Sem.run_pure]

theorem cont_any (l : List Nat) (b : Nat) : (l.any fun x => Nat.beq x b) = l.contains b := by
  induction l with
  | nil => rfl
  | cons x l ih =>
    rw [List.any_cons, List.contains_cons, ih]
    congr 1
    by_cases e : x = b
    · subst e; simp
    · have : Nat.beq x b = false := by
        cases hq : Nat.beq x b with
        | false => rfl
        | true => exact absurd (Nat.eq_of_beq_eq_true hq) e
      rw [this]
      symm
      rw [beq_eq_false_iff_ne]
      exact fun h => e h.symm
theorem filt (fs : List MapEntry) (l : List Nat) : ((⟨fs⟩ : Array MapEntry).filter fun e => !(⟨l⟩ : Array Nat).contains e.born) = ⟨fs.filter fun e => !(l.any fun x => Nat.beq x e.born)⟩ := by
  apply Array.ext'
  rw [Array.toList_filter]
  congr 1
  funext e
  rw [cont_any]
  simp
theorem forced_one (w : World) : (choose (.mapNext 1)).run P w = .ok 0 w := by rw [run_choose]; rfl

theorem eNextMap_ok (hS : SRel φ st w) {b m since stepped : Nat} {seen : List Nat} {L : Loc} {t : TypeId} {k : Value → St → Rs β} {r : β} (hb : st.heap.get b = some (.iter (some m) since seen stepped)) (hL : φ b = some L)
    (h : eNextMap st b m since seen stepped (st.heap.get m) k = .ok r) : Act P φ st w (Instr.next (.pointer (some ⟨L.blk, L.base + 0, none⟩)) false t) k r := by
  obtain ⟨o, h1, h2⟩ := hS.mem.objAt hb hL
  cases h2 with
  | @iter _ M hbase hM =>
    unfold eNextMap at h
    split at h <;> first | (cases h; done) | skip
    rename_i es clock hm
    obtain ⟨fs, hw, hE⟩ := mapAtL hS hm hM
    have nc : ∀ c e fr, Obj.mapIter (some M.blk) since ⟨seen⟩ stepped ≠ .cells c e fr := fun _ _ _ e => by cases e
    have hg1 := run_getObj (P := P) h1 nc
    have hg2 := run_getObj (P := P) hw (fun _ _ _ e => by cases e)
    have hF := hE.filter fun n => !(seen.any fun x => Nat.beq x n)
    have over : (fs.filter fun e => !(seen.any fun x => Nat.beq x e.born)) = [] → (¬ ((!(⟨seen⟩ : Array Nat).isEmpty && !(⟨fs⟩ : Array MapEntry).isEmpty && (⟨fs⟩ : Array MapEntry).all fun e => decide (e.born ≥ stepped)) = true)) → k (.tuple #[.bool false]) st = .ok r →
        Act P φ st w (Instr.next (.pointer (some ⟨L.blk, L.base + 0, none⟩)) false t) k r := by
      intro o1 o2 o3
      refine ⟨_, st, φ, _, w, ?_, .refl hS, tup1 (.bool false), o3⟩
      unfold Instr.next
      rw [hbase]
      simp only [Sem.run_bind, hg1, Result.andThen_ok, hg2]
      rw [if_neg o2, filt, o1]
      simp [Question.forced]
    have notall : (es.any fun e => Nat.blt e.born stepped) = true → ¬ ((!(⟨seen⟩ : Array Nat).isEmpty && !(⟨fs⟩ : Array MapEntry).isEmpty && (⟨fs⟩ : Array MapEntry).all fun e => decide (e.born ≥ stepped)) = true) := by
      intro ha hc
      rw [hE.any fun n => Nat.blt n stepped] at ha
      obtain ⟨f, hf1, hf2⟩ := List.any_eq_true.1 ha
      simp only [Bool.and_eq_true] at hc
      have hc2 := hc.2
      simp at hc2
      have := hc2 f hf1
      have h3 : f.born < stepped := by simpa using hf2
      omega
    generalize h3 : (es.filter fun e => !(seen.any fun x => Nat.beq x e.born)) = le at h hF
    generalize hq : (fs.filter fun e => !(seen.any fun x => Nat.beq x e.born)) = lf at hF over
    cases hF with
    | nil =>
      cases seen with
      | nil => exact over rfl (by simp) h
      | cons b0 bs =>
        obtain ⟨h5, h6⟩ := ifb_no h
        refine over rfl ?_ h6
        rcases Bool.or_eq_true_iff.1 h5 with h7 | h7
        · exact notall h7
        · have : es = [] := by simpa using h7
          subst this
          cases hE
          simp
    | @cons e f es2 fs2 he ht =>
      cases ht with
      | cons _ _ => cases h
      | nil =>
        obtain ⟨h5, h6⟩ := ifb_no h
        rw [St.put_eq] at h6
        simp only [Bool.and_eq_true] at h5
        have hin : e ∈ es := by
          have : e ∈ es.filter fun e => !(seen.any fun x => Nat.beq x e.born) := by rw [h3]; exact List.mem_cons_self
          exact (List.mem_filter.1 this).1
        have hsince : f.born < since := by rw [← he.2.2]; simpa using h5.1
        have hn := notall (List.any_eq_true.2 ⟨e, hin, h5.2⟩)
        refine ⟨_, _, φ, .tuple #[.bool true, f.key, f.val], _, ?_, Post.put (q := .mapIter (some M.blk) since ⟨seen ++ [e.born]⟩ clock) hS hb rfl hL h1 (.iter hbase hM _ _ _), tup3 (.bool _) he.1 he.2.1, h6⟩
        unfold Instr.next
        rw [hbase]
        simp only [Sem.run_bind, hg1, Result.andThen_ok, hg2]
        rw [if_neg hn, filt, hq]
        have hge : ¬ since ≤ f.born := by omega
        simp [hsince, hge, Question.forced, run_setObj h1 nc, he.2.2]
end
end Go.Proofs.YtbakhdgiimjnkaaGreatDoor.Abs
