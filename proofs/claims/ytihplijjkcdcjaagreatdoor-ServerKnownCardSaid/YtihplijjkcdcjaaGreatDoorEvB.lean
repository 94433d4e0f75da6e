/-
  The evaluator and what is proved of it (several texts in one).
-/
import Derived.Test.YtihplijjkcdcjaaGreatDoorEvA
import Derived.Test.YtihplijjkcdcjaaGreatDoorPlA
set_option linter.unusedVariables false
set_option linter.unusedSimpArgs false
/-
  THE EVALUATOR'S OWN WALK: functions outside the program, unsafe strings, pointers that are compared. (Rules; no program in sight.)
-/
namespace Go.Proofs.YtihplijjkcdcjaaGreatDoor.Abs
section
set_option linter.unusedVariables false
variable {P : Program} {Sm : Summ} {Q : Ans → Prop}
/-- what was there stays, but one block and those beyond a line -/
structure KeepB (b lo : Nat) (s s' : St) : Prop where
  wf : s'.wf
  next : s.next ≤ s'.next
  old : ∀ c x, c < lo → c ≠ b → s.heap.get c = some x → s'.heap.get c = some x
theorem KeepB.refl {b lo : Nat} {s : St} (h : s.wf) : KeepB b lo s s := ⟨h, Nat.le_refl _, fun _ _ _ _ h => h⟩
theorem KeepB.trans {b lo : Nat} {s s' s'' : St} (h : KeepB b lo s s') (k : KeepB b lo s' s'') : KeepB b lo s s'' := ⟨k.wf, Nat.le_trans h.next k.next, fun c x h1 h2 h3 => k.old c x h1 h2 (h.old c x h1 h2 h3)⟩
end
end Go.Proofs.YtihplijjkcdcjaaGreatDoor.Abs

/-
  THE EVALUATOR'S OWN WALK: slices that are put behind, cut and shifted in place. (Rules; no program in sight.)
-/
namespace Go.Proofs.YtihplijjkcdcjaaGreatDoor.Abs
section
set_option linter.unusedVariables false
variable {P : Program}

theorem Keep.grow {s s' : St} (h : Keep s s') {n : Nat} (hn : s'.next ≤ n) : Keep s ⟨s'.heap, n⟩ := ⟨fun b x e => Nat.lt_of_lt_of_le (h.wf b x e) hn, Nat.le_trans h.next hn, h.old⟩
/-- a slice that may be put something behind: none; without room; or one's own, from a place on -/
inductive Vec (st : St) (e : TypeId) (sz : Nat) : Value → Nat → List Value → Prop where
  | nil : Vec st e sz (.slice none 0 0) 0 []
  | full {a : Addr} {n : Nat} {cs : List Value} (h : srcCells st.heap sz (.slice (some a) n n) = .ok (n, cs)) : Vec st e sz (.slice (some a) n n) n cs
  | room {b o n : Nat} {l cs : List Value} (hb : st.heap.get b = some (.cells l e sz true (0, 0))) (ho : o % sz = 0) (hl : o + n * sz ≤ l.length ∧ o < l.length) (hc : (l.drop o).take (n * sz) = cs) : Vec st e sz (.slice (some ⟨b, o, none⟩) n open_) n cs
/-- the block that such a slice owns -/
def inRoom (v : Value) (b : Nat) : Prop := ∃ o n, v = .slice (some ⟨b, o, none⟩) n open_
/-- the block of a slice -/
def inBlk (v : Value) (b : Nat) : Prop := ∃ o n c, v = .slice (some ⟨b, o, none⟩) n c
theorem inRoom.blk {v : Value} {b : Nat} (h : inRoom v b) : inBlk v b := ⟨_, _, _, h.choose_spec.choose_spec⟩
theorem src_room {st : St} {e : TypeId} {sz b o n c : Nat} {l : List Value} (hb : st.heap.get b = some (.cells l e sz true (0, 0))) (hl : o + n * sz ≤ l.length) : srcCells st.heap sz (.slice (some ⟨b, o, none⟩) n c) = .ok (n, (l.drop o).take (n * sz)) := by
  show (match st.heap.get b with
    | some (.cells l _ _ _ _) => (Rs.of 75 (cutN l o (n * sz))).bind fun cs => Rs.ok (n, cs)
    | some (.const l _) => (Rs.of 75 (cutN l o (n * sz))).bind fun cs => Rs.ok (n, cs)
    | _ => .no 75 "") = _
  rw [hb]
  show (Rs.of 75 (cutN l o (n * sz))).bind _ = _
  rw [cutN_eq, if_pos (by omega)]
  rfl
theorem Vec.src {s : St} {e : TypeId} {sz : Nat} {v : Value} {n : Nat} {cs : List Value} (h : Vec s e sz v n cs) : srcCells s.heap sz v = .ok (n, cs) ∧ ∃ a c, v = .slice a n c := by
  cases h with
  | nil => exact ⟨rfl, _, _, rfl⟩
  | full h => exact ⟨h, _, _, rfl⟩
  | room hb ho hl hc => exact ⟨by rw [src_room hb hl.1, hc], _, _, rfl⟩
/-- what a slice's cells are, by its block -/
theorem src_parts {h : Tr AObj} {sz b o n c : Nat} {cs : List Value} (e : srcCells h sz (.slice (some ⟨b, o, none⟩) n c) = .ok (n, cs)) : ∃ l, objCells (h.get b) = .ok l ∧ (l.drop o).take (n * sz) = cs ∧ n * sz ≤ l.length - o := by
  have key : ∀ l, (Rs.of 75 (cutN l o (n * sz))).bind (fun cs => Rs.ok (n, cs)) = .ok (n, cs) → (l.drop o).take (n * sz) = cs ∧ n * sz ≤ l.length - o := fun l e => by
    rw [cutN_eq] at e
    by_cases hx : n * sz ≤ l.length - o
    · rw [if_pos hx] at e
      have e2 : Rs.ok (n, (l.drop o).take (n * sz)) = Rs.ok (n, cs) := e
      exact ⟨(Prod.mk.inj (Rs.ok.inj e2)).2, hx⟩
    · rw [if_neg hx] at e
      cases e
  have e' : (match h.get b with
    | some (.cells l _ _ _ _) => (Rs.of 75 (cutN l o (n * sz))).bind fun cs => Rs.ok (n, cs)
    | some (.const l _) => (Rs.of 75 (cutN l o (n * sz))).bind fun cs => Rs.ok (n, cs)
    | _ => .no 75 "") = .ok (n, cs) := e
  split at e' <;> first | (cases e'; done) | skip
  · rename_i hb
    exact ⟨_, by rw [hb]; rfl, key _ e'⟩
  · rename_i hb
    exact ⟨_, by rw [hb]; rfl, key _ e'⟩
theorem src_mono {s s' : St} {sz : Nat} {v : Value} {q : Nat × List Value} (hk : ∀ b x, inBlk v b → s.heap.get b = some x → s'.heap.get b = some x) (e : srcCells s.heap sz v = .ok q) : srcCells s'.heap sz v = .ok q := by
  unfold srcCells at e ⊢
  split at e <;> first | (exact e) | skip
  split at e <;> first | (cases e; done) | skip
  · rename_i hb
    rw [hk _ _ ⟨_, _, _, rfl⟩ hb]
    exact e
  · rename_i hb
    rw [hk _ _ ⟨_, _, _, rfl⟩ hb]
    exact e
theorem Vec.mono {s s' : St} {e : TypeId} {sz : Nat} {v : Value} {n : Nat} {cs : List Value} (hk : ∀ b x, inBlk v b → s.heap.get b = some x → s'.heap.get b = some x) (h : Vec s e sz v n cs) : Vec s' e sz v n cs := by
  cases h with
  | nil => exact .nil
  | full h => exact .full (src_mono hk h)
  | room hb ho hl hc => exact .room (hk _ _ ⟨_, _, _, rfl⟩ hb) ho hl hc
theorem Vec.len {s : St} {e : TypeId} {sz : Nat} {v : Value} {n : Nat} {cs : List Value} (h : Vec s e sz v n cs) : cs.length = n * sz := by
  have key : ∀ b o c, srcCells s.heap sz (.slice (some ⟨b, o, none⟩) n c) = .ok (n, cs) → cs.length = n * sz := fun b o c e => by
    obtain ⟨l, _, rfl, h2⟩ := src_parts e
    simp only [List.length_take, List.length_drop]
    omega
  cases h with
  | nil => simp
  | @full a _ _ h =>
    obtain ⟨b, o, sp⟩ := a
    cases sp with
    | some _ => cases h
    | none => exact key _ _ _ h
  | room hb ho hl hc =>
    subst hc
    simp only [List.length_take, List.length_drop]
    omega
theorem Vec.lt {s : St} (hwf : s.wf) {e : TypeId} {sz : Nat} {v : Value} {n : Nat} {cs : List Value} (h : Vec s e sz v n cs) {b : Nat} (ho : inRoom v b) (hn : n < open_) : b < s.next := by
  obtain ⟨o, m, rfl⟩ := ho
  cases h with
  | full h => exact absurd hn (Nat.lt_irrefl _)
  | room hb _ _ _ => exact hwf _ _ hb
theorem Vec.kind {s : St} {e : TypeId} {sz : Nat} {v : Value} {n : Nat} {cs : List Value} (h : Vec s e sz v n cs) {b : Nat} (ho : inRoom v b) (hn : n < open_) : ∃ l, s.heap.get b = some (.cells l e sz true (0, 0)) := by
  obtain ⟨o, m, rfl⟩ := ho
  cases h with
  | full h => exact absurd hn (Nat.lt_irrefl _)
  | room hb _ _ _ => exact ⟨_, hb⟩
/-- cells of a block turn -/
theorem turn_eq {β : Type} {st : St} {b o : Nat} {vs l : List Value} {e : TypeId} {s : Nat} {opn : Bool} (hb : st.heap.get b = some (.cells l e s opn (0, 0))) (h1 : vs.all oneB = true) (h2 : o + vs.length ≤ l.length) (k : St → Rs β) :
    turn st b o vs k = k ⟨st.heap.set b (.cells (l.take o ++ (vs ++ l.drop (o + vs.length))) e s opn (0, 0)), st.next⟩ := by
  unfold turn
  rw [hb]
  show ifb ((Nat.ble 0 o || Nat.ble (o + lenN vs) 0) && vs.all oneB) ((Rs.of 76 (over l o vs)).bind fun l => st.put b (.cells l e s opn (0, 0)) k) (.no 76 "") = _
  rw [h1, show Nat.ble 0 o = true from by simp, over_eq, if_pos h2]
  show st.put b _ k = _
  rw [St.put_eq]
theorem take_over {l nw : List Value} {o p : Nat} (h1 : o ≤ p) (h2 : p + nw.length ≤ l.length) : (((l.take p ++ (nw ++ l.drop (p + nw.length))).drop o).take (p - o + nw.length)) = (l.drop o).take (p - o) ++ nw := by
  rw [List.drop_append_of_le_length (by rw [List.length_take]; omega), List.take_append, List.drop_take]
  have e1 : ((l.drop o).take (p - o)).length = p - o := by rw [List.length_take, List.length_drop]; omega
  rw [List.take_of_length_le (by omega), e1, Nat.add_sub_cancel_left, List.take_append_of_le_length (Nat.le_refl _), List.take_length]
/-- AN APPEND -/
theorem append_arr {st : St} {t e : TypeId} {xt : List TypeId} {sz by_ : Nat} {z v x : Value} {n m : Nat} {cs nw : List Value} (hwf : st.wf) (hu : P.underlying t = some (.slice e)) (hsz : szT P e = .ok sz) (hby : bytesT P e = .ok by_) (hz : zeroT P e = .ok z) (hzl : (cellsOf z).length = sz) (h0 : 0 < sz)
    (hv : Vec st e sz v n cs) (hn : n < open_) (hx : appSrc P st.heap sz (cellsOf z) xt x = .ok (m, nw)) (hnw : nw.length = m * sz) (hone : nw.all oneB = true) (hm : 0 < m) (h1 : n + m ≤ 140737488355328) (h2 : (2 * (n + m) + 192) * by_ ≤ 281474976710656) :
    ∃ v' st', (∀ {β : Type} (k : Value → St → Rs β), aAppend P st (t :: xt) v x k = k v' st') ∧ Vec st' e sz v' (n + m) (cs ++ nw) ∧ (∃ b o, v' = .slice (some ⟨b, o, none⟩) (n + m) open_ ∧ (b = st.next ∨ inRoom v b)) ∧ st'.wf ∧ st.next ≤ st'.next ∧ st'.next ≤ st.next + 1 ∧
      ∀ b y, st.heap.get b = some y → ¬ inRoom v b → st'.heap.get b = some y := by
  have hold : Buf st e sz v n cs ∨ ∃ b o l, v = .slice (some ⟨b, o, none⟩) n open_ ∧ st.heap.get b = some (.cells l e sz true (0, 0)) ∧ o % sz = 0 ∧ (o + n * sz ≤ l.length ∧ o < l.length) ∧ (l.drop o).take (n * sz) = cs := by
    cases hv with
    | nil => exact .inl .nil
    | full h => exact .inl (.full h)
    | room hb ho hl hc => exact .inr ⟨_, _, _, rfl, hb, ho, hl, hc⟩
  rcases hold with hb | ⟨b, o, l, rfl, hb, ho, hl, rfl⟩
  · obtain ⟨st', k1, k2, k3, k4, k5⟩ := append_buf hwf hu hsz hby hz hzl h0 hb hn hx hnw hone hm h1 h2
    have hcl := hv.len
    refine ⟨_, st', k1, .room k2 (Nat.zero_mod _) (by have := Nat.mul_pos hm h0; rw [List.length_append, hcl, hnw, Nat.add_mul]; omega) ?_, ⟨_, _, rfl, .inl rfl⟩, k4, by omega, by omega, fun c y hc hno => k5 c y hc fun ho => hno ⟨0, ho⟩⟩
    rw [List.drop_zero, List.take_of_length_le (by rw [List.length_append, hcl, hnw, Nat.add_mul]; omega)]
  · have hu' : undT P t = .ok (.slice e) := by rw [undT_eq, hu]; rfl
    have hm0 : Nat.beq m 0 = false := by
      cases m with
      | zero => omega
      | succ m => rfl
    have hmsz : 0 < m * sz := Nat.mul_pos hm h0
    have start : ∀ {β : Type} (k : Value → St → Rs β), aAppend P st (t :: xt) (.slice (some ⟨b, o, none⟩) n open_) x k = appOpen2 st e sz b o n m nw l (0, 0) k := by
      intro β k
      show (undT P t).bind _ = _
      rw [hu']
      show (szT P e).bind _ = _
      rw [hsz]
      show (bytesT P e).bind _ = _
      rw [hby]
      show (zeroT P e).bind _ = _
      rw [hz]
      show (appSrc P st.heap sz (cellsOf z) xt x).bind _ = _
      rw [hx]
      show ifb (appLim (.slice (some ⟨b, o, none⟩) n open_) m by_ && Nat.beq (lenN (cellsOf z)) sz) (ifb (Nat.beq m 0) (k _ st) (appTo st e sz m nw (.slice (some ⟨b, o, none⟩) n open_) k)) _ = _
      rw [limit_ok rfl h1 h2, lenN_eq, hzl, Nat.beq_refl, hm0]
      show ifb (Nat.blt open_ open_) (ifb (Nat.ble (n + m) open_) (turn st b (o + n * sz) nw (k (sliceTo b o (n + m) open_))) ((srcCells st.heap sz (.slice (some ⟨b, o, none⟩) n open_)).bind fun old => opened st e sz (n + m) (old.2 ++ nw) k)) (appOpen st e sz b o n m nw k (st.heap.get b)) = _
      rw [ifb_blt, if_neg (Nat.lt_irrefl _), hb]
      show ifb (Nat.beq e e && Nat.beq sz sz && Nat.beq (o % sz) 0) (appOpen2 st e sz b o n m nw l (0, 0) k) (.no 79 "") = _
      rw [Nat.beq_refl, Nat.beq_refl, ho]
      rfl
    by_cases hin : o + (n + m) * sz ≤ l.length
    · have hadd : (n + m) * sz = n * sz + m * sz := Nat.add_mul _ _ _
      refine ⟨.slice (some ⟨b, o, none⟩) (n + m) open_, ⟨st.heap.set b (.cells (l.take (o + n * sz) ++ (nw ++ l.drop (o + n * sz + nw.length))) e sz true (0, 0)), st.next⟩, fun k => ?_, .room (get_same _ _ _) ho ?_ ?_, ⟨_, _, rfl, .inr ⟨_, _, rfl⟩⟩, fun c y hc => ?_, Nat.le_refl _, Nat.le_succ _, fun c y hc hno => ?_⟩
      · rw [start]
        unfold appOpen2
        rw [ifb_ble, lenN_eq, if_pos hin, turn_eq hb hone (by omega)]
        rfl
      · simp only [List.length_append, List.length_take, List.length_drop]
        omega
      · have := take_over (l := l) (nw := nw) (o := o) (p := o + n * sz) (by omega) (by omega)
        rw [Nat.add_sub_cancel_left, hnw] at this
        rw [hadd, hnw]
        exact this
      · rcases Tr.get_set hc with ⟨rfl, _⟩ | ⟨_, hc⟩
        · exact hwf _ _ hb
        · exact hwf c y hc
      · exact (get_other _ _ _ _ (fun e => hno ⟨o, n, by rw [e]⟩)).trans hc
    · refine ⟨.slice (some ⟨st.next, 0, none⟩) (n + m) open_, ⟨(st.heap.del b).set st.next (.cells ((l.drop o).take (n * sz) ++ nw) e sz true (0, 0)), st.next + 1⟩, fun k => ?_, .room (get_same _ _ _) (Nat.zero_mod _) ?_ ?_, ⟨_, _, rfl, .inl rfl⟩, fun c y hc => ?_, Nat.le_succ _, Nat.le_refl _, fun c y hc hno => ?_⟩
      · rw [start]
        unfold appOpen2
        rw [ifb_ble, lenN_eq, if_neg hin]
        show ifb (nw.all oneB) ((Rs.of 79 (cutN l o (n * sz))).bind fun old => st.kill b fun st => st.new (.cells (old ++ nw) e sz true (0, 0)) fun b => k (sliceTo b 0 (n + m) open_)) (.no 79 "") = _
        rw [hone, cutN_eq, if_pos (by omega)]
        show st.kill b (fun st => st.new (.cells ((l.drop o).take (n * sz) ++ nw) e sz true (0, 0)) fun b => k (sliceTo b 0 (n + m) open_)) = _
        rw [St.kill_eq, St.new_eq]
        rfl
      · have := hv.len
        rw [List.length_append, this, hnw, Nat.add_mul]
        omega
      · have := hv.len
        rw [List.drop_zero, List.take_of_length_le (by rw [List.length_append, this, hnw, Nat.add_mul]; omega)]
      · rcases Tr.get_set hc with ⟨rfl, _⟩ | ⟨_, hc⟩
        · exact Nat.lt_succ_self _
        · exact Nat.lt_succ_of_lt (hwf c y (Tr.get_del hc).2)
      · rw [get_other _ _ _ _ (Nat.ne_of_lt (hwf c y hc))]
        rw [show (st.heap.del b).get c = st.heap.get c from Tr.get_put_ne (fun e => hno ⟨o, n, by rw [e]⟩)]
        exact hc
/-- all stays but open blocks of one kind -/
def SameBut (e : TypeId) (sz : Nat) (s s' : St) : Prop := ∀ c y, s.heap.get c = some y → (∀ l, y ≠ .cells l e sz true (0, 0)) → s'.heap.get c = some y
theorem EvO.appendV {st : St} {t e : TypeId} {xt : List TypeId} {sz by_ : Nat} {z v x : Value} {n m : Nat} {cs nw : List Value} {K : Value → St → Prop} (hwf : st.wf) (hu : P.underlying t = some (.slice e)) (hsz : szT P e = .ok sz) (hby : bytesT P e = .ok by_) (hz : zeroT P e = .ok z) (hzl : (cellsOf z).length = sz) (h0 : 0 < sz)
    (hv : Vec st e sz v n cs) (hn : n < open_) (hx : appSrc P st.heap sz (cellsOf z) xt x = .ok (m, nw)) (hnw : nw.length = m * sz) (hone : nw.all oneB = true) (hm : 0 < m) (h1 : n + m ≤ 140737488355328) (h2 : (2 * (n + m) + 192) * by_ ≤ 281474976710656)
    (h : ∀ v' st', Vec st' e sz v' (n + m) (cs ++ nw) → (∃ b o, v' = .slice (some ⟨b, o, none⟩) (n + m) open_ ∧ (b = st.next ∨ inRoom v b)) → st'.wf → st.next ≤ st'.next → SameBut e sz st st' → (∀ b y, st.heap.get b = some y → ¬ inRoom v b → st'.heap.get b = some y) → K v' st') :
    EvO (fun _ k => aAppend P st (t :: xt) v x fun v s => k v [] s) K := by
  obtain ⟨v', st', k1, k2, k3, k4, k5, k6, k7⟩ := append_arr hwf hu hsz hby hz hzl h0 hv hn hx hnw hone hm h1 h2
  refine ⟨_, st', fun ih k => k1 _, h v' st' k2 k3 k4 k5 (fun c y hc hy => k7 c y hc fun ho => ?_) k7⟩
  obtain ⟨l, hl⟩ := hv.kind ho hn
  rw [hc] at hl
  exact hy l (Option.some.inj hl)
theorem Keep.appendV {s st st' : St} {v : Value} (h : Keep s st) (k4 : st'.wf) (k5 : st.next ≤ st'.next) (k7 : ∀ b y, st.heap.get b = some y → ¬ inRoom v b → st'.heap.get b = some y) (hs : s.wf) (ho : ∀ b, inRoom v b → s.next ≤ b) : Keep s st' :=
  ⟨k4, Nat.le_trans h.next k5, fun b y e => k7 b y (h.old b y e) fun hx => by have := ho b hx; have := hs b y e; omega⟩
/-- a slice of one's own: none, or in an open block beyond a line -/
structure Own (s : St) (lo : Nat) (e : TypeId) (sz : Nat) (v : Value) (n : Nat) (cs : List Value) : Prop where
  vec : Vec s e sz v n cs
  room : ∀ b, inBlk v b → inRoom v b
  lo : ∀ b, inRoom v b → lo ≤ b
  small : n < open_
theorem Own.nil {s : St} {lo : Nat} {e : TypeId} {sz : Nat} : Own s lo e sz (.slice none 0 0) 0 [] := ⟨.nil, (by rintro b ⟨o, n, c, e⟩; cases e), (by rintro b ⟨o, n, e⟩; cases e), (by decide)⟩
theorem Own.mono {s s' : St} {lo : Nat} {e : TypeId} {sz : Nat} {v : Value} {n : Nat} {cs : List Value} (h : Own s lo e sz v n cs) (hk : ∀ b l, lo ≤ b → s.heap.get b = some (.cells l e sz true (0, 0)) → s'.heap.get b = some (.cells l e sz true (0, 0))) : Own s' lo e sz v n cs :=
  ⟨h.vec.mono fun b x hb hx => by
    obtain ⟨l, hl⟩ := h.vec.kind (h.room b hb) h.small
    rw [hx] at hl
    cases hl
    exact hk b l (h.lo b (h.room b hb)) hx, h.room, h.lo, h.small⟩
theorem Keep.but {s st st' : St} (h : Keep s st) (k3 : st'.wf) (k4 : st.next ≤ st'.next) (k6 : ∀ b y, b < s.next → st.heap.get b = some y → st'.heap.get b = some y) (hs : s.wf) : Keep s st' :=
  ⟨k3, Nat.le_trans h.next k4, fun b y e => k6 b y (hs b y e) (h.old b y e)⟩
end
end Go.Proofs.YtihplijjkcdcjaaGreatDoor.Abs

/-
  THE EVALUATOR'S OWN WALK: maps as lists of keys and values. (Rules; no program in sight.)
-/
namespace Go.Proofs.YtihplijjkcdcjaaGreatDoor.Abs
section
set_option linter.unusedVariables false
set_option linter.unusedSectionVars false
variable {P : Program} {K V : Type} [BEq K] [LawfulBEq K] {κ : K → Value} {ν : V → Value}

/-- keys that the evaluator tells apart -/
structure KeyOf (P : Program) (kt : TypeId) (κ : K → Value) : Prop where
  ok : ∀ a, keyOk P kt (κ a) = true
  eq : ∀ (h : Tr AObj) (a b : K), keyEq P h kt (κ a) (κ b) = .ok (a == b)
  same : ∀ a, sameKey (κ a) (κ a) = true
def EntsOf (κ : K → Value) (ν : V → Value) (es : List MapEntry) (l : List (K × V)) : Prop := es.map (fun e => (e.key, e.val)) = l.map fun p => (κ p.1, ν p.2)
def BornOk (clock : Nat) (es : List MapEntry) : Prop := (∀ e ∈ es, e.born < clock) ∧ (es.map (·.born)).Nodup
/-- a map, as it lies -/
def MapAt (s : St) (m : Nat) (κ : K → Value) (ν : V → Value) (l : List (K × V)) : Prop := ∃ es clock, s.heap.get m = some (.map es clock) ∧ EntsOf κ ν es l ∧ BornOk clock es
theorem MapAt.mono {s s' : St} {m : Nat} {l : List (K × V)} (h : MapAt s m κ ν l) (hk : ∀ x, s.heap.get m = some x → s'.heap.get m = some x) : MapAt s' m κ ν l := by
  obtain ⟨es, c, h1, h2, h3⟩ := h
  exact ⟨es, c, hk _ h1, h2, h3⟩
theorem MapAt.lt {s : St} (hwf : s.wf) {m : Nat} {l : List (K × V)} (h : MapAt s m κ ν l) : m < s.next := by
  obtain ⟨es, c, h1, _⟩ := h
  exact hwf _ _ h1
theorem EntsOf.nil : EntsOf κ ν [] [] := rfl
theorem EntsOf.length {es : List MapEntry} {l : List (K × V)} (h : EntsOf κ ν es l) : es.length = l.length := by
  have := congrArg List.length h
  simpa using this
theorem EntsOf.cons {e : MapEntry} {es : List MapEntry} {l : List (K × V)} (h : EntsOf κ ν (e :: es) l) : ∃ p l', l = p :: l' ∧ e.key = κ p.1 ∧ e.val = ν p.2 ∧ EntsOf κ ν es l' := by
  cases l with
  | nil => cases h
  | cons p l' =>
    have h' : (e.key, e.val) :: es.map (fun e => (e.key, e.val)) = (κ p.1, ν p.2) :: l'.map fun p => (κ p.1, ν p.2) := h
    injection h' with h1 h2
    exact ⟨p, l', rfl, (Prod.mk.inj h1).1, (Prod.mk.inj h1).2, h2⟩
theorem EntsOf.mk {e : MapEntry} {es : List MapEntry} {p : K × V} {l : List (K × V)} (h1 : e.key = κ p.1) (h2 : e.val = ν p.2) (h : EntsOf κ ν es l) : EntsOf κ ν (e :: es) (p :: l) := by
  show (e.key, e.val) :: es.map _ = (κ p.1, ν p.2) :: l.map _
  rw [h1, h2, h]
theorem EntsOf.empty {es : List MapEntry} (h : EntsOf κ ν es []) : es = [] := by
  cases es with
  | nil => rfl
  | cons _ _ => cases h
theorem BornOk.cons {c : Nat} {e : MapEntry} {es : List MapEntry} : BornOk c (e :: es) ↔ e.born < c ∧ e.born ∉ es.map (·.born) ∧ BornOk c es := by
  unfold BornOk
  simp only [List.mem_cons, forall_eq_or_imp, List.map_cons, List.nodup_cons]
  exact ⟨fun ⟨⟨a, b⟩, c, d⟩ => ⟨a, c, b, d⟩, fun ⟨a, c, b, d⟩ => ⟨⟨a, b⟩, c, d⟩⟩
theorem BornOk.up {c : Nat} {es : List MapEntry} (h : BornOk c es) : BornOk (c + 1) es := ⟨fun e he => Nat.lt_succ_of_lt (h.1 e he), h.2⟩
theorem BornOk.sub {c : Nat} {es es' : List MapEntry} (h : BornOk c es) (hs : es'.Sublist es) : BornOk c es' := ⟨fun e he => h.1 e (hs.subset he), h.2.sublist (hs.map _)⟩
theorem BornOk.same {c : Nat} {es es' : List MapEntry} (h : BornOk c es) (hs : es'.map (·.born) = es.map (·.born)) : BornOk c es' := by
  refine ⟨fun e he => ?_, by rw [hs]; exact h.2⟩
  have : e.born ∈ es'.map (·.born) := List.mem_map_of_mem (f := (·.born)) he
  rw [hs] at this
  obtain ⟨e', h1, h2⟩ := List.mem_map.1 this
  rw [← h2]
  exact h.1 e' h1
end
end Go.Proofs.YtihplijjkcdcjaaGreatDoor.Abs

