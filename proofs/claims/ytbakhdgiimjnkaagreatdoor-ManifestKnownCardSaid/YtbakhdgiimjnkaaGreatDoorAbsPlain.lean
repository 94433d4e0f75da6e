/-
  Plain lemmas on the evaluator's own small functions.
-/
import Derived.Test.YtbakhdgiimjnkaaGreatDoorAbsRun
namespace Go.Proofs.YtbakhdgiimjnkaaGreatDoor.Abs

theorem Rs.bind_ok {α β : Type} {x : Rs α} {f : α → Rs β} {b : β} (h : x.bind f = .ok b) : ∃ a, x = .ok a ∧ f a = .ok b := by
  cases x with
  | ok a => exact ⟨a, rfl, h⟩
  | no c s => cases h
theorem Rs.of_ok {α : Type} {c : Nat} {x : Option α} {a : α} (h : Rs.of c x = .ok a) : x = some a := by
  cases x with
  | none => cases h
  | some b => cases h; rfl
theorem ifb_eq {α : Type} (c : Bool) (t e : α) : ifb c t e = if c then t else e := by cases c <;> rfl
theorem ifb_ok {α : Type} {c : Bool} {t e : Rs α} {a : α} (h : ifb c t e = .ok a) : (c = true ∧ t = .ok a) ∨ (c = false ∧ e = .ok a) := by
  cases c
  · exact .inr ⟨rfl, h⟩
  · exact .inl ⟨rfl, h⟩
/-- a test that must have held -/
theorem ifb_no {α : Type} {c : Bool} {t : Rs α} {n : Nat} {s : String} {a : α} (h : ifb c t (.no n s) = .ok a) : c = true ∧ t = .ok a := by
  cases c
  · cases h
  · exact ⟨rfl, h⟩
theorem ifb_no' {α : Type} {c : Bool} {t : Rs α} {n : Nat} {s : String} {a : α} (h : ifb c (.no n s) t = .ok a) : c = false ∧ t = .ok a := by
  cases c
  · exact ⟨rfl, h⟩
  · cases h

section
variable {α : Type}
theorem Tr.mkL_eq (o : Option α) (l r : Tr α) : Tr.mkL o l r = .node o l r := by cases l <;> rfl
theorem Tr.mkR_eq (o : Option α) (l r : Tr α) : Tr.mkR o l r = .node o l r := by cases r <;> rfl
theorem Tr.force_eq {β : Type} (t : Tr α) (k : Tr α → β) : t.force k = k t := by cases t <;> rfl
theorem Tr.get_nil (j : Nat) : (Tr.nil : Tr α).get j = none := rfl
theorem Tr.get_node (o : Option α) (l r : Tr α) (j : Nat) : (Tr.node o l r).get j = if j = 0 then o else if j % 2 = 1 then l.get (j / 2) else r.get (j / 2 - 1) := by
  show ifb (Nat.beq j 0) o (ifb (Nat.beq (j % 2) 1) (l.get (j / 2)) (r.get (j / 2 - 1))) = _
  rw [ifb_eq, ifb_eq]
  by_cases h : j = 0
  · subst h; rfl
  · have : Nat.beq j 0 = false := by cases j <;> first | exact absurd rfl h | rfl
    simp [h, this]
theorem Tr.sprout_succ (v : Option α) (f k : Nat) : Tr.sprout v (f + 1) k = if k = 0 then .node v .nil .nil else if k % 2 = 1 then .node none (Tr.sprout v f (k / 2)) .nil else .node none .nil (Tr.sprout v f (k / 2 - 1)) := by
  show ifb (Nat.beq k 0) _ (ifb (Nat.beq (k % 2) 1) (Tr.mkL none (Tr.sprout v f (k / 2)) .nil) (Tr.mkR none .nil (Tr.sprout v f (k / 2 - 1)))) = _
  rw [ifb_eq, ifb_eq, Tr.mkL_eq, Tr.mkR_eq]
  by_cases h : k = 0
  · subst h; rfl
  · have : Nat.beq k 0 = false := by cases k <;> first | exact absurd rfl h | rfl
    simp [h, this]
theorem Tr.put_node (v o : Option α) (l r : Tr α) (k : Nat) : Tr.put v (.node o l r) k = if k = 0 then .node v l r else if k % 2 = 1 then .node o (Tr.put v l (k / 2)) r else .node o l (Tr.put v r (k / 2 - 1)) := by
  show ifb (Nat.beq k 0) _ (ifb (Nat.beq (k % 2) 1) (Tr.mkL o (Tr.put v l (k / 2)) r) (Tr.mkR o l (Tr.put v r (k / 2 - 1)))) = _
  rw [ifb_eq, ifb_eq, Tr.mkL_eq, Tr.mkR_eq]
  by_cases h : k = 0
  · subst h; rfl
  · have : Nat.beq k 0 = false := by cases k <;> first | exact absurd rfl h | rfl
    simp [h, this]
theorem Tr.get_sprout {v : Option α} {x : α} : ∀ {f k j : Nat}, (Tr.sprout v f k).get j = some x → j = k ∧ v = some x
  | 0, k, j, h => by cases h
  | f + 1, k, j, h => by
    rw [Tr.sprout_succ] at h
    by_cases hk : k = 0
    · rw [if_pos hk, Tr.get_node] at h
      by_cases hj : j = 0
      · rw [if_pos hj] at h; exact ⟨by omega, h⟩
      · rw [if_neg hj] at h
        split at h <;> cases h
    · rw [if_neg hk] at h
      by_cases ho : k % 2 = 1
      · rw [if_pos ho, Tr.get_node] at h
        split at h
        · cases h
        · split at h
          · have := Tr.get_sprout h; exact ⟨by omega, this.2⟩
          · cases h
      · rw [if_neg ho, Tr.get_node] at h
        split at h
        · cases h
        · split at h
          · cases h
          · have := Tr.get_sprout h; exact ⟨by omega, this.2⟩
/-- what is found behind a put was put there, or was there -/
theorem Tr.get_put {v : Option α} {x : α} : ∀ {t : Tr α} {k j : Nat}, (Tr.put v t k).get j = some x → (j = k ∧ v = some x) ∨ (j ≠ k ∧ t.get j = some x)
  | .nil, k, j, h => .inl (Tr.get_sprout (f := 30) h)
  | .node o l r, k, j, h => by
    rw [Tr.put_node] at h
    rw [Tr.get_node]
    by_cases hk : k = 0
    · rw [if_pos hk, Tr.get_node] at h
      by_cases hj : j = 0
      · rw [if_pos hj] at h; exact .inl ⟨by omega, h⟩
      · rw [if_neg hj] at h ⊢; exact .inr ⟨by omega, h⟩
    · rw [if_neg hk] at h
      by_cases ho : k % 2 = 1
      · rw [if_pos ho, Tr.get_node] at h
        by_cases hj : j = 0
        · rw [if_pos hj] at h ⊢; exact .inr ⟨by omega, h⟩
        · rw [if_neg hj] at h ⊢
          by_cases hp : j % 2 = 1
          · rw [if_pos hp] at h ⊢
            rcases Tr.get_put h with ⟨a, b⟩ | ⟨a, b⟩
            · exact .inl ⟨by omega, b⟩
            · exact .inr ⟨by omega, b⟩
          · rw [if_neg hp] at h ⊢; exact .inr ⟨by omega, h⟩
      · rw [if_neg ho, Tr.get_node] at h
        by_cases hj : j = 0
        · rw [if_pos hj] at h ⊢; exact .inr ⟨by omega, h⟩
        · rw [if_neg hj] at h ⊢
          by_cases hp : j % 2 = 1
          · rw [if_pos hp] at h ⊢; exact .inr ⟨by omega, h⟩
          · rw [if_neg hp] at h ⊢
            rcases Tr.get_put h with ⟨a, b⟩ | ⟨a, b⟩
            · exact .inl ⟨by omega, b⟩
            · exact .inr ⟨by omega, b⟩
theorem Tr.get_put_ne {v : Option α} : ∀ {t : Tr α} {k j : Nat}, j ≠ k → (Tr.put v t k).get j = t.get j
  | .nil, k, j, h => by
    cases hx : (Tr.put v .nil k).get j with
    | none => rfl
    | some x => exact absurd (Tr.get_sprout (f := 30) hx).1 h
  | .node o l r, k, j, h => by
    rw [Tr.put_node, Tr.get_node]
    by_cases hk : k = 0
    · have hj : ¬ j = 0 := by omega
      rw [if_pos hk, Tr.get_node, if_neg hj, if_neg hj]
    · rw [if_neg hk]
      by_cases ho : k % 2 = 1
      · rw [if_pos ho, Tr.get_node]
        by_cases hj : j = 0
        · rw [if_pos hj, if_pos hj]
        · rw [if_neg hj, if_neg hj]
          by_cases hp : j % 2 = 1
          · rw [if_pos hp, if_pos hp, Tr.get_put_ne (by omega)]
          · rw [if_neg hp, if_neg hp]
      · rw [if_neg ho, Tr.get_node]
        by_cases hj : j = 0
        · rw [if_pos hj, if_pos hj]
        · rw [if_neg hj, if_neg hj]
          by_cases hp : j % 2 = 1
          · rw [if_pos hp, if_pos hp]
          · rw [if_neg hp, if_neg hp, Tr.get_put_ne (by omega)]
theorem Tr.get_set_ne {v : α} {t : Tr α} {k j : Nat} (h : j ≠ k) : (t.set k v).get j = t.get j := Tr.get_put_ne h
theorem Tr.get_set {v x : α} {t : Tr α} {k j : Nat} (h : (t.set k v).get j = some x) : (j = k ∧ v = x) ∨ (j ≠ k ∧ t.get j = some x) :=
  (Tr.get_put h).imp (fun ⟨a, b⟩ => ⟨a, Option.some.inj b⟩) id
theorem Tr.get_del {x : α} {t : Tr α} {k j : Nat} (h : (t.del k).get j = some x) : j ≠ k ∧ t.get j = some x := by
  rcases Tr.get_put h with ⟨_, b⟩ | b
  · cases b
  · exact b
theorem Tr.get_ofList {x : α} : ∀ {l : List α} {i : Nat} {t : Tr α} {j : Nat}, (Tr.ofList l i t).get j = some x → (∃ k, j = i + k ∧ l[k]? = some x) ∨ t.get j = some x
  | [], i, t, j, h => .inr h
  | v :: l, i, t, j, h => by
    have h' : (Tr.ofList l (i + 1) (t.set i v)).get j = some x := by
      have : Tr.ofList (v :: l) i t = (t.set i v).force (Tr.ofList l (i + 1)) := rfl
      rw [this, Tr.force_eq] at h
      exact h
    rcases Tr.get_ofList h' with ⟨k, a, b⟩ | a
    · exact .inl ⟨k + 1, by omega, by simpa using b⟩
    · rcases Tr.get_set a with ⟨b, c⟩ | ⟨_, c⟩
      · exact .inl ⟨0, by omega, by simp [c]⟩
      · exact .inr c
end

theorem natK_eq {β : Type} (n : Nat) (k : Nat → β) : natK n k = k n := by cases n <;> rfl
theorem intK_eq {β : Type} (n : Int) (k : Int → β) : intK n k = k n := by
  cases n with
  | ofNat m => exact natK_eq m fun m => k (.ofNat m)
  | negSucc m => exact natK_eq m fun m => k (.negSucc m)
theorem forceV_eq {β : Type} (v : Value) (k : Value → β) : forceV v k = k v := by
  unfold forceV
  split <;> simp only [intK_eq, natK_eq]

theorem St.put_eq {β : Type} (st : St) (b : Nat) (o : AObj) (k : St → β) : st.put b o k = k ⟨st.heap.set b o, st.next⟩ := by unfold St.put; rw [Tr.force_eq]
theorem St.kill_eq {β : Type} (st : St) (b : Nat) (k : St → β) : st.kill b k = k ⟨st.heap.del b, st.next⟩ := by unfold St.kill; rw [Tr.force_eq]
theorem St.new_eq {β : Type} (st : St) (o : AObj) (k : Nat → St → β) : st.new o k = k st.next ⟨st.heap.set st.next o, st.next + 1⟩ := by unfold St.new; rw [natK_eq, natK_eq, Tr.force_eq]
theorem Ac.put_ok {β : Type} {a : Ac} {d : Option Tmp} {v : Value} {k : Ac → Rs β} {r : β} (h : a.put d v k = .ok r) :
    k (match d with | none => a | some t => ⟨a.tmps.set t v, a.n, a.dfs⟩) = .ok r ∧ ∀ t, d = some t → t < a.n := by
  unfold Ac.put at h
  cases d with
  | none => exact ⟨h, fun t ht => by cases ht⟩
  | some t =>
    obtain ⟨h1, h2⟩ := ifb_no h
    rw [forceV_eq, Tr.force_eq] at h2
    exact ⟨h2, fun t' ht => by cases ht; simpa using h1⟩

section lists
theorem dropN_eq : ∀ (l : List Value) (n : Nat), dropN l n = l.drop n
  | [], n => by simp [dropN]
  | v :: l, 0 => rfl
  | v :: l, n + 1 => dropN_eq l n
theorem takeN_eq {β : Type} : ∀ (l : List β) (n : Nat), takeN l n = if n ≤ l.length then some (l.take n) else none
  | [], 0 => rfl
  | [], n + 1 => by simp [takeN]
  | v :: l, 0 => by
    have h : takeN (v :: l) 0 = some [] := rfl
    simp [h]
  | v :: l, n + 1 => by
    have h : takeN (v :: l) (n + 1) = Option.rec none (fun t => some (v :: t)) (takeN l n) := rfl
    rw [h, takeN_eq l n]
    by_cases hn : n ≤ l.length
    · simp [hn]
    · simp [hn]
theorem cutN_eq (l : List Value) (o n : Nat) : cutN l o n = if n ≤ l.length - o then some ((l.drop o).take n) else none := by
  unfold cutN; rw [dropN_eq, takeN_eq, List.length_drop]
theorem cutN_some {l : List Value} {o n : Nat} {r : List Value} (h : cutN l o n = some r) : n ≤ l.length - o ∧ r = (l.drop o).take n := by
  rw [cutN_eq] at h
  split at h
  · exact ⟨by assumption, (Option.some.inj h).symm⟩
  · cases h
theorem nth_eq {β : Type} : ∀ (l : List β) (n : Nat), nth l n = l[n]?
  | [], n => by simp [nth]
  | v :: l, 0 => rfl
  | v :: l, n + 1 => by
    have h : nth (v :: l) (n + 1) = nth l n := rfl
    rw [h, nth_eq l n]
    simp
theorem over0_eq : ∀ (vs l : List Value), over0 vs l = if vs.length ≤ l.length then some (vs ++ l.drop vs.length) else none
  | [], l => by simp [over0]
  | v :: vs, [] => by simp [over0]
  | v :: vs, u :: l => by
    have h : over0 (v :: vs) (u :: l) = Option.rec none (fun t => some (v :: t)) (over0 vs l) := rfl
    rw [h, over0_eq vs l]
    by_cases hn : vs.length ≤ l.length <;> simp [hn]
theorem over_eq : ∀ (l : List Value) (o : Nat) (vs : List Value), over l o vs = if o + vs.length ≤ l.length then some (l.take o ++ (vs ++ l.drop (o + vs.length))) else none
  | [], 0, vs => by
    have h : over [] 0 vs = over0 vs [] := rfl
    rw [h, over0_eq]; simp
  | [], o + 1, vs => by
    have h : over [] (o + 1) vs = none := rfl
    rw [h]; simp
  | v :: l, 0, vs => by
    have h : over (v :: l) 0 vs = over0 vs (v :: l) := rfl
    rw [h, over0_eq]; simp
  | v :: l, o + 1, vs => by
    have h : over (v :: l) (o + 1) vs = Option.rec none (fun t => some (v :: t)) (over l o vs) := rfl
    rw [h, over_eq l o vs]
    by_cases hn : o + vs.length ≤ l.length
    · have : o + 1 + vs.length ≤ (v :: l).length := by simp; omega
      simp only [hn, this, if_true]
      simp [show o + 1 + vs.length = (o + vs.length) + 1 by omega]
    · have : ¬ o + 1 + vs.length ≤ (v :: l).length := by simp; omega
      simp only [hn, this, if_false]
theorem over_some {l : List Value} {o : Nat} {vs r : List Value} (h : over l o vs = some r) : o + vs.length ≤ l.length ∧ r = l.take o ++ (vs ++ l.drop (o + vs.length)) := by
  rw [over_eq] at h
  split at h
  · exact ⟨by assumption, (Option.some.inj h).symm⟩
  · cases h
theorem beqNat (a b : UInt8) : Nat.beq a.toNat b.toNat = (a == b) := by
  rw [Bool.eq_iff_iff, Nat.beq_eq, beq_iff_eq, UInt8.toNat_inj]
theorem bEq_eq : ∀ (x y : List UInt8), bEq x y = (x == y)
  | [], [] => rfl
  | [], b :: y => rfl
  | a :: x, [] => rfl
  | a :: x, b :: y => by
    have h : bEq (a :: x) (b :: y) = ifb (Nat.beq a.toNat b.toNat) (bEq x y) false := rfl
    rw [h, ifb_eq, beqNat, bEq_eq x y]
    cases hab : a == b <;> simp [hab]
theorem bLess_eq : ∀ (x y : List UInt8), bLess x y = Op.bytesLess x y
  | [], [] => rfl
  | [], b :: y => rfl
  | a :: x, [] => rfl
  | a :: x, b :: y => by
    have h : bLess (a :: x) (b :: y) = ifb (Nat.blt a.toNat b.toNat) true (ifb (Nat.beq a.toNat b.toNat) (bLess x y) false) := rfl
    have h2 : Nat.blt a.toNat b.toNat = decide (a < b) := by
      rw [Bool.eq_iff_iff, Nat.blt_eq, decide_eq_true_iff, UInt8.lt_iff_toNat_lt]
    rw [h, ifb_eq, ifb_eq, beqNat, bLess_eq x y, h2]
    by_cases hl : a < b
    · simp [hl, Op.bytesLess]
    · cases hab : a == b <;> simp [hl, hab, Op.bytesLess]
theorem lenN_eq {β : Type} : ∀ (l : List β), lenN l = l.length
  | [] => rfl
  | v :: l => by
    have h : lenN (v :: l) = Nat.succ (lenN l) := rfl
    rw [h, lenN_eq l]; simp
theorem byteCells_eq : ∀ (l : List UInt8), byteCells l = l.map fun b => .int .u8 (Int.ofNat b.toNat)
  | [] => rfl
  | b :: l => by
    have h : byteCells (b :: l) = .int .u8 (Int.ofNat b.toNat) :: byteCells l := rfl
    rw [h, byteCells_eq l]; rfl
theorem cellBytes_some : ∀ {l : List Value} {bs : List UInt8}, cellBytes l = some bs → l.length = bs.length ∧ ∀ (i : Nat) (v : Value), l[i]? = some v → ∃ n : Int, v = .int .u8 n ∧ bs[i]? = some (UInt8.ofNat n.toNat)
  | [], bs, h => by
    cases h
    exact ⟨rfl, fun i v hv => by simp at hv⟩
  | x :: l, bs, h => by
    unfold cellBytes at h
    split at h
    · cases ‹x :: l = []›
    · rename_i n l' e
      obtain ⟨rfl, rfl⟩ := by simpa using e
      cases hc : cellBytes l with
      | none => rw [hc] at h; cases h
      | some cs =>
        rw [hc] at h
        obtain rfl : UInt8.ofNat n.toNat :: cs = bs := Option.some.inj h
        have ih := cellBytes_some hc
        refine ⟨by simp [ih.1], fun i v hv => ?_⟩
        cases i with
        | zero => exact ⟨n, by simpa using hv.symm, rfl⟩
        | succ i => simpa using ih.2 i v (by simpa using hv)
    · cases h
theorem reps_length (z : List Value) : ∀ n, (reps z n).length = n * z.length
  | 0 => by
    have h : reps z 0 = [] := rfl
    simp [h]
  | n + 1 => by
    have h : reps z (n + 1) = z ++ reps z n := rfl
    rw [h, List.length_append, reps_length z n, Nat.succ_mul]
    omega
theorem reps_get (z : List Value) : ∀ (n i : Nat), i < n * z.length → (reps z n)[i]? = z[i % z.length]?
  | 0, i, h => by simp at h
  | n + 1, i, h => by
    have e : reps z (n + 1) = z ++ reps z n := rfl
    have hs : (n + 1) * z.length = n * z.length + z.length := Nat.succ_mul n z.length
    rw [hs] at h
    by_cases hi : i < z.length
    · rw [e, List.getElem?_append_left hi, Nat.mod_eq_of_lt hi]
    · rw [e, List.getElem?_append_right (by omega), reps_get z n (i - z.length) (by omega)]
      rw [Nat.mod_eq_sub_mod (by omega : z.length ≤ i)]
end lists
end Go.Proofs.YtbakhdgiimjnkaaGreatDoor.Abs
