/-
  '==' and the other operations of two operands.
-/
import Derived.Test.YtbakhdgiimjnkaaGreatDoorAbsPure
import Derived.Laws.StructEq
namespace Go.Proofs.YtbakhdgiimjnkaaGreatDoor.Abs

section
variable {P : Program} {φ : Phi} {h : Tr AObj} {w : World}

theorem eqFields_ok (d : Nat) (eq : TypeId → Value → Value → Rs Bool) (heq : ∀ t x y x' y' r, eq t x y = .ok r → VRel φ x x' → VRel φ y y' → (Op.equalIn d t x' y').run P w = .ok r w)
    {xs ys : List Value} {xs' ys' : Array Value} (hx : LRel φ xs xs'.toList) (hy : LRel φ ys ys'.toList) : ∀ {fs : List Field} {r : Bool}, aEqFields P eq xs ys fs = .ok r → (Op.eqFields d xs' ys' fs).run P w = .ok r w
  | [], r, e => by cases e; rfl
  | f :: fs, r, e => by
    have e' : ifb (f.name == "_") (.no 32 "") ((part P f.type xs f.offset).bind fun a => (part P f.type ys f.offset).bind fun b => (eq f.type a b).bind fun r => ifb r (aEqFields P eq xs ys fs) (.ok false)) = .ok r := e
    obtain ⟨e1, e2⟩ := ifb_no' e'
    have hn : f.name ≠ "_" := by simpa using e1
    obtain ⟨a, h1, e3⟩ := Rs.bind_ok e2
    obtain ⟨b, h2, e4⟩ := Rs.bind_ok e3
    obtain ⟨q, h3, e5⟩ := Rs.bind_ok e4
    obtain ⟨a', r1, v1⟩ := part_run (w := w) h1 hx
    obtain ⟨b', r2, v2⟩ := part_run (w := w) h2 hy
    have r3 := heq _ _ _ _ _ _ h3 v1 v2
    have r1' : (Go.part f.type xs' f.offset).run P w = .ok a' w := r1
    have r2' : (Go.part f.type ys' f.offset).run P w = .ok b' w := r2
    rw [Op.eqFields, if_pos hn]
    simp only [Sem.run_bind, r1', r2', r3, Result.andThen_ok]
    rcases ifb_ok e5 with ⟨rfl, e6⟩ | ⟨rfl, e6⟩
    · simp only [Bool.not_true, Bool.false_eq_true, if_false]
      exact eqFields_ok d eq heq hx hy e6
    · cases e6
      simp

theorem fieldsOf_eq {t : TypeId} {fs : Array Field} (hu : P.underlying t = some (.struct fs)) : P.fieldsOf t = fs := by simp [Program.fieldsOf, hu]

theorem aEq_ok (hm : HRel φ h w) : ∀ (d : Nat) {n : Nat} (t : TypeId) (x y x' y' : Value) (r : Bool), d ≤ n → aEq P h d t x y = .ok r → VRel φ x x' → VRel φ y y' → (Op.equalIn n t x' y').run P w = .ok r w
  | 0, n, t, x, y, x', y', r, hd, e, hx, hy => by cases e
  | d + 1, 0, t, x, y, x', y', r, hd, e, hx, hy => by omega
  | d + 1, n + 1, t, x, y, x', y', r, hd, e, hx, hy => by
    have e' : ((undT P t).bind fun u => match x with
      | .int k a => aEqInt u k a y
      | .string a => aEqStr u a y
      | .pointer a => aEqPtr P h u a y
      | .agg xs => aEqAgg P (aEq P h d) t u xs.toList y
      | x => aEqRest u x y) = .ok r := e
    obtain ⟨u, hu, e1⟩ := Rs.bind_ok e'
    have hU := undT_ok hu
    have hr := undT_run hu w
    clear e e' hu
    split at e1
    · cases hx
      unfold aEqInt at e1
      split at e1 <;> first | cases e1 | skip
      obtain ⟨e2, e3⟩ := ifb_no e1
      have := kEq_eq e2
      subst this
      cases e3
      cases hy
      rw [iBeq_eq]
      exact run_equalIn_int w n t _ _ _ _ hU
    · cases hx
      unfold aEqStr at e1
      split at e1 <;> first | cases e1 | skip
      cases hy
      rw [bEq_eq, ← Lib.toList_data, ← Lib.toList_data]
      exact run_equalIn_string w n t _ _ hU
    · unfold aEqPtr at e1
      split at e1 <;> first | cases e1 | skip
      split at e1
      · cases e1; cases hx; cases hy
        unfold Op.equalIn; rw [Sem.run_bind, hr]; rfl
      · cases e1; cases hx; cases hy
        unfold Op.equalIn; rw [Sem.run_bind, hr]; rfl
      · cases e1; cases hx; cases hy
        unfold Op.equalIn; rw [Sem.run_bind, hr]; rfl
      · obtain ⟨s, h1, e2⟩ := Rs.bind_ok e1
        obtain ⟨h2, e3⟩ := ifb_no' e2
        have hs : s ≠ 0 := by intro hh; subst hh; simp at h2
        have hsz := szT_run h1 w
        cases hx with
        | ptr o hL =>
          cases hy with
          | ptr p hM =>
            have := aSame_ok (P := P) hm e3 (.ptr o hL) (.ptr p hM)
            unfold Op.equalIn; rw [Sem.run_bind, hr]
            simp only [Result.andThen_ok, Sem.run_bind, hsz, ne_eq, hs, not_false_eq_true, if_true]
            exact this
    · unfold aEqAgg at e1
      split at e1 <;> first | cases e1 | skip
      rename_i xs fs ys
      obtain ⟨h1, e2⟩ := ifb_no' e1
      cases hx with
      | agg hx1 hx2 =>
        cases hy with
        | agg hy1 hy2 =>
          have hf := fieldsOf_eq hU
          rw [run_equalIn_struct w n t _ _ (by rw [hf]; exact hU) h1, hf]
          exact eqFields_ok n (aEq P h d) (fun t x y x' y' r e a b => aEq_ok hm d t x y x' y' r (by omega) e a b) (LRel.of_arr hx1 hx2) (LRel.of_arr hy1 hy2) e2
    · unfold aEqRest at e1
      split at e1 <;> first | cases e1 | skip
      all_goals (cases hx <;> cases hy <;> (unfold Op.equalIn; rw [Sem.run_bind, hr]; rfl))

/-- '==' and '!=' of such values ask whether they are equal -/
theorem bin_eq {d : Nat} {t : TypeId} {x y x' y' : Value} {r : Bool} (e : aEq P h (d + 1) t x y = .ok r) (hx : VRel φ x x') (hy : VRel φ y y') (n1 : ∀ k a, x ≠ .int k a) (n2 : ∀ a, x ≠ .string a) :
    binOp .eql t x' y' = (do pure (.bool (← Op.equal t x' y')) : Sem Value) ∧ binOp .neq t x' y' = (do pure (.bool (!(← Op.equal t x' y'))) : Sem Value) := by
  have e' : ((undT P t).bind fun u => match x with
    | .int k a => aEqInt u k a y
    | .string a => aEqStr u a y
    | .pointer a => aEqPtr P h u a y
    | .agg xs => aEqAgg P (aEq P h d) t u xs.toList y
    | x => aEqRest u x y) = .ok r := e
  obtain ⟨u, hu, e1⟩ := Rs.bind_ok e'
  clear e e' hu
  split at e1
  · exact absurd rfl (n1 _ _)
  · exact absurd rfl (n2 _)
  · unfold aEqPtr at e1
    split at e1 <;> first | cases e1; done | skip
    clear e1
    cases hx <;> cases hy <;> exact ⟨rfl, rfl⟩
  · unfold aEqAgg at e1
    split at e1 <;> first | cases e1; done | skip
    clear e1
    cases hx; cases hy; exact ⟨rfl, rfl⟩
  · unfold aEqRest at e1
    split at e1 <;> first | cases e1; done | skip
    all_goals (clear e1; cases hx <;> cases hy <;> exact ⟨rfl, rfl⟩)

theorem guard_ok {op : BinOp} {t : TypeId} {x y : Operand} {a b a' b' : Value} (hok : eqOk P t (isC x || isC y) a b = true) (ha : VRel φ a a') (hb : VRel φ b b') : (eqGuard op t x y a' b').run P w = .ok () w := by
  unfold eqOk at hok
  split at hok
  · cases ha; cases hb
    unfold eqGuard
    generalize (!(op matches .eql | .neq)) = g
    cases g
    · cases x <;> cases y <;> first | (cases hok; done) | rfl
    · rfl
  · cases ha; cases hb
    have hok' : P.eqGuardType P.depth t = false := by simpa using hok
    exact run_eqGuard_agg w op t x y _ _ hok'
  · rename_i n1 n2
    have c1 : ¬ (a' = .nilIface ∧ b' = .nilIface) := by
      rintro ⟨rfl, rfl⟩
      cases ha; cases hb; exact n1 rfl rfl
    have c2 : ∀ xs ys, ¬ (a' = .agg xs ∧ b' = .agg ys) := by
      rintro xs ys ⟨rfl, rfl⟩
      cases ha; cases hb; exact n2 _ _ rfl rfl
    clear ha hb hok n1 n2
    unfold eqGuard
    generalize (!(op matches .eql | .neq)) = g
    cases g
    · simp only [Bool.false_eq_true, if_false]
      split
      · exact absurd ⟨rfl, rfl⟩ c1
      · exact absurd ⟨rfl, rfl⟩ (c2 _ _)
      · rfl
    · rfl

/-- an operation of two operands, with the guard that stands ahead of it -/
theorem aBin_ok (hm : HRel φ h w) {op : BinOp} {t : TypeId} {x y : Operand} {a b a' b' v : Value} (e : aBin P h op t (isC x || isC y) a b = .ok v) (ha : VRel φ a a') (hb : VRel φ b b') :
    ∃ v', (do eqGuard op t x y a' b'; binOp op t a' b' : Sem Value).run P w = .ok v' w ∧ VRel φ v v' := by
  unfold aBin at e
  split at e
  · unfold aBinInt at e
    split at e <;> first | cases e; done | skip
    cases ha
    cases hb
    have hg : ∀ k j m n, (eqGuard op t x y (.int k m) (.int j n)).run P w = .ok () w := fun k j m n => by cases op <;> simp [eqGuard]
    simp only [Sem.run_bind, hg, Result.andThen_ok]
    split at e
    · exact ⟨v, aShift_ok e t⟩
    · exact ⟨v, aShift_ok e t⟩
    · rename_i h1 h2
      obtain ⟨e1, e2⟩ := ifb_no e
      have := kEq_eq e1
      subst this
      exact ⟨v, aInt_ok e2 t ⟨h1, h2⟩⟩
  · unfold aBinStr at e
    split at e <;> first | cases e; done | skip
    cases ha
    cases hb
    have hg : ∀ m n, (eqGuard op t x y (.string m) (.string n)).run P w = .ok () w := fun m n => by cases op <;> simp [eqGuard]
    simp only [Sem.run_bind, hg, Result.andThen_ok]
    exact ⟨v, aStr_ok e t⟩
  · rename_i h1 h2
    unfold aBinEq at e
    split at e <;> first | cases e; done | skip
    all_goals
      obtain ⟨e1, e2⟩ := ifb_no e
      obtain ⟨r, e3, e4⟩ := Rs.bind_ok e2
      cases e4
      have hq := aEq_ok (P := P) hm 40 (n := 10000) t a b a' b' r (by decide) e3 ha hb
      obtain ⟨b1, b2⟩ := bin_eq e3 ha hb (fun k n => h1 k n) (fun s => h2 s)
      refine ⟨_, ?_, .bool _⟩
      rw [Sem.run_bind, guard_ok e1 ha hb]
      simp [b1, b2, Op.equal, Op.maxDepth, hq]
end
end Go.Proofs.YtbakhdgiimjnkaaGreatDoor.Abs
