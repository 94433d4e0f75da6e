/-
  Appends.
-/
import Derived.Test.YtbakhdgiimjnkaaGreatDoorAbsEff5
namespace Go.Proofs.YtbakhdgiimjnkaaGreatDoor.Abs
section
variable {P : Program} {φ : Phi} {st : St} {w : World} {β : Type}

/-- what is appended -/
inductive Src (P : Program) (w : World) (ts : Array TypeId) (sz b : Nat) (z : Value) (x : Value) (m : Nat) (new : List Value) : Prop where
  | zeros (xt : TypeId) (k k' : IntKind) (h1 : ts[1]? = some xt) (h2 : P.underlying xt = some (.int k)) (h3 : x = .int k' (Int.ofNat m)) (h4 : m ≤ 1073741824) (h5 : m * b ≤ 1073741824) (h6 : new = reps (cellsOf z) m)
  | none (h1 : ts[1]? = none) (h2 : ∀ d, (Builtin.lenOf x).run P { w with drawn := d } = .ok m { w with drawn := d }) (h3 : ∀ d, (Builtin.firstCells sz m x).run P { w with drawn := d } = .ok ⟨new⟩ { w with drawn := d })
  | some (xt : TypeId) (u : TypeDesc) (h1 : ts[1]? = some xt) (h2 : P.underlying xt = some u) (hu : ∀ k, u ≠ .int k) (h3 : ∀ d, (Builtin.lenOf x).run P { w with drawn := d } = .ok m { w with drawn := d })
      (h4 : ∀ d, (Builtin.firstCells sz m x).run P { w with drawn := d } = .ok ⟨new⟩ { w with drawn := d })

theorem zeroCells_eq {z : Value} (hz : Flat z) (n : Nat) : Builtin.zeroCells z.cells n = ⟨reps (cellsOf z) n⟩ := by
  have hl : (cellsOf z).length = z.cells.size := by rw [flat_list hz]; simp
  have := reps_zero (n := n) hz hl
  apply Array.ext'
  rw [← this]
  rfl

def putAt (base : Option Addr) (o : Nat) (new : List Value) : Sem Unit :=
  match base with
  | some a => storeCells (a.add o) new
  | none => pure ()
theorem app_stay {ts : Array TypeId} {t ty e : TypeId} {args : Array Value} {base : Option Addr} {n c sz b m : Nat} {x : Value} {new : List Value} {z : Value} (ht : ts[0]? = some t) (h0 : args[0]? = some (.slice base n c)) (h1 : args[1]? = some x)
    (hu : P.underlying t = some (.slice e)) (hs : szT P e = .ok sz) (hb : bytesT P e = .ok b) (hz : zeroT P e = .ok z) (hlen : (cellsOf z).length = sz) (hx : Src P w ts sz b z x m new) (hc : n + m ≤ c) {w' : World}
    (hw : (putAt base (n * sz) new).run P w = .ok () w') : (Builtin.append_ ts ty args).run P w = .ok (.slice base (n + m) c) w' := by
  unfold putAt at hw
  obtain ⟨z1, z2⟩ := zeroT_ok hz
  obtain ⟨i, hi, hib⟩ := bytesT_run hb w
  unfold Builtin.append_
  rw [ht, h0, h1]
  simp only [Sem.run_bind, run_underlying hu, Result.andThen_ok, szT_run hs]
  cases hx with
  | zeros xt k k' g1 g2 g3 g4 g5 g6 =>
    subst g3
    rw [g1]
    have wl : IntKind.i64.wrap (m : Int) = (m : Int) := wrap_small .i64 m (by unfold kLim; simp only; omega)
    have n0 : ¬ ((m : Int) < 0) := by omega
    have nb : ¬ ((m : Int) * (i.bytes : Int) > 2 ^ 48) := by
      rw [hib]
      have : (m : Int) * (b : Int) = ((m * b : Nat) : Int) := by push_cast; rfl
      rw [this]
      omega
    have new' : (if m * sz = 0 then pure #[] else do pure (Builtin.zeroCells (← zeroValue e).cells m) : Sem (Array Value)).run P w = .ok ⟨new⟩ w := by
      split
      · rename_i h0
        have : new = [] := List.eq_nil_of_length_eq_zero (by rw [g6, reps_length, hlen, h0])
        rw [this]
        rfl
      · simp only [Sem.run_bind, z1, Result.andThen_ok, Sem.run_pure, zeroCells_eq z2, g6]
    simp only [Int.ofNat_eq_natCast, Sem.run_bind, run_underlying g2, Result.andThen_ok, Sem.run_pure, if_true, asInt, asIntOf, wl, if_neg n0, hi, if_neg nb, Int.toNat_natCast, if_pos hc, Bool.not_true, Bool.false_eq_true, if_false, new']
    cases base with
    | none =>
      cases hw
      rfl
    | some a =>
      simp only [Sem.run_bind] at hw ⊢
      rw [hw]
      rfl
  | none g1 g2 g3 =>
    rw [g1]
    have g2' := g2 w.drawn
    have g3' := g3 w.drawn
    simp only [Sem.run_bind, Sem.run_pure, Result.andThen_ok, Bool.false_eq_true, if_false, g2', if_pos hc, Bool.not_false, if_true, g3']
    cases base with
    | none =>
      cases hw
      rfl
    | some a =>
      simp only [Sem.run_bind] at hw ⊢
      rw [hw]
      rfl
  | some xt u g1 g0 gk g2 g3 =>
    rw [g1]
    have g2' := g2 w.drawn
    have g3' := g3 w.drawn
    simp only [Sem.run_bind, run_underlying g0, Sem.run_pure, Result.andThen_ok, Bool.false_eq_true, if_false, g2', if_pos hc, Bool.not_false, if_true, g3']
    cases base with
    | none =>
      cases hw
      rfl
    | some a =>
      simp only [Sem.run_bind] at hw ⊢
      rw [hw]
      rfl

theorem growBy_le (need : Nat) : ∀ (r c : Nat), c ≤ need + (need + 768) / 4 → Builtin.growBy need r c ≤ need + (need + 768) / 4
  | 0, _, h => h
  | r + 1, c, h => by
    unfold Builtin.growBy
    split
    · exact h
    · exact growBy_le need r _ (by omega)
theorem nextslicecap_le {need c : Nat} (h : c < need) : Builtin.nextslicecap need c ≤ 2 * need + 192 := by
  unfold Builtin.nextslicecap
  split
  · omega
  · split
    · omega
    · have := growBy_le need 4 c (by omega)
      omega
theorem cap_le {need c b : Nat} (h : c < need) (h1 : b ≤ 1073741824) (h2 : need * b ≤ 1073741824) : ¬ Builtin.nextslicecap need c * b > 2 ^ 48 := by
  have h3 := Nat.mul_le_mul_right b (nextslicecap_le h)
  have h4 : (2 * need + 192) * b = 2 * (need * b) + 192 * b := by rw [Nat.add_mul, Nat.mul_assoc]
  omega

theorem app_grow {ts : Array TypeId} {t ty e : TypeId} {args : Array Value} {base : Option Addr} {n c sz b m : Nat} {x : Value} {old new : List Value} {z : Value} (ht : ts[0]? = some t) (h0 : args[0]? = some (.slice base n c)) (h1 : args[1]? = some x)
    (hu : P.underlying t = some (.slice e)) (hs : szT P e = .ok sz) (hb : bytesT P e = .ok b) (hz : zeroT P e = .ok z) (hlen : (cellsOf z).length = sz) (hx : Src P w ts sz b z x m new) (hc : c < n + m)
    (ho : ∀ d, (Builtin.firstCells sz n (.slice base n c)).run P { w with drawn := d } = .ok ⟨old⟩ { w with drawn := d }) (l1 : n + m ≤ 1073741824) (l2 : b ≤ 1073741824) (l3 : (n + m) * b ≤ 1073741824) :
    ∃ cap, n + m ≤ cap ∧ (Builtin.append_ ts ty args).run P w = .ok (.slice (some ⟨w.heap.size, 0, none⟩) (n + m) cap) { w with heap := w.heap.push (.cells ⟨old ++ new ++ reps (cellsOf z) (cap - (n + m))⟩ e), drawn := w.drawn + 1 } := by
  obtain ⟨z1, z2⟩ := zeroT_ok hz
  obtain ⟨i, hi, hib⟩ := bytesT_run hb w
  refine ⟨(Question.appendCap (n + m) c e).cut (w.tape w.drawn (.appendCap (n + m) c e)), Nat.le_add_right _ _, ?_⟩
  have hcap := cap_le hc l2 l3
  rw [← hib] at hcap
  have hmax : ∀ q : Prop, ¬ (((n + m : Nat) : Int) > IntKind.i64.max ∧ q) := by
    intro q hq
    have := hq.1
    have h2 : IntKind.i64.max = 9223372036854775807 := by decide
    rw [h2] at this
    omega
  have hti : ∀ d, (typeInfo e).run P { w with drawn := d } = .ok i { w with drawn := d } := by
    intro d
    obtain ⟨i', h1, h2⟩ := bytesT_run hb { w with drawn := d }
    have : i' = i := by
      unfold typeInfo at h1 hi
      simp only [Sem.run_bind, run_program, Result.andThen_ok] at h1 hi
      cases hq : P.info? e with
      | none => rw [hq] at hi; cases hi
      | some y => rw [hq] at h1 hi; cases h1; cases hi; rfl
    rw [h1, this]
  unfold Builtin.append_
  rw [ht, h0, h1]
  simp only [Sem.run_bind, run_underlying hu, Result.andThen_ok, szT_run hs]
  have hnf : (Question.appendCap (n + m) c e).forced = false := rfl
  have hgt : ¬ n + m ≤ c := by omega
  have arr : ∀ a b c : List Value, (⟨a⟩ ++ ⟨b⟩ ++ ⟨c⟩ : Array Value) = ⟨a ++ b ++ c⟩ := by intros; simp
  have ho' := ho (w.drawn + 1)
  have hti' := hti (w.drawn + 1)
  cases hx with
  | zeros xt k k' g1 g2 g3 g4 g5 g6 =>
    subst g3
    rw [g1]
    have wl : IntKind.i64.wrap (m : Int) = (m : Int) := wrap_small .i64 m (by unfold kLim; simp only; omega)
    have n0 : ¬ ((m : Int) < 0) := by omega
    have nb : ¬ ((m : Int) * (i.bytes : Int) > 2 ^ 48) := by
      rw [hib]
      have : (m : Int) * (b : Int) = ((m * b : Nat) : Int) := by push_cast; rfl
      rw [this]
      omega
    have new' : (if m * sz = 0 then pure #[] else do pure (Builtin.zeroCells (← zeroValue e).cells m) : Sem (Array Value)).run P { w with drawn := w.drawn + 1 } = .ok ⟨new⟩ { w with drawn := w.drawn + 1 } := by
      split
      · rename_i h0
        have : new = [] := List.eq_nil_of_length_eq_zero (by rw [g6, reps_length, hlen, h0])
        rw [this]
        rfl
      · simp only [Sem.run_bind, z1, Result.andThen_ok, Sem.run_pure, zeroCells_eq z2, g6]
    simp only [Int.ofNat_eq_natCast, Sem.run_bind, run_underlying g2, Result.andThen_ok, Sem.run_pure, if_true, asInt, asIntOf, wl, if_neg n0, hi, if_neg nb, Int.toNat_natCast, if_neg hgt, Bool.not_true, Bool.false_eq_true, if_false, if_neg (hmax _), if_neg hcap,
      run_choose, hnf, hti', run_askRoom, ho', new', z1, zeroCells_eq z2, newRow, run_newObj, arr]
  | none g1 g2 g3 =>
    rw [g1]
    have g2' := g2 w.drawn
    have g3' := g3 (w.drawn + 1)
    simp only [Sem.run_bind, Sem.run_pure, Result.andThen_ok, Bool.false_eq_true, if_false, g2', if_neg hgt, Bool.not_false, if_true, g3', hi, if_neg (hmax _), if_neg hcap, run_choose, hnf, hti', run_askRoom, ho', z1, zeroCells_eq z2, newRow, run_newObj, arr]
  | some xt u g1 g0 gk g2 g3 =>
    rw [g1]
    have g2' := g2 w.drawn
    have g3' := g3 (w.drawn + 1)
    simp only [Sem.run_bind, run_underlying g0, Sem.run_pure, Result.andThen_ok, Bool.false_eq_true, if_false, g2', if_neg hgt, Bool.not_false, if_true, g3', hi, if_neg (hmax _), if_neg hcap, run_choose, hnf, hti', run_askRoom, ho', z1, zeroCells_eq z2, newRow, run_newObj, arr]
end
end Go.Proofs.YtbakhdgiimjnkaaGreatDoor.Abs
