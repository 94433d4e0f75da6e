/-
  A plan that has been looked at: what is known of it.
-/
import Derived.Test.YtbakhdgiimjnkaaGreatDoorAbsReg
namespace Go.Proofs.YtbakhdgiimjnkaaGreatDoor.Abs
section
set_option linter.unusedVariables false
variable {P : Program} {ops : Array Oper} {I : List PI}

theorem andB {c t : Bool} (h : ifb c t false = true) : c = true ∧ t = true := by
  cases c
  · cases h
  · exact ⟨rfl, h⟩
theorem orB {c t e : Bool} (h : ifb c t e = true) : (c = true ∧ t = true) ∨ (c = false ∧ e = true) := by
  cases c
  · exact .inr ⟨rfl, h⟩
  · exact .inl ⟨rfl, h⟩
theorem tb_eq (m i : Nat) : tb m i = m.testBit i := by
  unfold tb
  show Nat.beq ((m >>> i) &&& 1) 1 = _
  rw [Nat.and_comm]
  unfold Nat.testBit
  rw [beq_nat]
  rcases Nat.mod_two_eq_zero_or_one (m >>> i) with h | h <;> simp [Nat.one_and_eq_mod_two, h]
theorem tb_bit (m i j : Nat) : tb (bit m i) j = (tb m j || decide (i = j)) := by
  rw [tb_eq, tb_eq]
  show (m ||| (1 <<< i)).testBit j = _
  rw [Nat.testBit_or, Nat.testBit_shiftLeft]
  congr 1
  by_cases h : i = j
  · subst h; simp
  · simp only [h, decide_false, Bool.and_eq_false_iff, decide_eq_false_iff_not]
    by_cases h2 : j ≥ i
    · right
      obtain ⟨m, hm⟩ : ∃ m, j - i = m + 1 := ⟨j - i - 1, by omega⟩
      rw [hm]
      simp [Nat.testBit_succ]
    · left; exact h2
theorem sub_spec {b d : Nat} (h : sub b d = true) (i : Nat) (hi : tb b i = true) : tb d i = true := by
  have := Nat.eq_of_beq_eq_true h
  rw [tb_eq] at hi ⊢
  have h2 : (b &&& d).testBit i = b.testBit i := congrArg (fun x => Nat.testBit x i) this
  rw [Nat.testBit_and, hi] at h2
  simpa using h2
theorem tb_zero (i : Nat) : tb 0 i = false := by rw [tb_eq]; simp

theorem closeB_spec {pb cur : Nat} {e : Option Nat} : ∀ {J : List PI} {i0 : Nat}, closeB pb e cur J i0 = true → ∀ (j : Nat) (p : PI), J[j]? = some p → p.c = .r → (∃ x, e = some x ∧ tb p.b x = true) ∨ tb pb (i0 + j) = true ∨ tb cur (i0 + j) = true
  | [], _, _, j, p, h, _ => by simp at h
  | q :: J, i0, h, j, p, hj, hp => by
    unfold closeB at h
    have rest : closeB pb e cur J (i0 + 1) = true ∧ (q.c = .r → (∃ x, e = some x ∧ tb q.b x = true) ∨ tb pb i0 = true ∨ tb cur i0 = true) := by
      rcases orB h with ⟨_, h⟩ | ⟨hc, h⟩
      · rcases orB h with ⟨h1, h⟩ | ⟨_, h⟩
        · refine ⟨h, fun _ => .inl ?_⟩
          cases e with
          | none => cases h1
          | some x => exact ⟨x, rfl, h1⟩
        · rcases orB h with ⟨h1, h⟩ | ⟨_, h⟩
          · exact ⟨h, fun _ => .inr (.inl h1)⟩
          · obtain ⟨h1, h⟩ := andB h
            exact ⟨h, fun _ => .inr (.inr h1)⟩
      · refine ⟨h, fun hq => ?_⟩
        rw [hq] at hc
        cases hc
    cases j with
    | zero =>
      obtain rfl : q = p := by simpa using hj
      simpa using rest.2 hp
    | succ j =>
      have := closeB_spec rest.1 j p (by simpa using hj) hp
      rw [show i0 + (j + 1) = i0 + 1 + j by omega]
      exact this

theorem ck_go {n i : Nat} {c : Ck} {k : Ck → Bool} (h : ckStep ops I n c (.go i) k = true) : ∃ p, I[i]? = some p ∧ tb c.done i = false ∧ sub p.b c.done = true ∧
    ((p.c = .p ∧ k ⟨c.prev, c.pb, bit c.done i, c.cur, c.cn, c.pre⟩ = true) ∨ (p.c = .r ∧ c.pre = true ∧ k ⟨c.prev, c.pb, bit c.done i, bit c.cur i, c.cn, c.pre⟩ = true) ∨
      (p.c = .e ∧ (∀ q, c.prev = some q → tb p.b q = true) ∧ sub c.cn p.b = true ∧ closeB c.pb (some i) c.cur I 0 = true ∧ k ⟨some i, p.b, bit c.done i, 0, 0, true⟩ = true)) := by
  unfold ckStep at h
  cases hp : nth I i with
  | none => simp only [hp, optP] at h; cases h
  | some p =>
    simp only [hp, optP] at h
    rw [nth_eq] at hp
    refine ⟨p, hp, ?_⟩
    unfold ckGo at h
    simp only [natK_eq] at h
    rcases orB h with ⟨_, h⟩ | ⟨h1, h⟩
    · cases h
    obtain ⟨h2, h⟩ := andB h
    refine ⟨h1, h2, ?_⟩
    cases hc : p.c <;> simp only [hc] at h
    · exact .inl ⟨rfl, h⟩
    · obtain ⟨h3, h⟩ := andB h
      exact .inr (.inl ⟨rfl, h3, h⟩)
    · cases h
    · obtain ⟨h3, h⟩ := andB h
      obtain ⟨h4, h⟩ := andB h
      obtain ⟨h5, h⟩ := andB h
      refine .inr (.inr ⟨rfl, fun q hq => ?_, h4, h5, h⟩)
      rw [hq] at h3
      exact h3
theorem ck_again {n i : Nat} {c : Ck} {k : Ck → Bool} (h : ckStep ops I n c (.again i) k = true) : ∃ p o, I[i]? = some p ∧ ops[i]? = some o ∧ p.c = .r ∧ tb c.done i = true ∧ c.pre = true ∧ notYet (o.looksAt ops) p.b c.done ops.toList 0 = true ∧ k ⟨c.prev, c.pb, c.done, bit c.cur i, c.cn, c.pre⟩ = true := by
  unfold ckStep at h
  cases hp : nth I i with
  | none => simp only [hp, optP] at h; cases h
  | some p =>
    simp only [hp, optP] at h
    rw [nth_eq] at hp
    simp only [natK_eq] at h
    obtain ⟨h1, h⟩ := andB h
    obtain ⟨h2, h⟩ := andB h
    obtain ⟨h3, h⟩ := andB h
    obtain ⟨h4, h⟩ := andB h
    cases ho : ops[i]? with
    | none => rw [ho] at h4; cases h4
    | some o =>
      rw [ho] at h4
      refine ⟨p, o, hp, rfl, ?_, h2, h3, h4, h⟩
      cases hc : p.c <;> rw [hc] at h1 <;> first | rfl | cases h1
theorem ck_new {n i j : Nat} {c : Ck} {k : Ck → Bool} (h : ckStep ops I n c (.new i j) k = true) : ∃ p, I[i]? = some p ∧ p.c = .n ∧ tb c.done i = false ∧ sub p.b c.done = true ∧ i < n ∧ i = j ∧ k ⟨c.prev, c.pb, bit c.done i, c.cur, bit c.cn i, false⟩ = true := by
  unfold ckStep at h
  cases hp : nth I i with
  | none => simp only [hp, optP] at h; cases h
  | some p =>
    simp only [hp, optP] at h
    rw [nth_eq] at hp
    simp only [natK_eq] at h
    obtain ⟨h1, h⟩ := andB h
    rcases orB h with ⟨_, h⟩ | ⟨h2, h⟩
    · cases h
    obtain ⟨h3, h⟩ := andB h
    obtain ⟨h4, h⟩ := andB h
    obtain ⟨h5, h⟩ := andB h
    refine ⟨p, hp, ?_, h2, h3, by simpa using h4, Nat.eq_of_beq_eq_true h5, h⟩
    cases hc : p.c <;> rw [hc] at h1 <;> first | rfl | cases h1
theorem ck_end {c : Ck} (h : ckEnd I c = true) : (∀ i, i < I.length → tb c.done i = true) ∧ closeB c.pb none c.cur I 0 = true := by
  unfold ckEnd at h
  obtain ⟨h1, h⟩ := andB h
  refine ⟨fun i hi => ?_, h⟩
  have h2 := Nat.eq_of_beq_eq_true h1
  rw [tb_eq, h2, lenN_eq]
  show ((1 <<< I.length) - 1).testBit i = true
  rw [Nat.shiftLeft_eq, Nat.one_mul, Nat.testBit_two_pow_sub_one]
  simpa using hi

/-- who writes a temporary -/
def Wr (ops : Array Oper) (j : Nat) (t : Tmp) : Prop := ∃ o, ops[j]? = some o ∧ o.dst = some t

/-- what is known of a region's operations -/
structure Stat (P : Program) (ops : Array Oper) (I : List PI) : Prop where
  len : I.length = ops.size
  cls : ∀ (i : Nat) (o : Oper) (p : PI), ops[i]? = some o → I[i]? = some p → p.c = clsOf P o.op
  bef : ∀ (i : Nat) (o : Oper) (p : PI), ops[i]? = some o → I[i]? = some p → ∀ k, tb p.b k = true → ∃ e ∈ o.after, bindsE e.ground = true ∧ (e.on = k ∨ ∃ q, I[e.on]? = some q ∧ tb q.b k = true)
  lt : ∀ (i : Nat) (o : Oper), ops[i]? = some o → ∀ e ∈ o.after, bindsE e.ground = true → e.on < i
  apart : ∀ (i j : Nat) (o : Oper) (p q : PI) (t : Tmp), ops[i]? = some o → I[i]? = some p → I[j]? = some q → Wr ops j t → t ∈ o.looksAt ops → tb p.b j = true ∨ tb q.b i = true
  once : ∀ (i j : Nat) (t : Tmp), Wr ops i t → Wr ops j t → i = j

theorem isIn_spec {d : Nat} : ∀ {l : List Nat}, d ∈ l → isIn d l = true
  | x :: l, h => by
    unfold isIn
    rw [ifb_eq]
    split
    · rfl
    · rename_i hne
      rcases List.mem_cons.1 h with rfl | h
      · exact absurd (Nat.beq_refl d) hne
      · exact isIn_spec h
theorem befL_spec {k : Nat} : ∀ {es : List Edge}, tb (befL I es) k = true → ∃ e ∈ es, bindsE e.ground = true ∧ (e.on = k ∨ ∃ q, I[e.on]? = some q ∧ tb q.b k = true)
  | [], h => by rw [show befL I [] = 0 from rfl, tb_zero] at h; cases h
  | e :: es, h => by
    unfold befL at h
    cases hb : bindsE e.ground
    case true =>
      rw [hb, tb_eq] at h
      have h' : ((befL I es ||| (match nth I e.on with | none => 0 | some p => p.b)) ||| (1 <<< e.on)).testBit k = true := h
      rw [Nat.testBit_or, Nat.testBit_or, Bool.or_eq_true, Bool.or_eq_true] at h'
      rcases h' with (h1 | h1) | h1
      · obtain ⟨f, h2, h3⟩ := befL_spec (by rw [tb_eq]; exact h1)
        exact ⟨f, List.mem_cons_of_mem _ h2, h3⟩
      · refine ⟨e, List.mem_cons_self, hb, .inr ?_⟩
        split at h1
        · simp at h1
        · rename_i p hp
          rw [nth_eq] at hp
          exact ⟨p, hp, by rw [tb_eq]; exact h1⟩
      · refine ⟨e, List.mem_cons_self, hb, .inl ?_⟩
        have h2 : tb (bit 0 e.on) k = true := by
          rw [tb_eq]
          show (0 ||| (1 <<< e.on)).testBit k = true
          rw [Nat.testBit_or, h1]
          simp
        rw [tb_bit, tb_zero] at h2
        simpa using h2
    case false =>
      rw [hb] at h
      obtain ⟨f, h2, h3⟩ := befL_spec h
      exact ⟨f, List.mem_cons_of_mem _ h2, h3⟩
theorem allEdges_spec {i : Nat} : ∀ {es : List Edge}, allEdges i es = true → ∀ e ∈ es, bindsE e.ground = true → e.on < i
  | [], _, _, h, _ => by simp at h
  | f :: es, h, e, he, hb => by
    unfold allEdges at h
    rcases List.mem_cons.1 he with rfl | he
    · rw [hb] at h
      obtain ⟨h1, _⟩ := andB h
      simpa using h1
    · refine allEdges_spec (es := es) ?_ e he hb
      rcases orB h with ⟨_, h⟩ | ⟨_, h⟩
      · exact (andB h).2
      · exact h
theorem apartB_spec {look : List Nat} {dst : Option Tmp} {b i : Nat} : ∀ {l : List Oper} {ps : List PI} {j0 : Nat}, apartB look dst b i l ps j0 = true → ∀ (j : Nat) (o : Oper) (p : PI) (t : Tmp), l[j]? = some o → ps[j]? = some p → o.dst = some t →
      (t ∈ look → tb b (j0 + j) = true ∨ tb p.b i = true) ∧ (dst = some t → i = j0 + j)
  | [], _, _, _, j, o, p, t, h, _, _ => by simp at h
  | _ :: _, [], _, _, j, o, p, t, _, h, _ => by simp at h
  | q :: l, r :: ps, j0, h, j, o, p, t, ho, hp, ht => by
    unfold apartB at h
    have rest : apartB look dst b i l ps (j0 + 1) = true ∧ ∀ t, q.dst = some t → (t ∈ look → tb b j0 = true ∨ tb r.b i = true) ∧ (dst = some t → i = j0) := by
      split at h
      · rename_i hn
        exact ⟨h, fun t ht => by rw [hn] at ht; cases ht⟩
      · rename_i d hd
        obtain ⟨h1, h⟩ := andB h
        have h2 : apartB look dst b i l ps (j0 + 1) = true ∧ (dst = some d → i = j0) := by
          rcases orB h with ⟨_, h⟩ | ⟨h3, h⟩
          · obtain ⟨h3, h⟩ := andB h
            exact ⟨h, fun _ => Nat.eq_of_beq_eq_true h3⟩
          · refine ⟨h, fun hd => ?_⟩
            rw [hd] at h3
            have : Nat.beq d d = false := h3
            rw [Nat.beq_refl] at this
            cases this
        refine ⟨h2.1, fun t ht => ?_⟩
        rw [hd] at ht
        cases ht
        refine ⟨fun hm => ?_, h2.2⟩
        rw [isIn_spec hm] at h1
        rcases orB (show ifb (tb b j0) true (tb r.b i) = true from h1) with ⟨h3, _⟩ | ⟨_, h3⟩
        · exact .inl h3
        · exact .inr h3
    cases j with
    | zero =>
      obtain rfl : q = o := by simpa using ho
      obtain rfl : r = p := by simpa using hp
      simpa using rest.2 t ht
    | succ j =>
      have := apartB_spec rest.1 j o p t (by simpa using ho) (by simpa using hp) ht
      rw [show j0 + (j + 1) = j0 + 1 + j by omega]
      exact this
theorem notYet_spec {look : List Nat} {b done : Nat} : ∀ {l : List Oper} {j0 : Nat}, notYet look b done l j0 = true → ∀ (j : Nat) (o : Oper) (t : Tmp), l[j]? = some o → o.dst = some t → t ∈ look → tb b (j0 + j) = true ∨ tb done (j0 + j) = false
  | [], _, _, j, o, t, h, _, _ => by simp at h
  | q :: l, j0, h, j, o, t, ho, ht, hm => by
    unfold notYet at h
    have rest : notYet look b done l (j0 + 1) = true ∧ ∀ t, q.dst = some t → t ∈ look → tb b j0 = true ∨ tb done j0 = false := by
      split at h
      · rename_i hn
        exact ⟨h, fun t ht => by rw [hn] at ht; cases ht⟩
      · rename_i d hd
        obtain ⟨h1, h⟩ := andB h
        refine ⟨h, fun t ht hm => ?_⟩
        rw [hd] at ht
        cases ht
        rw [isIn_spec hm] at h1
        rcases orB (show ifb (tb b j0) true (!tb done j0) = true from h1) with ⟨h3, _⟩ | ⟨_, h3⟩
        · exact .inl h3
        · exact .inr (by simpa using h3)
    cases j with
    | zero =>
      obtain rfl : q = o := by simpa using ho
      simpa using rest.2 t ht hm
    | succ j =>
      have := notYet_spec rest.1 j o t (by simpa using ho) ht hm
      rw [show j0 + (j + 1) = j0 + 1 + j by omega]
      exact this
theorem eqCl_spec {a b : Cl} (h : eqCl a b = true) : a = b := by cases a <;> cases b <;> first | rfl | cases h
theorem opsOk_spec : ∀ {l : List Oper} {ps : List PI} {i0 : Nat}, opsOk P ops I l ps i0 = true → ps.length = l.length ∧ ∀ (i : Nat) (o : Oper) (p : PI), l[i]? = some o → ps[i]? = some p →
      p.c = clsOf P o.op ∧ p.b = befL I o.after.toList ∧ allEdges (i0 + i) o.after.toList = true ∧ apartB (o.looksAt ops) o.dst p.b (i0 + i) ops.toList I 0 = true
  | [], [], _, _ => ⟨rfl, fun i o p h => by simp at h⟩
  | [], _ :: _, _, h => by cases h
  | _ :: _, [], _, h => by cases h
  | q :: l, r :: ps, i0, h => by
    unfold opsOk at h
    obtain ⟨h1, h⟩ := andB h
    obtain ⟨h2, h⟩ := andB h
    obtain ⟨h3, h⟩ := andB h
    obtain ⟨h4, h⟩ := andB h
    obtain ⟨h5, h6⟩ := opsOk_spec h
    refine ⟨by simp [h5], fun i o p ho hp => ?_⟩
    cases i with
    | zero =>
      obtain rfl : q = o := by simpa using ho
      obtain rfl : r = p := by simpa using hp
      exact ⟨eqCl_spec h1, Nat.eq_of_beq_eq_true h2, h3, h4⟩
    | succ i =>
      have := h6 i o p (by simpa using ho) (by simpa using hp)
      rw [show i0 + (i + 1) = Nat.succ i0 + i by omega]
      exact this
theorem stat_of (h : opsOk P ops I ops.toList I 0 = true) : Stat P ops I := by
  obtain ⟨h1, h2⟩ := opsOk_spec h
  have h1 : I.length = ops.size := by simpa using h1
  have get : ∀ (i : Nat) (o : Oper), ops[i]? = some o → ∃ p, I[i]? = some p := fun i o ho => by
    have := (Array.getElem?_eq_some_iff.1 ho).1
    exact ⟨_, List.getElem?_eq_getElem (by omega)⟩
  have all := fun (i : Nat) (o : Oper) (p : PI) (ho : ops[i]? = some o) (hp : I[i]? = some p) => h2 i o p (by simpa using ho) hp
  refine ⟨h1, fun i o p ho hp => (all i o p ho hp).1, fun i o p ho hp k hk => ?_, fun i o ho e he hb => ?_, fun i j o p q t ho hp hq hw ht => ?_, fun i j t hi hj => ?_⟩
  · rw [(all i o p ho hp).2.1] at hk
    obtain ⟨e, h3, h4⟩ := befL_spec hk
    exact ⟨e, by simpa using h3, h4⟩
  · obtain ⟨p, hp⟩ := get i o ho
    have := allEdges_spec (all i o p ho hp).2.2.1 e (by simpa using he) hb
    omega
  · obtain ⟨o', ho', hd⟩ := hw
    have := (apartB_spec (all i o p ho hp).2.2.2 j o' q t (by simpa using ho') hq hd).1 ht
    simpa using this
  · obtain ⟨o, ho, hd⟩ := hi
    obtain ⟨o', ho', hd'⟩ := hj
    obtain ⟨p, hp⟩ := get i o ho
    obtain ⟨q, hq⟩ := get j o' ho'
    have := (apartB_spec (all i o p ho hp).2.2.2 j o' q t (by simpa using ho') hq hd').2 hd
    omega
end
end Go.Proofs.YtbakhdgiimjnkaaGreatDoor.Abs
