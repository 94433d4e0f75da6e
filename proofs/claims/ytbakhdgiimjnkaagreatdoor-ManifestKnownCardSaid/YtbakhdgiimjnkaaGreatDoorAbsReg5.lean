/-
  A region whose order is open: whatever the order, the evaluator's answer is borne.
-/
import Derived.Test.YtbakhdgiimjnkaaGreatDoorAbsReg4
namespace Go.Proofs.YtbakhdgiimjnkaaGreatDoor.Abs
section
set_option linter.unusedVariables false
open Classical
variable {P : Program} {ops : Array Oper} {I : List PI} {rd : Option Nat} {base n : Nat} {a0 am : Ac}

theorem HF.sub {φ : Phi} {f g : Nat → Option AObj} {w : World} (h : HF φ f w) (hs : ∀ b x, g b = some x → f b = some x) : HF φ g w :=
  ⟨fun b c x y L M h1 h2 => h.inj b c x y L M (hs b x h1) (hs c y h2), fun b x h1 => h.obj b x (hs b x h1)⟩
theorem PF.sub {φ φ0 : Phi} {f0 f g : Nat → Option AObj} {n0 m m' : Nat} {w0 w : World} (h : PF φ0 f0 n0 w0 φ f m w) (hs : ∀ b x, g b = some x → f b = some x) (hm : m ≤ m') : PF φ0 f0 n0 w0 φ g m' w :=
  ⟨⟨h.rel.mem.sub hs, fun b hb => h.rel.fresh b (Nat.le_trans hm hb), h.rel.globals⟩, h.le, ⟨h.fr.size, h.fr.os, h.fr.tape, h.fr.output, fun k hk hn =>
    ⟨(h.fr.rest k hk hn).1, fun b x L h1 => (h.fr.rest k hk hn).2 b x L (hs b x h1)⟩⟩, Nat.le_trans h.next hm, h.names⟩

/-- a temporary, when those of L are done -/
noncomputable def valD (ops : Array Oper) (a0 am : Ac) (L : Nat → Bool) (t : Tmp) : Option Value := if ∃ j, Wr ops j t ∧ L j = true then am.tmps.get t else a0.tmps.get t
/-- memory, when those of L are done -/
noncomputable def FD (P : Program) (ops : Array Oper) (I : List PI) (base : Nat) (a0 am : Ac) (L : Nat → Bool) (pn : Nat → Prop) (sg : St) (b : Nat) : Option AObj :=
  if h : ∃ x, ∃ i, L i = true ∧ ¬ pn i ∧ NewIs P ops I base a0 am i b x then some (Classical.choose h) else sg.heap.get b
theorem NewIs.inj {i j b : Nat} {x y : AObj} (h : NewIs P ops I base a0 am i b x) (k : NewIs P ops I base a0 am j b y) : i = j ∧ x = y := by
  obtain ⟨o, p, f, h1, h2, h3, h4, h5, h6⟩ := h
  obtain ⟨o', p', f', k1, k2, k3, k4, k5, k6⟩ := k
  have e : i = j := by omega
  subst e
  rw [h1] at k1
  cases k1
  rw [h5] at k5
  cases k5
  exact ⟨rfl, rfl⟩
theorem FD_new {L : Nat → Bool} {pn : Nat → Prop} {sg : St} {b i : Nat} {x : AObj} (h1 : L i = true) (h2 : ¬ pn i) (h3 : NewIs P ops I base a0 am i b x) : FD P ops I base a0 am L pn sg b = some x := by
  have h : ∃ x, ∃ i, L i = true ∧ ¬ pn i ∧ NewIs P ops I base a0 am i b x := ⟨x, i, h1, h2, h3⟩
  unfold FD
  rw [dif_pos h]
  obtain ⟨j, _, _, k⟩ := Classical.choose_spec h
  rw [(k.inj h3).2]
theorem FD_some {L : Nat → Bool} {pn : Nat → Prop} {sg : St} {b : Nat} {x : AObj} (h : FD P ops I base a0 am L pn sg b = some x) : (∃ i, L i = true ∧ ¬ pn i ∧ NewIs P ops I base a0 am i b x) ∨ sg.heap.get b = some x := by
  unfold FD at h
  split at h
  · rename_i hx
    cases h
    exact .inl (Classical.choose_spec hx)
  · exact .inr h

/-- how the machine stands, when those of L are done -/
structure Sim (P : Program) (ops : Array Oper) (I : List PI) (rd : Option Nat) (base n : Nat) (a0 am : Ac) (φ0 : Phi) (f0 : Nat → Option AObj) (n0 : Nat) (w0 : World) (sm : St) (L : Nat → Bool) (ts : Array Value) (ds : List Deferred) (w : World)
    (es : List Nat) (prev : Option Nat) (pb : Nat) (pn : Nat → Prop) (sg : St) (df : List Deferred) (φ : Phi) : Prop where
  gaps : Gaps P ops I rd base a0 am es prev pb pn sg df sm am.dfs
  ein : ∀ i o p, ops[i]? = some o → I[i]? = some p → p.c = .e → L i = false → i ∈ es
  eout : ∀ i ∈ es, L i = false
  closed : ∀ j q, I[j]? = some q → L j = true → ∀ k, tb q.b k = true → L k = true
  pbL : ∀ k, tb pb k = true → L k = true
  pnL : ∀ i, pn i → L i = true
  post : PF φ0 f0 n0 w0 φ (FD P ops I base a0 am L pn sg) sg.next w
  nx : base + n ≤ sg.next
  free : ∀ i o p, ops[i]? = some o → I[i]? = some p → p.c = .n → ¬ pn i → ¬ (L i = true ∧ WF ops I a0 am i o true) → φ (base + i) = none
  hole : ∀ i o p, ops[i]? = some o → I[i]? = some p → p.c = .n → ¬ pn i → sg.heap.get (base + i) = none
  size : ts.size = a0.n
  tmps : ∀ t v, valD ops a0 am L t = some v → ∃ v', ts[t]? = some v' ∧ VRel φ v v'
  dfs : DsRel φ df ds

theorem bef_done (hst : Stat P ops I) {L : Nat → Bool} (closed : ∀ j q, I[j]? = some q → L j = true → ∀ k, tb q.b k = true → L k = true) {i : Nat} {o : Oper} {p : PI} (ho : ops[i]? = some o) (hp : I[i]? = some p)
    (hr : ∀ e ∈ o.after, bindsE e.ground = true → L e.on = true) : ∀ k, tb p.b k = true → L k = true := by
  intro k hk
  obtain ⟨e, h1, h2, h3⟩ := hst.bef i o p ho hp k hk
  rcases h3 with rfl | ⟨q, h4, h5⟩
  · exact hr e h1 h2
  · exact closed _ q h4 (hr e h1 h2) k h5
theorem looks_valD (hst : Stat P ops I) {L : Nat → Bool} (closed : ∀ j q, I[j]? = some q → L j = true → ∀ k, tb q.b k = true → L k = true) {i : Nat} {o : Oper} {p : PI} (ho : ops[i]? = some o) (hp : I[i]? = some p) (hi : L i = false)
    (hb : ∀ k, tb p.b k = true → L k = true) : ∀ t ∈ o.looksAt ops, getIn ops I a0 am i t = valD ops a0 am L t := by
  intro t ht
  unfold getIn valD
  by_cases h : ∃ j p, I[i]? = some p ∧ Wr ops j t ∧ tb p.b j = true
  · rw [if_pos h]
    obtain ⟨j, p', h1, h2, h3⟩ := h
    rw [hp] at h1
    cases h1
    rw [if_pos ⟨j, h2, hb j h3⟩]
  · rw [if_neg h, if_neg]
    rintro ⟨j, hj, hL⟩
    obtain ⟨o', ho', hd⟩ := id hj
    have hlt : j < I.length := by rw [hst.len]; exact (Array.getElem?_eq_some_iff.1 ho').1
    rcases hst.apart i j o p I[j] t ho hp (List.getElem?_eq_getElem hlt) hj ht with h3 | h3
    · exact h ⟨j, p, hp, hj, h3⟩
    · have := closed j _ (List.getElem?_eq_getElem hlt) hL i h3
      rw [hi] at this; cases this
/-- operands, as the machine finds them -/
theorem env_rel {φ : Phi} {f : Nat → Option AObj} {m : Nat} {w : World} (hS : SF φ f m w) {L : Nat → Bool} {ts : Array Value} {i : Nat} {o : Oper} (hl : ∀ t ∈ o.looksAt ops, getIn ops I a0 am i t = valD ops a0 am L t)
    (ht : ∀ t v, valD ops a0 am L t = some v → ∃ v', ts[t]? = some v' ∧ VRel φ v v') : ∀ x v, env ops I a0 am i o x = .ok v → VRel φ v (tev ts x) := by
  intro x v e
  unfold env at e
  split at e <;> first | (cases e; done) | skip
  rename_i hx
  cases x with
  | tmp t =>
    have hm : t ∈ o.looksAt ops := List.mem_append_left _ (List.mem_filterMap.2 ⟨.tmp t, by simpa using hx, rfl⟩)
    have h1 := Rs.of_ok (show Rs.of 11 (getIn ops I a0 am i t) = .ok v from e)
    rw [hl t hm] at h1
    obtain ⟨v', h2, h3⟩ := ht t v h1
    have : tev ts (.tmp t) = v' := by simp [tev, h2]
    rw [this]
    exact h3
  | const c =>
    obtain ⟨h1, h2⟩ := ifb_no (show ifb (constOk c) (Rs.ok c) (.no 12 "") = .ok v from e)
    cases h2
    exact (constOk_flat h1).rel φ
  | global g =>
    obtain ⟨h1, h2⟩ := ifb_no (show ifb (Nat.blt g 4096) (Rs.ok (Value.pointer (some ⟨g, 0, none⟩))) (.no 14 "") = .ok v from e)
    cases h2
    have := VRel.ptr (φ := φ) (b := g) (L := ⟨g, 0, 0, 0⟩) 0 (hS.globals g (by simpa using h1))
    simpa [tev] using this
  | func g =>
    cases (show Rs.ok (Value.func (.func g) #[] #[]) = Rs.ok v from e)
    exact .func (.func g) rfl rfl (fun i v v' h => by simp at h) (fun i v v' h => by simp at h)
theorem wanted_sim {φ : Phi} {L : Nat → Bool} {ts : Array Value} {i : Nat} {o : Oper} {wb : Bool} (hl : ∀ t ∈ o.looksAt ops, getIn ops I a0 am i t = valD ops a0 am L t)
    (ht : ∀ t v, valD ops a0 am L t = some v → ∃ v', ts[t]? = some v' ∧ VRel φ v v') (h : WF ops I a0 am i o wb) : Region.wanted o (yielded ops ts) = wb := by
  unfold WF at h
  unfold Region.wanted
  cases hg : o.guard with
  | none => rw [hg] at h; exact h.symm
  | some jw =>
    obtain ⟨j, want⟩ := jw
    rw [hg] at h
    obtain ⟨t, v, h1, h2, rfl⟩ := h
    have hm : t ∈ o.looksAt ops := by
      unfold Oper.looksAt
      refine List.mem_append_right _ ?_
      rw [hg]
      simp [h1]
    rw [hl t hm] at h2
    obtain ⟨v', h4, h5⟩ := ht t v h2
    cases h5 <;> simp [yielded, h1, h4, wantedB]

/-- temporaries behind an operation -/
theorem tmps_next (hst : Stat P ops I) {φ ψ : Phi} {L : Nat → Bool} {ts : Array Value} {i : Nat} {o : Oper} {v v' : Value} (ho : ops[i]? = some o) (hle : φ.le ψ) (hs : ts.size = a0.n) (hdst : ∀ t, o.dst = some t → t < a0.n)
    (ht : ∀ t v, valD ops a0 am L t = some v → ∃ v', ts[t]? = some v' ∧ VRel φ v v') (hv : VRel ψ v v') (hvis : ValIs am o v) :
    (putT ts o.dst v').size = a0.n ∧ ∀ t u, valD ops a0 am (fun j => L j || decide (i = j)) t = some u → ∃ u', (putT ts o.dst v')[t]? = some u' ∧ VRel ψ u u' := by
  refine ⟨by cases hd : o.dst <;> simp [putT, hs], fun t u hu => ?_⟩
  by_cases e : o.dst = some t
  · have h1 : valD ops a0 am (fun j => L j || decide (i = j)) t = am.tmps.get t := by
      unfold valD
      rw [if_pos ⟨i, ⟨o, ho, e⟩, by simp⟩]
    rw [h1] at hu
    have := hvis t e u hu
    subst this
    exact ⟨v', by simp [putT, e, hs, hdst t e], hv⟩
  · have h1 : valD ops a0 am (fun j => L j || decide (i = j)) t = valD ops a0 am L t := by
      unfold valD
      congr 1
      apply propext
      constructor
      · rintro ⟨j, hj, hL⟩
        refine ⟨j, hj, ?_⟩
        simp only [Bool.or_eq_true, decide_eq_true_eq] at hL
        rcases hL with hL | rfl
        · exact hL
        · obtain ⟨o', ho', hd⟩ := hj
          rw [ho] at ho'; cases ho'
          exact absurd hd e
      · rintro ⟨j, hj, hL⟩
        exact ⟨j, hj, by simp [hL]⟩
    rw [h1] at hu
    obtain ⟨u', h2, h3⟩ := ht t u hu
    refine ⟨u', ?_, h3.mono hle⟩
    cases hd : o.dst with
    | none => exact h2
    | some q =>
      have : q ≠ t := fun x => e (by rw [hd, x])
      simp only [putT]
      rw [Array.getElem?_setIfInBounds_ne this]
      exact h2

/-- an operation of a region is carried out -/
def One (P : Program) (b : Fm) (ops : Array Oper) (i : Nat) (ts : Array Value) (ds : List Deferred) (w : World) (ts' : Array Value) (ds' : List Deferred) (w' : World) (rest : List Nat) (k : List Item) (cs : List Frame) : Prop :=
  Steps P (lone (b.at ts ds (.inRegion ops (i :: rest) :: k)) cs w) (lone (b.at ts' ds' (.inRegion ops rest :: k)) cs w')
theorem one_skip {b : Fm} {i : Nat} {o : Oper} {ts : Array Value} {ds : List Deferred} {w : World} {rest : List Nat} {k : List Item} {cs : List Frame} (ho : ops[i]? = some o) (hw : Region.wanted o (yielded ops ts) = false) : One P b ops i ts ds w (putT ts o.dst undef) ds w rest k cs := by
  have := mv_op_skip (P := P) (b := b) (ts := ts) (ds := ds) (k := k) (cs := cs) (w := w) (ops := ops) (i := i) (rest := rest) (by simp [ho, hw])
  simp only [ho, Option.bind_some] at this
  exact .one this
theorem one_does {b : Fm} {i : Nat} {o : Oper} {ts : Array Value} {ds ds' : List Deferred} {w w' : World} {v' : Value} {rest : List Nat} {k : List Item} {cs : List Frame} (ho : ops[i]? = some o) (hw : Region.wanted o (yielded ops ts) = true) (h : Does P (b.at ts ds (.inRegion ops (i :: rest) :: k)) cs b.rd (tev ts) o w v' ds' w') : One P b ops i ts ds w (putT ts o.dst v') (ds' ++ ds) w' rest k cs :=
  mv_does ho hw h
theorem no_defer {o : Oper} (h : clsOf P o.op ≠ .e) : ∀ c, o.op ≠ .defer c := fun c e => h (by rw [e]; rfl)

theorem FD_sg {φ0 : Phi} {f0 : Nat → Option AObj} {n0 : Nat} {w0 w : World} {sm : St} {L : Nat → Bool} {ts : Array Value} {ds : List Deferred} {es : List Nat} {prev : Option Nat} {pb : Nat} {pn : Nat → Prop} {sg : St} {df : List Deferred} {φ : Phi}
    (S : Sim P ops I rd base n a0 am φ0 f0 n0 w0 sm L ts ds w es prev pb pn sg df φ) {b : Nat} {x : AObj} (h : sg.heap.get b = some x) : FD P ops I base a0 am L pn sg b = some x := by
  unfold FD
  split
  · rename_i hx
    obtain ⟨y, i, _, h2, o, p, f, h3, h4, h5, _, _, h8⟩ := hx
    rw [h8, S.hole i o p h3 h4 h5 h2] at h
    cases h
  · exact h
/-- operations that make no block leave memory's names -/
theorem FD_same {L : Nat → Bool} {pn : Nat → Prop} {sg : St} {i : Nat} (hn : ∀ b x, ¬ NewIs P ops I base a0 am i b x) : FD P ops I base a0 am (fun j => L j || decide (i = j)) pn sg = FD P ops I base a0 am L pn sg := by
  funext b
  have : (∃ x, ∃ j, (L j || decide (i = j)) = true ∧ ¬ pn j ∧ NewIs P ops I base a0 am j b x) ↔ ∃ x, ∃ j, L j = true ∧ ¬ pn j ∧ NewIs P ops I base a0 am j b x := by
    constructor
    · rintro ⟨x, j, h1, h2, h3⟩
      simp only [Bool.or_eq_true, decide_eq_true_eq] at h1
      rcases h1 with h1 | rfl
      · exact ⟨x, j, h1, h2, h3⟩
      · exact absurd h3 (hn b x)
    · rintro ⟨x, j, h1, h2, h3⟩
      exact ⟨x, j, by simp [h1], h2, h3⟩
  by_cases h : ∃ x, ∃ j, L j = true ∧ ¬ pn j ∧ NewIs P ops I base a0 am j b x
  · obtain ⟨x, j, h1, h2, h3⟩ := h
    rw [FD_new h1 h2 h3, FD_new (L := fun j => L j || decide (i = j)) (i := j) (by simp [h1]) h2 h3]
  · have h' := fun e => h (this.1 e)
    unfold FD
    rw [dif_neg h, dif_neg h']
end
end Go.Proofs.YtbakhdgiimjnkaaGreatDoor.Abs
