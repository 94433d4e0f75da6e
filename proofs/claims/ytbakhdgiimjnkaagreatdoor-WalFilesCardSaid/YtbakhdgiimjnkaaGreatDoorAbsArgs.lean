/-
  A LAW WITH ARGUMENTS: a first state whose blocks are tables and the arguments' own ones (constants). What the evaluator's walk shows of the law holds in the model.
-/
import Derived.Test.YtbakhdgiimjnkaaGreatDoorAbsSum
import Derived.Test.YtbakhdgiimjnkaaGreatDoorEvA
import Derived.Test.YtbakhdgiimjnkaaGreatDoorSumDef
import Derived.Test.YtbakhdgiimjnkaaGreatDoorBase
set_option linter.unusedVariables false
set_option linter.unusedSimpArgs false
namespace Go.Proofs.YtbakhdgiimjnkaaGreatDoor.Abs
noncomputable section
set_option linter.unusedVariables false
open Go.RowKit
variable {P : Program} {φ : Phi} {w W : World}

/-- the arguments' blocks, from a number on -/
def heapArgs : List (List Value × TypeId) → Nat → Tr AObj → Tr AObj
  | [], _, h => h
  | a :: l, n, h => heapArgs l (n + 1) (h.set n (.const a.1 a.2))
theorem heapArgs_get : ∀ (l : List (List Value × TypeId)) (n : Nat) (h : Tr AObj) (b : Nat), (heapArgs l n h).get b = if n ≤ b ∧ b < n + l.length then (l[b - n]?).map fun a => AObj.const a.1 a.2 else h.get b
  | [], n, h, b => by rw [if_neg (by simp)]; rfl
  | a :: l, n, h, b => by
    show (heapArgs l (n + 1) (h.set n (.const a.1 a.2))).get b = _
    rw [heapArgs_get l (n + 1) _ b]
    by_cases hb : b = n
    · subst hb
      rw [if_neg (by omega), if_pos (by simp), Nat.sub_self]
      exact Tr.get_put_same
    · by_cases h1 : n + 1 ≤ b ∧ b < n + 1 + l.length
      · rw [if_pos h1, if_pos (by simp; omega)]
        obtain ⟨k, rfl⟩ : ∃ k, b = n + 1 + k := ⟨b - (n + 1), by omega⟩
        rw [Nat.add_sub_cancel_left, show n + 1 + k - n = k + 1 by omega, List.getElem?_cons_succ]
      · rw [if_neg h1, if_neg (by simp; omega)]
        exact Tr.get_set_ne hb
def stArgs (tabs : List (Nat × List Value × TypeId)) (l : List (List Value × TypeId)) : St := ⟨heapArgs l 4096 (stTabs tabs).heap, 4096 + l.length⟩
def phiArgs (locs : List (Nat × Nat)) : Phi := fun b => if b < 4096 then some ⟨b, 0, 0, 0⟩ else (locs[b - 4096]?).map fun p => ⟨p.1, p.2, 0, 0⟩
theorem phiArgs_at {locs : List (Nat × Nat)} {i : Nat} {p : Nat × Nat} (h : locs[i]? = some p) : phiArgs locs (4096 + i) = some ⟨p.1, p.2, 0, 0⟩ := by
  unfold phiArgs
  rw [if_neg (by omega), Nat.add_sub_cancel_left, h]
  rfl
theorem stArgs_arg {tabs : List (Nat × List Value × TypeId)} {l : List (List Value × TypeId)} {i : Nat} {a : List Value × TypeId} (h : l[i]? = some a) : (stArgs tabs l).heap.get (4096 + i) = some (.const a.1 a.2) := by
  have hi := (List.getElem?_eq_some_iff.1 h).1
  show (heapArgs l 4096 _).get _ = _
  rw [heapArgs_get, if_pos (by omega), Nat.add_sub_cancel_left, h]
  rfl
theorem stArgs_old {tabs : List (Nat × List Value × TypeId)} {l : List (List Value × TypeId)} {b : Nat} (h : b < 4096) : (stArgs tabs l).heap.get b = (stTabs tabs).heap.get b := by
  show (heapArgs l 4096 _).get _ = _
  rw [heapArgs_get, if_neg (by omega)]
theorem stArgs_get {tabs : List (Nat × List Value × TypeId)} {l : List (List Value × TypeId)} (ht : ∀ t ∈ tabs, t.1 < 4096) {b : Nat} {x : AObj} (h : (stArgs tabs l).heap.get b = some x) :
    (b < 4096 ∧ (stTabs tabs).heap.get b = some x) ∨ ∃ i a, b = 4096 + i ∧ l[i]? = some a ∧ x = .const a.1 a.2 := by
  have h' : (heapArgs l 4096 (stTabs tabs).heap).get b = some x := h
  rw [heapArgs_get] at h'
  split at h'
  · rename_i hb
    obtain ⟨a, h1, h2⟩ := Option.map_eq_some_iff.1 h'
    exact .inr ⟨b - 4096, a, by omega, h1, h2.symm⟩
  · obtain ⟨vs, e, h1, _⟩ := stTabs_get h'
    exact .inl ⟨ht _ h1, h'⟩
theorem stArgs_const {tabs : List (Nat × List Value × TypeId)} {l : List (List Value × TypeId)} (ht : ∀ t ∈ tabs, t.1 < 4096) {b : Nat} {x : AObj} (h : (stArgs tabs l).heap.get b = some x) : x.isConst = true := by
  rcases stArgs_get ht h with ⟨_, h1⟩ | ⟨i, a, _, _, rfl⟩
  · obtain ⟨vs, e, _, rfl⟩ := stTabs_get h1
    rfl
  · rfl
theorem stArgs_wf {tabs : List (Nat × List Value × TypeId)} {l : List (List Value × TypeId)} (ht : ∀ t ∈ tabs, t.1 < 4096) : (stArgs tabs l).wf := by
  intro b x h
  rcases stArgs_get ht h with ⟨h0, _⟩ | ⟨i, a, rfl, h1, _⟩
  · show b < 4096 + l.length
    omega
  · have := (List.getElem?_eq_some_iff.1 h1).1
    show 4096 + i < 4096 + l.length
    omega
theorem phiNil_le (locs : List (Nat × Nat)) : phiNil.le (phiArgs locs) := fun b L h => by
  unfold phiNil at h
  split at h
  · rename_i hb
    unfold phiArgs
    rw [if_pos hb]
    exact h
  · cases h
/-- THE FIRST STATE STANDS TO THE WORLD. -/
theorem srel_args {tabs : List (Nat × List Value × TypeId)} {l : List (List Value × TypeId)} {locs : List (Nat × Nat)} (ht : ∀ t ∈ tabs, t.1 < 4096) (hT : SRel phiNil (stTabs tabs) W) (hlen : locs.length = l.length)
    (h : ∀ (i : Nat) (a : List Value × TypeId) (p : Nat × Nat), l[i]? = some a → locs[i]? = some p → ∃ c t fr, W.heap[p.1]? = some (.cells c t fr) ∧ ∀ (j : Nat) (v : Value), a.1[j]? = some v → ∃ v', c[p.2 + j]? = some v' ∧ VRel (phiArgs locs) v v') :
    SRel (phiArgs locs) (stArgs tabs l) W := by
  refine ⟨⟨fun b c x y L M hb hc _ _ _ hx => ?_, fun b x hb => ?_⟩, fun b hb => ?_, fun g hg => ?_⟩
  · rw [stArgs_const ht hb, stArgs_const ht hc] at hx
    simp at hx
  · rcases stArgs_get ht hb with ⟨h0, h1⟩ | ⟨i, a, rfl, h1, rfl⟩
    · obtain ⟨L, h2, o, h3, h4⟩ := hT.mem.obj b x h1
      exact ⟨L, phiNil_le locs _ _ h2, o, h3, h4.mono (phiNil_le locs)⟩
    · have hi := (List.getElem?_eq_some_iff.1 h1).1
      have hp : locs[i]? = some (locs[i]'(by omega)) := List.getElem?_eq_getElem _
      obtain ⟨c, t, fr, h2, h3⟩ := h i a _ h1 hp
      exact ⟨_, phiArgs_at hp, _, h2, .const h3⟩
  · have hb' : 4096 + l.length ≤ b := hb
    unfold phiArgs
    rw [if_neg (by omega), List.getElem?_eq_none (by omega)]
    rfl
  · unfold phiArgs
    rw [if_pos hg]

/-- THE LAW, by the evaluator's walk. -/
theorem law_of_ev {Sm : Summ} (hmix : P.follows .mixedOrders = true) (hSm : SmOk P Sm) (hNum : NumOk P) {f : FuncId} {fn : Func} {c : Code} (hf : P.funcs[f]? = some fn) (hb : fn.body = some c) (hs : Sm f = none) {as : Array Value} {args : List Value} {st : St}
    (hS : SRel φ st W) (hc : ∀ b x, st.heap.get b = some x → x.isConst = true) (hl : LRel φ args as.toList) (h : Ev P Sm (.inv (.fn (.func f) #[]) args st) fun r => ∃ s', r = .val (.bool true) s') :
    Calls P f as W fun e w' => e = .returned (.bool true) ∧ Mod (fun _ => False) W w' := by
  obtain ⟨N, r, h1, s', rfl⟩ := h
  obtain ⟨v, s2, h2, h3⟩ := calls_ok hmix hSm hNum hf hb hs (h1 N (Nat.le_refl _)) hS hl
  cases h2
  refine h3.mono fun e w' hx => ?_
  obtain ⟨ψ, v', rfl, h4, h5⟩ := hx
  cases h4
  exact ⟨rfl, h5.fr.os, h5.fr.tape, h5.fr.output, h5.fr.size, fun k hk _ => (h5.fr.rest k hk fun b x L hb hx => by rw [hc b x hb] at hx; cases hx).1⟩

theorem constOk_same {v v' : Value} (h : constOk v = true) (k : VRel φ v v') : v' = v := by
  cases k <;> first | rfl | (cases h; done)
theorem constIs_eq {o : Option AObj} {l : List Value} (h : constIs o l = true) : ∃ e, o = some (.const l e) := by
  unfold constIs at h
  split at h
  · obtain ⟨rfl, _⟩ := sameAll_eq h
    exact ⟨_, rfl⟩
  · cases h
theorem sumTrue_says {f : FuncId} {tabs : List (Nat × List Value × TypeId)} (htab : ∀ t ∈ tabs, t.1 < 4096 ∧ (∀ v ∈ t.2.1, constOk v = true) ∧ ∃ v, t.2.1[0]? = some v)
    (hcall : ∀ W, SRel phiNil (stTabs tabs) W → Calls P f #[] W fun e w' => e = .returned (.bool true) ∧ W.heap.size ≤ w'.heap.size ∧ w'.os = W.os ∧ w'.tape = W.tape ∧ w'.output = W.output ∧ ∀ k, k < W.heap.size → w'.heap[k]? = W.heap[k]?)
    (hent : ∀ as w, (callFunc f as).run P w = .ok (.enter f as) w) (args : List Value) (s : St) (v : Value) (s1 : St) (h : sumTrue tabs args s = .ok (v, s1)) (fr : Frame) (cs : List Frame) (φ : Phi) (w : World) (args' : Array Value) (hS : SRel φ s w) (hl : LRel φ args args'.toList) :
    ∃ ψ n w1 v' w', (callFunc f args').run P w = .ok n w1 ∧ Ran P .normal fr cs n w1 v' w' ∧ Post φ s w ψ s1 w' ∧ VRel ψ v v' := by
  unfold sumTrue at h
  split at h <;> first | (cases h; done) | skip
  obtain ⟨ht, h⟩ := ifb_no h
  cases h
  have ht := List.all_eq_true.1 ht
  obtain rfl : args' = #[] := by
    have := hl.1
    exact Array.eq_empty_of_size_eq_zero (by simpa using this.symm)
  have hT : SRel phiNil (stTabs tabs) w := srel_tabs (fun t h1 => ⟨(htab t h1).1, fun i v hv => by
      obtain ⟨q1, q2, _⟩ := htab t h1
      have q3 := q2 v (List.mem_of_getElem? hv)
      refine ⟨q3, ?_⟩
      obtain ⟨e, he⟩ := constIs_eq (ht t h1)
      obtain ⟨L, g1, o, g2, g3⟩ := hS.mem.obj _ _ he
      rw [hS.globals _ q1] at g1
      cases g1
      cases g3 with
      | const hcell =>
        obtain ⟨v', k1, k2⟩ := hcell i v hv
        rw [constOk_same q3 k2] at k1
        rw [cell_of g2]
        simpa using k1⟩) fun t h1 => (htab t h1).2.2
  obtain ⟨v', w', ⟨e1, e2, e3, e4, e5, e6⟩, hran⟩ := ran_of_calls (hcall w hT) (fun ee w' hx => ⟨_, hx.1⟩) fr cs
  cases e1
  exact ⟨φ, _, _, _, w', hent #[] w, hran, Post.below hS ⟨e3, e4, e5, e2, e6⟩, .bool true⟩
/-- contracts serve in the place of walks -/
theorem smOk_calls {Sm : Summ} {f : FuncId} {g : List Value → St → Rs (Value × St)} (hSm : SmOk P Sm) (h : ∀ args s v s1, g args s = .ok (v, s1) → ∀ (fr : Frame) (cs : List Frame) (φ : Phi) (w : World) (args' : Array Value), SRel φ s w → LRel φ args args'.toList →
    ∃ ψ n w1 v' w', (callFunc f args').run P w = .ok n w1 ∧ Ran P .normal fr cs n w1 v' w' ∧ Post φ s w ψ s1 w' ∧ VRel ψ v v') : SmOk P (Sm.add f g) := by
  intro k g' hk args s v s1 hg fr cs φ w args' hS hl
  unfold Summ.add at hk
  rw [ifb_eq] at hk
  split at hk
  · rename_i e
    have e := Nat.eq_of_beq_eq_true e
    subst e
    cases hk
    exact h args s v s1 hg fr cs φ w args' hS hl
  · exact hSm k g' hk args s v s1 hg fr cs φ w args' hS hl
end
end Go.Proofs.YtbakhdgiimjnkaaGreatDoor.Abs
