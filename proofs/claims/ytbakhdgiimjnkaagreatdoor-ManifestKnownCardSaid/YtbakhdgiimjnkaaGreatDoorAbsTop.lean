/-
  A CALL, by the evaluator's answer.
-/
import Derived.Test.YtbakhdgiimjnkaaGreatDoorAbsReg8
namespace Go.Proofs.YtbakhdgiimjnkaaGreatDoor.Abs
section
set_option linter.unusedVariables false
variable {P : Program} {φ : Phi} {w : World}

def Sm0 : Summ := fun _ => none
theorem smOk_none : SmOk P Sm0 := fun f g h => by cases h

theorem calls_ok {Sm : Summ} (hmix : P.follows .mixedOrders = true) (hSm : SmOk P Sm) (hNum : NumOk P) {n : Nat} {f : FuncId} {fn : Func} {c : Code} {args : List Value} {as : Array Value} {st : St} {r : Ans} (hf : P.funcs[f]? = some fn) (hb : fn.body = some c) (hs : Sm f = none)
    (h : run P Sm n (.inv (.fn (.func f) #[]) args st) = .ok r) (hS : SRel φ st w) (hl : LRel φ args as.toList) :
    ∃ v s', r = .val v s' ∧ Calls P f as w fun e w' => ∃ ψ v', e = .returned v' ∧ VRel ψ v v' ∧ Post φ st w ψ s' w' := by
  cases n with
  | zero => cases h
  | succ n =>
    have h' : onInv P Sm (run P Sm n) (.fn (.func f) #[]) args st = .ok r := h
    unfold onInv at h'
    simp only [hs] at h'
    rw [hf] at h'
    have h2 : onFunc P (run P Sm n) f fn (args ++ (#[] : Array Value).toList) st = .ok r := h'
    unfold onFunc at h2
    simp only [hb] at h2
    have hall := run_ok hmix hSm hNum n
    have hl' : LRel φ (args ++ (#[] : Array Value).toList) as.toList := by simpa using hl
    obtain ⟨v, s', _, _, _, h3, _⟩ := body_leave hall.code hall.dfr hf hb h2 hS hl' .normal []
    refine ⟨v, s', h3, fun cs => ?_⟩
    obtain ⟨v2, s2, ψ, v', w', h3', h4, h5, fr, q1, q2, q3, q4, q5, q6⟩ := body_leave hall.code hall.dfr hf hb h2 hS hl' .normal cs
    rw [h3] at h3'
    cases h3'
    exact ⟨.returned v', w', fr, ⟨ψ, v', rfl, h5, h4⟩, q1, q2, q4, q5, q3, fn, by rw [q2]; exact hf, q6⟩

/-- the first state: no block is known -/
def stNil : St := ⟨.nil, 4096⟩
def phiNil : Phi := fun g => if g < 4096 then some ⟨g, 0, 0, 0⟩ else none
theorem srel_nil (w : World) : SRel phiNil stNil w :=
  ⟨⟨fun b c x y L M h => (by cases h), fun b x h => by cases h⟩, fun b hb => by
    have : ¬ b < 4096 := Nat.not_lt.2 hb
    simp [phiNil, this], fun g hg => by simp [phiNil, hg]⟩
/-- a closed run that says true -/
def saysTrue (r : Rs Ans) : Bool :=
  match r with
  | .ok (.val (.bool true) _) => true
  | _ => false

/-- A CLOSED CALL THAT SAYS TRUE: it returns true; nothing that was there has turned. -/
theorem true_of_run {Sm : Summ} (hmix : P.follows .mixedOrders = true) (hSm : SmOk P Sm) (hNum : NumOk P) {n : Nat} {f : FuncId} {fn : Func} {c : Code} (hf : P.funcs[f]? = some fn) (hb : fn.body = some c) (hs : Sm f = none)
    (h : saysTrue (run P Sm n (.inv (.fn (.func f) #[]) [] stNil)) = true) (W : World) :
    Calls P f #[] W fun e w' => e = .returned (.bool true) ∧ W.heap.size ≤ w'.heap.size ∧ w'.os = W.os ∧ w'.tape = W.tape ∧ w'.output = W.output ∧ ∀ k, k < W.heap.size → w'.heap[k]? = W.heap[k]? := by
  unfold saysTrue at h
  split at h <;> first | (cases h; done) | skip
  rename_i s hr
  obtain ⟨v, s', h1, h2⟩ := calls_ok hmix hSm hNum hf hb hs hr (srel_nil W) (as := #[]) (.nil phiNil)
  cases h1
  refine h2.mono fun e w' hx => ?_
  obtain ⟨ψ, v', h3, h4, h5⟩ := hx
  cases h4
  exact ⟨h3, h5.fr.size, h5.fr.os, h5.fr.tape, h5.fr.output, fun k hk => (h5.fr.rest k hk fun b x L hb => by cases hb).1⟩
/-- A FIRST STATE THAT HOLDS TABLES: package-level variables whose cells are known -/
noncomputable def stTabs (l : List (Nat × List Value × TypeId)) : St := ⟨l.foldr (fun t h => h.set t.1 (.const t.2.1 t.2.2)) .nil, 4096⟩
theorem stTabs_get {l : List (Nat × List Value × TypeId)} {b : Nat} {x : AObj} (h : (stTabs l).heap.get b = some x) : ∃ vs e, (b, vs, e) ∈ l ∧ x = .const vs e := by
  have key : ∀ (l : List (Nat × List Value × TypeId)), (l.foldr (fun t h => Tr.set h t.1 (.const t.2.1 t.2.2)) .nil).get b = some x → ∃ vs e, (b, vs, e) ∈ l ∧ x = .const vs e := by
    intro l
    induction l with
    | nil => intro h; cases h
    | cons t l ih =>
      intro h
      rcases Tr.get_set h with ⟨rfl, rfl⟩ | ⟨_, h⟩
      · exact ⟨t.2.1, t.2.2, List.mem_cons_self, rfl⟩
      · obtain ⟨vs, e, h1, h2⟩ := ih h
        exact ⟨vs, e, List.mem_cons_of_mem _ h1, h2⟩
  exact key l h
theorem srel_tabs {l : List (Nat × List Value × TypeId)} {W : World} (h : ∀ t ∈ l, t.1 < 4096 ∧ ∀ i v, t.2.1[i]? = some v → constOk v = true ∧ W.cell? ⟨t.1, i, none⟩ = some v) (h0 : ∀ t ∈ l, ∃ v, t.2.1[0]? = some v) : SRel phiNil (stTabs l) W := by
  have named : ∀ b, b < 4096 → phiNil b = some ⟨b, 0, 0, 0⟩ := fun b hb => by simp [phiNil, hb]
  refine ⟨⟨fun b c x y L M hb hc hL hM hLM => ?_, fun b x hb => ?_⟩, (srel_nil W).fresh, (srel_nil W).globals⟩
  · obtain ⟨vs, e, h1, _⟩ := stTabs_get hb
    obtain ⟨vs', e', h2, _⟩ := stTabs_get hc
    rw [named b (h _ h1).1] at hL
    rw [named c (h _ h2).1] at hM
    cases hL
    cases hM
    exact hLM
  · obtain ⟨vs, e, h1, rfl⟩ := stTabs_get hb
    obtain ⟨v0, hv0⟩ := h0 _ h1
    have hc0 := ((h _ h1).2 0 v0 hv0).2
    unfold World.cell? at hc0
    split at hc0 <;> first | (cases hc0; done) | skip
    rename_i c t fr hw
    refine ⟨⟨b, 0, 0, 0⟩, named b (h _ h1).1, _, hw, .const rfl fun i v hv => ?_⟩
    obtain ⟨q1, q2⟩ := (h _ h1).2 i v hv
    rw [cell_of hw] at q2
    exact ⟨v, by simpa using q2, (constOk_flat q1).rel _⟩
/-- A CLOSED CALL THAT SAYS TRUE, over tables that are known. -/
theorem true_of_tabs {Sm : Summ} (hmix : P.follows .mixedOrders = true) (hSm : SmOk P Sm) (hNum : NumOk P) {n : Nat} {f : FuncId} {fn : Func} {c : Code} (hf : P.funcs[f]? = some fn) (hb : fn.body = some c) (hs : Sm f = none) {l : List (Nat × List Value × TypeId)}
    (h : saysTrue (run P Sm n (.inv (.fn (.func f) #[]) [] (stTabs l))) = true) (W : World) (hW : SRel phiNil (stTabs l) W) :
    Calls P f #[] W fun e w' => e = .returned (.bool true) ∧ W.heap.size ≤ w'.heap.size ∧ w'.os = W.os ∧ w'.tape = W.tape ∧ w'.output = W.output ∧ ∀ k, k < W.heap.size → w'.heap[k]? = W.heap[k]? := by
  unfold saysTrue at h
  split at h <;> first | (cases h; done) | skip
  rename_i s hr
  obtain ⟨v, s', h1, h2⟩ := calls_ok hmix hSm hNum hf hb hs hr hW (as := #[]) (.nil phiNil)
  cases h1
  refine h2.mono fun e w' hx => ?_
  obtain ⟨ψ, v', h3, h4, h5⟩ := hx
  cases h4
  exact ⟨h3, h5.fr.size, h5.fr.os, h5.fr.tape, h5.fr.output, fun k hk => (h5.fr.rest k hk fun b x L hb hx => by
    obtain ⟨vs, e, _, rfl⟩ := stTabs_get hb
    cases hx).1⟩
end
end Go.Proofs.YtbakhdgiimjnkaaGreatDoor.Abs
