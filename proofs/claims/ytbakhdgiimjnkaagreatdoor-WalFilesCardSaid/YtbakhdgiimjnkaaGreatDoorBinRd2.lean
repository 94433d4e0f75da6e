/-
  bin, reading: what bin.Read and the readers' calls do, at the evaluator.
-/
import Derived.Test.YtbakhdgiimjnkaaGreatDoorBnA
import Derived.Test.YtbakhdgiimjnkaaGreatDoorEvB
import Derived.Test.YtbakhdgiimjnkaaGreatDoorEvSet
set_option linter.unusedVariables false
set_option linter.unusedSimpArgs false
namespace Go.Proofs.YtbakhdgiimjnkaaGreatDoor
open Abs
set_option maxHeartbeats 16000000
set_option maxRecDepth 20000
set_option linter.unusedSimpArgs false
attribute [local irreducible] Abs.Ev Abs.EvF Abs.EvO Abs.EvA Abs.Seq Abs.Blk Abs.Body Abs.Scp Abs.EvG Abs.EvAg Abs.Nx
attribute [local go_sem] Abs.eDelete
attribute [local go_sem] Tryz.underlying3 Ty.sz3 Ty.by3 Ty.ag3 Ty.ze3 Tryz.underlying4 Ty.sz4 Ty.by4 Ty.ag4 Ty.ze4 Tryz.underlying5 Ty.sz5 Ty.by5 Ty.ag5 Ty.ze5 Tryz.underlying9 Ty.sz9 Ty.by9 Ty.ag9 Ty.ze9 Tryz.underlying24 Ty.sz24 Ty.by24 Ty.ag24 Ty.ze24 Tryz.underlying28 Ty.sz28 Ty.by28 Ty.ag28 Ty.ze28 Tryz.underlying83 Ty.sz83 Ty.by83 Ty.ag83 Ty.ze83 Tryz.underlying127 Ty.sz127 Ty.by127 Ty.ag127 Ty.ze127
section
variable {Sm : Summ} {Q : Ans → Prop}
/-- one block has turned, no other -/
structure Only (b : Nat) (s s' : St) : Prop where
  wf : s'.wf
  next : s'.next = s.next
  old : ∀ c x, c ≠ b → s.heap.get c = some x → s'.heap.get c = some x
  dom : ∀ c x, s'.heap.get c = some x → ∃ y, s.heap.get c = some y
theorem Only.refl {b : Nat} {s : St} (h : s.wf) : Only b s s := ⟨h, rfl, fun _ _ _ h => h, fun _ x h => ⟨x, h⟩⟩
theorem Only.trans {b : Nat} {s s' s'' : St} (h : Only b s s') (k : Only b s' s'') : Only b s s'' := ⟨k.wf, k.next.trans h.next, fun c x h1 h2 => k.old c x h1 (h.old c x h1 h2), fun c x h1 => by obtain ⟨y, h2⟩ := k.dom c x h1; exact h.dom c y h2⟩
theorem Only.set {b : Nat} {s s' : St} (h : Only b s s') {y : AObj} (hb : s.heap.get b = some y) (hwf : s.wf) (x : AObj) : Only b s ⟨s'.heap.set b x, s'.next⟩ :=
  ⟨fun c y' e => by
    rcases Tr.get_set e with ⟨rfl, _⟩ | ⟨_, e⟩
    · show c < s'.next
      rw [h.next]
      exact hwf _ _ hb
    · exact h.wf c y' e, h.next, fun c z h1 h2 => (get_other _ _ _ _ h1).trans (h.old c z h1 h2), fun c z e => by
    rcases Tr.get_set e with ⟨rfl, _⟩ | ⟨_, e⟩
    · exact ⟨y, hb⟩
    · exact h.dom c z e⟩
theorem Keep.only {b : Nat} {s0 s s' : St} (h : Keep s0 s) (k : Only b s s') (hb : s0.next ≤ b) (hw : s0.wf) : Keep s0 s' :=
  ⟨k.wf, by rw [k.next]; exact h.next, fun c x hc => k.old c x (by have := hw c x hc; omega) (h.old c x hc)⟩
theorem RdB.only {b : Nat} {s s' : St} {v : Value} {l : List UInt8} {x : Value} {w : List Value} {e : TypeId} (hb : s.heap.get b = some (.cells (x :: w) e 0 false (0, 0))) (k : ∀ c x, c ≠ b → s.heap.get c = some x → s'.heap.get c = some x) (h : RdB s v l) : RdB s' v l := by
  cases h with
  | nil => exact .nil
  | zero hz => exact .zero (k _ _ (by intro e; rw [e, hb] at hz; simp at hz) hz)
  | part hw ho => exact .part (k _ _ (by intro e; rw [e, hb] at hw; simp at hw) hw) ho
theorem RdAt.only {b c : Nat} {s s' : St} {r : Rd} (h : RdAt s b r) (hbc : b ≠ c) {x : Value} {w : List Value} {e : TypeId} (hc : s.heap.get c = some (.cells (x :: w) e 0 false (0, 0))) (k : ∀ d x, d ≠ c → s.heap.get d = some x → s'.heap.get d = some x) : RdAt s' b r := by
  obtain ⟨⟨v, h1, h2⟩, h3⟩ := h
  exact ⟨⟨v, k _ _ hbc h1, h2.only hc k⟩, h3⟩
/-- a part of what is left -/
theorem RdB.later {s : St} {b o n : Nat} {w : List UInt8} (hb : s.heap.get b = some (.cells (byteCells w) 5 1 true (0, 0))) (hn : n ≤ (w.drop o).length) (ho : o ≤ w.length) : RdB s (.slice (some ⟨b, o + n, none⟩) ((w.drop o).length - n) open_) ((w.drop o).drop n) := by
  have e : (w.drop o).drop n = w.drop (o + n) := by rw [List.drop_drop]
  have e2 : (w.drop o).length - n = (w.drop (o + n)).length := by simp; omega
  rw [e, e2]
  refine .part hb ?_
  rw [List.length_drop] at hn
  omega
attribute [local go_sem] numV Nat.div_one Nat.sub_zero
attribute [local go_sem] List.length_nil
theorem rdEnd_ev (hs : Sm 53 = none) {s : St} {b : Nat} {r : Rd} (hr : RdAt s b r) (h : Q (.val (.int .i64 (if r.bad = true ∨ r.b ≠ [] then 14 else 0)) s)) :
    Ev Tryz.prog Sm (.inv (.fn (.func 53) #[]) [.pointer (some ⟨b, 0, none⟩)] s) Q := by
  refine Ev.func hs Tryz.func53 rfl (m := 15) rfl ?_
  simp only [Array.toList_empty, List.append_nil, ofList_cons, ofList_nil]
  obtain ⟨⟨v, hB, hv⟩, hsm⟩ := hr
  obtain ⟨l, bad⟩ := r
  simp only at hB hv hsm h
  obtain ⟨va, vn, vc, rfl⟩ : ∃ a n c, v = .slice a n c := by cases hv <;> exact ⟨_, _, _, rfl⟩
  have hvn : vn = l.length := by cases hv <;> rfl
  subst hvn
  cases bad with
  | true =>
    (try first | refine EvO.nx ?_ | refine EvA.nx ?_); repeat' (first | refine Abs.goH hB ?_ | with_reducible refine Abs.fork (fun hb => ?_) (fun hb => ?_))
    simpa using h
  | false =>
    cases l with
    | nil =>
      (try first | refine EvO.nx ?_ | refine EvA.nx ?_); repeat' (first | refine Abs.goH hB ?_ | with_reducible refine Abs.fork (fun hb => ?_) (fun hb => ?_))
      simpa using h
    | cons x l =>
      have d1 : decide ((0 : Int) < (((x :: l).length : Nat) : Int)) = true := decide_eq_true (by rw [List.length_cons]; omega)
      (try first | refine EvO.nx ?_ | refine EvA.nx ?_); repeat' (first | refine Abs.goH (Abs.cc hB (d1)) ?_ | with_reducible refine Abs.fork (fun hb => ?_) (fun hb => ?_))
      simpa using h
end
end Go.Proofs.YtbakhdgiimjnkaaGreatDoor
