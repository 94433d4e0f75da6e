/-
  Steps of control.
-/
import Derived.Test.YtbakhdgiimjnkaaGreatDoorAbsCtl2
namespace Go.Proofs.YtbakhdgiimjnkaaGreatDoor.Abs
section
set_option linter.unusedVariables false
variable {P : Program} {φ : Phi} {w : World} {b : Fm} {ts : Array Value} {ds : List Deferred} {k : List Item} {cs : List Frame}

theorem mv_skip : Go.step P (lone (b.at ts ds (.code .skip :: k)) cs w) = .next (lone (b.at ts ds k) cs w) := step_lone_go (by simp [stepG, stepG.exec, Fm.at])
theorem mv_label {l : Nat} : Go.step P (lone (b.at ts ds (.code (.label l) :: k)) cs w) = .next (lone (b.at ts ds k) cs w) := step_lone_go (by simp [stepG, stepG.exec, Fm.at])
theorem mv_inBlock {id : Nat} : Go.step P (lone (b.at ts ds (.inBlock id :: k)) cs w) = .next (lone (b.at ts ds k) cs w) := step_lone_go (by simp [stepG, stepG.exec, Fm.at])
theorem mv_inScope {c : Code} : Go.step P (lone (b.at ts ds (.inScope c :: k)) cs w) = .next (lone (b.at ts ds k) cs w) := step_lone_go (by simp [stepG, stepG.exec, Fm.at])
theorem mv_seq {x y : Code} : Go.step P (lone (b.at ts ds (.code (.seq x y) :: k)) cs w) = .next (lone (b.at ts ds (.code x :: .code y :: k)) cs w) := step_lone_go (by simp [stepG, stepG.exec, Fm.at])
theorem mv_cond {c : Operand} {x y : Code} {t : Bool} (h : tev ts c = .bool t) : Go.step P (lone (b.at ts ds (.code (.cond c x y) :: k)) cs w) = .next (lone (b.at ts ds (.code (if t then x else y) :: k)) cs w) :=
  step_lone_go (by
    have := congrFun (Fm.eval_at b ts ds (.code (.cond c x y) :: k)) c
    simp only [Fm.at] at this
    simp [stepG, stepG.exec, Fm.at, this, h])
theorem mv_block {id : Nat} {c : Code} : Go.step P (lone (b.at ts ds (.code (.block id c) :: k)) cs w) = .next (lone (b.at ts ds (.code c :: .inBlock id :: k)) cs w) := step_lone_go (by simp [stepG, stepG.exec, Fm.at])
theorem mv_loop {c : Code} : Go.step P (lone (b.at ts ds (.code (.loop c) :: k)) cs w) = .next (lone (b.at ts ds (.code c :: .inLoop c :: k)) cs w) := step_lone_go (by simp [stepG, stepG.exec, Fm.at])
theorem mv_inLoop {c : Code} : Go.step P (lone (b.at ts ds (.inLoop c :: k)) cs w) = .next (lone (b.at ts ds (.code c :: .inLoop c :: k)) cs w) := step_lone_go (by simp [stepG, stepG.exec, Fm.at])
theorem mv_scope {c : Code} : Go.step P (lone (b.at ts ds (.code (.scope c) :: k)) cs w) = .next (lone (b.at ts ds (.code c :: .inScope c :: k)) cs w) := step_lone_go (by simp [stepG, stepG.exec, Fm.at])
theorem mv_exit {id : Nat} {k' : List Item} (h : exitTo id k = some k') : Go.step P (lone (b.at ts ds (.code (.exit id) :: k)) cs w) = .next (lone (b.at ts ds k') cs w) := step_lone_go (by simp [stepG, stepG.exec, Fm.at, h])
theorem mv_region {id : Nat} {ops : Array Oper} : Go.step P (lone (b.at ts ds (.code (.region id ops false) :: k)) cs w) = .next (lone (b.at ts ds (.inRegion ops (List.range ops.size) :: k)) cs w) := step_lone_go (by simp [stepG, stepG.exec, Fm.at])
theorem mv_draw {id : Nat} {ops : Array Oper} (hm : P.follows .mixedOrders = true) : Go.step P (lone (b.at ts ds (.code (.region id ops true) :: k)) cs w) =
    .next (lone (b.at ts ds (.inRegion ops (Region.linearise .any ops (w.tape w.drawn (.order b.fn id))) :: k)) cs { w with drawn := w.drawn + 1 }) :=
  step_lone_go (by simp [stepG, stepG.exec, Fm.at, choose, Sem.run, Question.forced, Question.cut, Region.schedule, hm])

/-- the ways out of a code -/
def Arr (P : Program) (b : Fm) (it : Item) (ts : Array Value) (ds : List Deferred) (w : World) (e : XE) (ts' : Array Value) (ds' : List Deferred) (w' : World) (k : List Item) (cs : List Frame) : Prop :=
  match e with
    | .normal => Steps P (lone (b.at ts ds (it :: k)) cs w) (lone (b.at ts' ds' k) cs w')
    | .jump c => ∃ k0, Steps P (lone (b.at ts ds (it :: k)) cs w) (lone (b.at ts' ds' (.code c :: k0)) cs w') ∧ ∀ id, c = .exit id → exitTo id k0 = exitTo id k
/-- what an answer to a code says -/
def CodeAns (P : Program) (φ : Phi) (s : St) (w : World) (b : Fm) (it : Item) (ts : Array Value) (ds : List Deferred) (k : List Item) (cs : List Frame) (r : Ans) : Prop :=
  ∃ e a1 s1 ψ w' ts' ds', r = .at e a1 s1 ∧ Post φ s w ψ s1 w' ∧ ARel ψ a1 ts' ds' ∧ Arr P b it ts ds w e ts' ds' w' k cs
/-- what of a frame's list stands for a code -/
def ItemOf (c : Code) (it : Item) : Prop := it = .code c ∨ ∃ x, c = .loop x ∧ it = .inLoop x
def CodeOk (P : Program) (ih : Rq → Rs Ans) : Prop :=
  ∀ fn rd c a s r, ih (.code fn rd c a s) = .ok r → ∀ (φ : Phi) (w : World) (b : Fm) (ts : Array Value) (ds : List Deferred), b.fn = fn → RdRel φ rd b.rd → SRel φ s w → ARel φ a ts ds → ∀ it, ItemOf c it → ∀ k cs, CodeAns P φ s w b it ts ds k cs r
def RunOk (P : Program) (ih : Rq → Rs Ans) : Prop :=
  ∀ fn rd ops l a s r, ih (.run fn rd ops l a s) = .ok r → ∀ (φ : Phi) (w : World) (b : Fm) (ts : Array Value) (ds : List Deferred) (i : Nat) (k : List Item) (cs : List Frame), b.fn = fn → RdRel φ rd b.rd → SRel φ s w → ARel φ a ts ds → l = ops.toList.drop i →
    ∃ a1 s1 ψ w' ts' ds', r = .at .normal a1 s1 ∧ Post φ s w ψ s1 w' ∧ ARel ψ a1 ts' ds' ∧ Steps P (lone (b.at ts ds (.inRegion ops (List.range' i (ops.size - i)) :: k)) cs w) (lone (b.at ts' ds' k) cs w')
def DfrOk (P : Program) (ih : Rq → Rs Ans) : Prop :=
  ∀ l s r, ih (.dfr l s) = .ok r → ∀ (φ : Phi) (w : World) (ds : List Deferred) (fr : Frame) (cs : List Frame), SRel φ s w → DsRel φ l ds → fr.mode = .returning → fr.defers = ds →
    ∃ s1 ψ w', r = .st s1 ∧ Post φ s w ψ s1 w' ∧ Steps P (lone fr cs w) (lone { fr with defers := [] } cs w')

theorem put_rel {β : Type} {a : Ac} {d : Option Tmp} {v v' : Value} {kk : Ac → Rs β} {r : β} (h : a.put d v kk = .ok r) (hA : ARel φ a ts ds) (hv : VRel φ v v') : ∃ a', kk a' = .ok r ∧ ARel φ a' (putT ts d v') ds := by
  cases d with
  | none => exact ⟨a, (Ac.put_ok h).1, hA⟩
  | some t => exact ⟨_, (Ac.put_ok h).1, ⟨hA.tmps.put ((Ac.put_ok h).2 t rfl) hv, hA.dfs⟩⟩
/-- a region whose order is fixed -/
theorem run_step {Sm : Summ} {ih : Rq → Rs Ans} (hI : InvOk P Sm ih) (hR : RunOk P ih) {fn : FuncId} {rd : Option Nat} {ops : Array Oper} {l : List Oper} {a : Ac} {s : St} {r : Ans} (h : onRun P ih fn rd ops l a s = .ok r)
    {φ : Phi} {w : World} {b : Fm} {ts : Array Value} {ds : List Deferred} {i : Nat} {k : List Item} {cs : List Frame} (hb : b.fn = fn) (hrd : RdRel φ rd b.rd) (hS : SRel φ s w) (hA : ARel φ a ts ds) (hl : l = ops.toList.drop i) :
    ∃ a1 s1 ψ w' ts' ds', r = .at .normal a1 s1 ∧ Post φ s w ψ s1 w' ∧ ARel ψ a1 ts' ds' ∧ Steps P (lone (b.at ts ds (.inRegion ops (List.range' i (ops.size - i)) :: k)) cs w) (lone (b.at ts' ds' k) cs w') := by
  have key : ∀ (o : Oper) (l' : List Oper), o :: l' = ops.toList.drop i → ops[i]? = some o ∧ l' = ops.toList.drop (i + 1) ∧ ops.size - i = (ops.size - (i + 1)) + 1 := by
    intro o l' e
    have h1 : ops.toList[i]? = some o := by
      have : (ops.toList.drop i)[0]? = some o := by rw [← e]; rfl
      simpa using this
    have h2 : i < ops.size := by
      have := (List.getElem?_eq_some_iff.1 h1).1
      simpa using this
    refine ⟨by simpa using h1, ?_, by omega⟩
    have : (ops.toList.drop i).tail = l' := by rw [← e]; rfl
    rw [← this, List.tail_drop]
  unfold onRun at h
  split at h
  · cases h
    refine ⟨_, _, φ, w, ts, ds, rfl, .refl hS, hA, ?_⟩
    have : ops.size - i = 0 := by
      have := congrArg List.length hl
      simp at this
      omega
    rw [this]
    exact .one mv_region_end
  · rename_i o l'
    obtain ⟨wb, h1, h2⟩ := Rs.bind_ok h
    obtain ⟨k1, k2, k3⟩ := key o l' hl
    have hw := wanted_rel (ts := ts) h1 (fun j want t v _ _ h3 => hA.tmps.2 t v h3)
    rw [k3, List.range'_succ]
    rcases ifb_ok h2 with ⟨rfl, h3⟩ | ⟨rfl, h3⟩
    · obtain ⟨v, dd, s', ψ, v', dd', w', p1, p2, p3, p4, h4⟩ := doOp_ok hI (b.at ts ds (.inRegion ops (i :: List.range' (i + 1) (ops.size - (i + 1))) :: k)) cs (hrd.isNone) (ev_rel hS hA.tmps) h3 hS
      obtain ⟨h5, h6⟩ := goPut_ok h4
      have hA' := (hA.mono p1.le).put (o := o.dst) (v := v) (v' := v') p2 (p3.append (hA.dfs.mono p1.le)) h6
      obtain ⟨a1, s1, χ, w2, ts2, ds2, e1, q1, q2, q3⟩ := hR _ _ _ _ _ _ _ h5 ψ w' b (putT ts o.dst v') (dd' ++ ds) (i + 1) k cs hb (hrd.mono p1.le) p1.rel hA' k2
      exact ⟨a1, s1, χ, w2, ts2, ds2, e1, p1.trans q1, q2, (mv_does k1 hw p4).trans q3⟩
    · obtain ⟨a', h4, hA'⟩ := put_rel h3 hA und_rel
      obtain ⟨a1, s1, χ, w2, ts2, ds2, e1, q1, q2, q3⟩ := hR _ _ _ _ _ _ _ h4 φ w b (putT ts o.dst undef) ds (i + 1) k cs hb hrd hS hA' k2
      refine ⟨a1, s1, χ, w2, ts2, ds2, e1, q1, q2, .head ?_ q3⟩
      have := mv_op_skip (P := P) (b := b) (ts := ts) (ds := ds) (k := k) (cs := cs) (w := w) (ops := ops) (i := i) (rest := List.range' (i + 1) (ops.size - (i + 1))) (by simp [k1, hw])
      simp only [k1, Option.bind_some] at this
      exact this
end
end Go.Proofs.YtbakhdgiimjnkaaGreatDoor.Abs
