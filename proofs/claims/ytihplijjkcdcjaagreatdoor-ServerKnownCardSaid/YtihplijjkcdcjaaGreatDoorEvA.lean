/-
  The evaluator and what is proved of it (several texts in one).
-/
import Derived.Test.YtihplijjkcdcjaaGreatDoorAbsE
import Derived.Test.YtihplijjkcdcjaaGreatDoorDfA
set_option linter.unusedVariables false
set_option linter.unusedSimpArgs false
/-
  THE EVALUATOR'S OWN WALK: big steps over values that are not known. (Rules; no program in sight.)
-/
namespace Go.Proofs.YtihplijjkcdcjaaGreatDoor.Abs
section
set_option linter.unusedVariables false
variable {P : Program} {Sm : Summ} {fn : FuncId} {rd : Option Nat} {Q : Ans → Prop}

/-- what is asked ends, whatever the fuel beyond some number, and its answer is so -/
def EvF (P : Program) (Sm : Summ) (F : (Rq → Rs Ans) → Rs Ans) (Q : Ans → Prop) : Prop := ∃ N r, (∀ n, N ≤ n → F (run P Sm n) = .ok r) ∧ Q r
def Ev (P : Program) (Sm : Summ) (q : Rq) (Q : Ans → Prop) : Prop := EvF P Sm (fun ih => ih q) Q

theorem EvF.mono {F : (Rq → Rs Ans) → Rs Ans} {R : Ans → Prop} (h : EvF P Sm F R) (k : ∀ r, R r → Q r) : EvF P Sm F Q := by
  obtain ⟨N, r, h1, h2⟩ := h
  exact ⟨N, r, h1, k r h2⟩
theorem Ev.mono {q : Rq} {R : Ans → Prop} (h : Ev P Sm q R) (k : ∀ r, R r → Q r) : Ev P Sm q Q := EvF.mono h k
theorem EvF.ret {r : Ans} (h : Q r) : EvF P Sm (fun _ => .ok r) Q := ⟨0, r, fun _ _ => rfl, h⟩
theorem EvF_ret (r : Ans) : EvF P Sm (fun _ => .ok r) Q ↔ Q r := ⟨fun ⟨N, r', h1, h2⟩ => by cases h1 N (Nat.le_refl _); exact h2, EvF.ret⟩
/-- one step -/
theorem Ev.of {q : Rq} (h : EvF P Sm (fun ih => step P Sm ih q) Q) : Ev P Sm q Q := by
  obtain ⟨N, r, h1, h2⟩ := h
  refine ⟨N + 1, r, fun n hn => ?_, h2⟩
  obtain ⟨m, rfl⟩ : ∃ m, n = m + 1 := ⟨n - 1, by omega⟩
  exact h1 m (by omega)
theorem Ev.iff (q : Rq) : Ev P Sm q Q ↔ EvF P Sm (fun ih => step P Sm ih q) Q := by
  refine ⟨fun h => ?_, Ev.of⟩
  obtain ⟨N, r, h1, h2⟩ := h
  exact ⟨N, r, fun n hn => h1 (n + 1) (by omega), h2⟩
/-- a request, and on with its answer -/
theorem EvF.then {R : Ans → Prop} {q : Rq} {f : (Rq → Rs Ans) → Rs Ans → Rs Ans} (h : Ev P Sm q R) (k : ∀ r, R r → EvF P Sm (fun ih => f ih (.ok r)) Q) : EvF P Sm (fun ih => f ih (ih q)) Q := by
  obtain ⟨N, r, h1, h2⟩ := h
  obtain ⟨M, r', h3, h4⟩ := k r h2
  exact ⟨max N M, r', fun n hn => by
    have e := h1 n (by omega)
    have e' := h3 n (by omega)
    show f (run P Sm n) (run P Sm n q) = .ok r'
    have e2 : run P Sm n q = .ok r := e
    rw [e2]
    exact e', h4⟩

/-! ### control -/
def Seq (P : Program) (Sm : Summ) (fn : FuncId) (rd : Option Nat) (y : Code) (Q : Ans → Prop) (r : Ans) : Prop :=
  match r with
  | .at .normal a s => Ev P Sm (.code fn rd y a s) Q
  | r => Q r
theorem Ev.seq {x y : Code} {a : Ac} {s : St} (h : Ev P Sm (.code fn rd x a s) (Seq P Sm fn rd y Q)) : Ev P Sm (.code fn rd (.seq x y) a s) Q := by
  refine Ev.of (EvF.then (f := fun ih r => onSeq ih fn rd y r) h fun r hr => ?_)
  cases r with
  | «at» e a s => cases e with
    | normal => exact hr
    | jump c => exact EvF.ret hr
  | val => exact EvF.ret hr
  | st => exact EvF.ret hr
  | done => exact EvF.ret hr
theorem Ev.skip {a : Ac} {s : St} (h : Q (.at .normal a s)) : Ev P Sm (.code fn rd .skip a s) Q := Ev.of (EvF.ret h)
theorem Ev.label {l : Nat} {a : Ac} {s : St} (h : Q (.at .normal a s)) : Ev P Sm (.code fn rd (.label l) a s) Q := Ev.of (EvF.ret h)
theorem Ev.exit {i : Nat} {a : Ac} {s : St} (h : Q (.at (.jump (.exit i)) a s)) : Ev P Sm (.code fn rd (.exit i) a s) Q := Ev.of (EvF.ret h)
theorem Ev.ret {a : Ac} {s : St} (h : Q (.at (.jump .ret) a s)) : Ev P Sm (.code fn rd .ret a s) Q := Ev.of (EvF.ret h)
theorem Ev.cond {c : Operand} {x y : Code} {a : Ac} {s : St} {b : Bool} (hc : a.ev c = .ok (.bool b)) (h : b = true → Ev P Sm (.code fn rd x a s) Q) (k : b = false → Ev P Sm (.code fn rd y a s) Q) : Ev P Sm (.code fn rd (.cond c x y) a s) Q := by
  refine Ev.of ?_
  show EvF P Sm (fun ih => (a.ev c).bind (onCond ih fn rd x y a s)) Q
  rw [hc]
  cases b with
  | true => exact h rfl
  | false => exact k rfl
def Blk (id : Nat) (Q : Ans → Prop) (r : Ans) : Prop :=
  match r with
  | .at (.jump (.exit j)) a s => if Nat.beq j id then Q (.at .normal a s) else Q (.at (.jump (.exit j)) a s)
  | r => Q r
theorem Blk_exit (id j : Nat) (a : Ac) (s : St) : Blk id Q (.at (.jump (.exit j)) a s) ↔ if Nat.beq j id = true then Q (.at .normal a s) else Q (.at (.jump (.exit j)) a s) := Iff.rfl
theorem Ev.block {id : Nat} {b : Code} {a : Ac} {s : St} (h : Ev P Sm (.code fn rd b a s) (Blk id Q)) : Ev P Sm (.code fn rd (.block id b) a s) Q := by
  refine Ev.of (EvF.then (f := fun _ r => onBlock id r) h fun r hr => ?_)
  cases r with
  | «at» e a s => cases e with
    | normal => exact EvF.ret hr
    | jump c => cases c with
      | exit j =>
        rw [Blk_exit] at hr
        show EvF P Sm (fun _ => ifb (Nat.beq j id) (.ok (.at .normal a s)) (.ok (.at (.jump (.exit j)) a s))) Q
        cases hj : Nat.beq j id with
        | true => rw [hj, if_pos rfl] at hr; exact EvF.ret hr
        | false => rw [hj, if_neg (by decide)] at hr; exact EvF.ret hr
      | _ => exact EvF.ret hr
  | val => exact EvF.ret hr
  | st => exact EvF.ret hr
  | done => exact EvF.ret hr
def Scp (Q : Ans → Prop) (r : Ans) : Prop :=
  match r with
  | .at (.jump (.goto _)) _ _ => False
  | r => Q r
theorem Ev.scope {b : Code} {a : Ac} {s : St} (h : Ev P Sm (.code fn rd b a s) (Scp Q)) : Ev P Sm (.code fn rd (.scope b) a s) Q := by
  refine Ev.of (EvF.then (f := fun _ r => onScope r) h fun r hr => ?_)
  cases r with
  | «at» e a s => cases e with
    | normal => exact EvF.ret hr
    | jump c => cases c with
      | goto j => exact hr.elim
      | _ => exact EvF.ret hr
  | val => exact EvF.ret hr
  | st => exact EvF.ret hr
  | done => exact EvF.ret hr
/-- A LOOP: what holds at each round's beginning, and a number that falls -/
theorem Ev.loop {b : Code} {a : Ac} {s : St} (I : Nat → Ac → St → Prop) {k : Nat} (h0 : I k a s)
    (hs : ∀ k a s, I k a s → Ev P Sm (.code fn rd b a s) fun r => match r with
      | .at .normal a' s' => ∃ k', k' < k ∧ I k' a' s'
      | r => Q r) : Ev P Sm (.code fn rd (.loop b) a s) Q := by
  induction k using Nat.strongRecOn generalizing a s with
  | ind k ih =>
    refine Ev.of (EvF.then (f := fun ih r => onSeq ih fn rd (.loop b) r) (hs k a s h0) fun r hr => ?_)
    cases r with
    | «at» e a s => cases e with
      | normal =>
        obtain ⟨k', hk, hI⟩ := hr
        exact ih k' hk hI
      | jump c => exact EvF.ret hr
    | val => exact EvF.ret hr
    | st => exact EvF.ret hr
    | done => exact EvF.ret hr

/-! ### regions -/
theorem Ev.region {i : Nat} {ops : Array Oper} {a : Ac} {s : St} (h : Ev P Sm (.run fn rd ops ops.toList a s) Q) : Ev P Sm (.code fn rd (.region i ops false) a s) Q := Ev.of h
theorem Ev.regionD {i : Nat} {ops : Array Oper} {a : Ac} {s : St} {n : Nat} {l : List PStep} (hp : plan P ops = some (n, l)) (h : Ev P Sm (.steps fn rd ops l s.next a ⟨s.heap, s.next + n⟩) Q) : Ev P Sm (.code fn rd (.region i ops true) a s) Q := by
  refine Ev.of ?_
  show EvF P Sm (fun ih => match plan P ops with
    | some (n, l) => natK s.next fun b => natK (b + n) fun m => ih (.steps fn rd ops l b a ⟨s.heap, m⟩)
    | none => .no 114 (((ops[0]?).map (·.pos)).getD "")) Q
  rw [hp]
  simp only [natK_eq]
  exact h
theorem Ev_run_nil (ops : Array Oper) (a : Ac) (s : St) : Ev P Sm (.run fn rd ops [] a s) Q ↔ Q (.at .normal a s) := (Ev.iff _).trans (EvF_ret _)
theorem Ev_run_cons (ops : Array Oper) (o : Oper) (l : List Oper) (a : Ac) (s : St) : Ev P Sm (.run fn rd ops (o :: l) a s) Q ↔ EvF P Sm (fun ih => onRun P ih fn rd ops (o :: l) a s) Q := Ev.iff _
theorem Ev_steps_nil (ops : Array Oper) (b : Nat) (a : Ac) (s : St) : Ev P Sm (.steps fn rd ops [] b a s) Q ↔ Q (.at .normal a s) := (Ev.iff _).trans (EvF_ret _)
theorem Ev_steps_cons (ops : Array Oper) (o : PStep) (l : List PStep) (b : Nat) (a : Ac) (s : St) : Ev P Sm (.steps fn rd ops (o :: l) b a s) Q ↔ EvF P Sm (fun ih => onSteps P ih fn rd ops (o :: l) b a s) Q := Ev.iff _

/-! ### one operation of a region -/
noncomputable def Ac.upd (a : Ac) (d : Option Tmp) (v : Value) : Ac :=
  match d with
  | none => a
  | some t => ⟨a.tmps.set t v, a.n, a.dfs⟩
def okDst (a : Ac) (d : Option Tmp) : Bool :=
  match d with
  | none => true
  | some t => Nat.blt t a.n
theorem Ac.put_eq {β : Type} {a : Ac} {d : Option Tmp} {v : Value} {k : Ac → Rs β} (h : okDst a d = true) : a.put d v k = k (a.upd d v) := by
  cases d with
  | none => rfl
  | some t =>
    have h' : Nat.blt t a.n = true := h
    cases a
    simp only [Ac.put, Ac.parts, h', forceV_eq, Tr.force_eq, Ac.upd, ifb]
/-- an operation without calls: its value, and the state behind it -/
def OpTo (P : Program) (rd : Option Nat) (o : Oper) (a : Ac) (s : St) (v : Value) (s' : St) : Prop := ∀ (ih : Rq → Rs Ans) (k : Kn), doOp P ih rd o a.ev s k = k v [] s'
theorem Ev.op {ops : Array Oper} {o : Oper} {l : List Oper} {a : Ac} {s s' : St} {v : Value} (hg : o.guard = none) (hd : okDst a o.dst = true) (h : OpTo P rd o a s v s') (k : Ev P Sm (.run fn rd ops l (a.upd o.dst v) s') Q) : Ev P Sm (.run fn rd ops (o :: l) a s) Q := by
  rw [Ev_run_cons]
  refine EvF.mono (R := Q) ?_ fun _ h => h
  have e : (fun ih => onRun P ih fn rd ops (o :: l) a s) = fun ih => ih (.run fn rd ops l (a.upd o.dst v) s') := by
    funext ih
    show (wantedA ops o a).bind (fun w => ifb w (doOp P ih rd o a.ev s (goPut o a fun a s => ih (.run fn rd ops l a s))) (a.put o.dst undefV fun a => ih (.run fn rd ops l a s))) = _
    have hw : wantedA ops o a = .ok true := by unfold wantedA; rw [hg]
    rw [hw]
    show doOp P ih rd o a.ev s (goPut o a fun a s => ih (.run fn rd ops l a s)) = _
    rw [h]
    show a.put o.dst v (fun a => ih (.run fn rd ops l a s')) = _
    rw [Ac.put_eq hd]
  rw [e]
  exact k
/-- an operation whose guard does not hold -/
theorem Ev.opNot {ops : Array Oper} {o : Oper} {l : List Oper} {a : Ac} {s : St} (hw : wantedA ops o a = .ok false) (hd : okDst a o.dst = true) (k : Ev P Sm (.run fn rd ops l (a.upd o.dst undefV) s) Q) : Ev P Sm (.run fn rd ops (o :: l) a s) Q := by
  rw [Ev_run_cons]
  have e : (fun ih => onRun P ih fn rd ops (o :: l) a s) = fun ih => ih (.run fn rd ops l (a.upd o.dst undefV) s) := by
    funext ih
    show (wantedA ops o a).bind (fun w => ifb w (doOp P ih rd o a.ev s (goPut o a fun a s => ih (.run fn rd ops l a s))) (a.put o.dst undefV fun a => ih (.run fn rd ops l a s))) = _
    rw [hw]
    show a.put o.dst undefV (fun a => ih (.run fn rd ops l a s)) = _
    rw [Ac.put_eq hd]
  rw [e]
  exact k
/-- an operation whose guard holds -/
theorem Ev.opIf {ops : Array Oper} {o : Oper} {l : List Oper} {a : Ac} {s s' : St} {v : Value} (hw : wantedA ops o a = .ok true) (hd : okDst a o.dst = true) (h : OpTo P rd o a s v s') (k : Ev P Sm (.run fn rd ops l (a.upd o.dst v) s') Q) : Ev P Sm (.run fn rd ops (o :: l) a s) Q := by
  rw [Ev_run_cons]
  have e : (fun ih => onRun P ih fn rd ops (o :: l) a s) = fun ih => ih (.run fn rd ops l (a.upd o.dst v) s') := by
    funext ih
    show (wantedA ops o a).bind (fun w => ifb w (doOp P ih rd o a.ev s (goPut o a fun a s => ih (.run fn rd ops l a s))) (a.put o.dst undefV fun a => ih (.run fn rd ops l a s))) = _
    rw [hw]
    show doOp P ih rd o a.ev s (goPut o a fun a s => ih (.run fn rd ops l a s)) = _
    rw [h]
    show a.put o.dst v (fun a => ih (.run fn rd ops l a s')) = _
    rw [Ac.put_eq hd]
  rw [e]
  exact k
/-- a call in a region -/
theorem Ev.opCall {ops : Array Oper} {d : Option Tmp} {f : Operand} {xs : Array Operand} {ats : Array TypeId} {rest} {ty : TypeId} {pos : String} {after : Array Edge} {l : List Oper} {a : Ac} {s : St} {g : Fn} {first cap : Array Value} {args : List Value}
    (hc : rest = ({ callee := .value f, args := xs, argTypes := ats } : Call)) (hf : a.ev f = .ok (.func g first cap)) (hx : mapR a.ev xs.toList = .ok args) (hd : okDst a d = true)
    (k : Ev P Sm (.inv (.fn g cap) (first.toList ++ args) s) fun r => ∃ v s', r = .val v s' ∧ Ev P Sm (.run fn rd ops l (a.upd d v) s') Q) : Ev P Sm (.run fn rd ops (⟨d, .call rest, ty, pos, after, none⟩ :: l) a s) Q := by
  subst hc
  rw [Ev_run_cons]
  have e : (fun ih => onRun P ih fn rd ops (⟨d, .call { callee := .value f, args := xs, argTypes := ats }, ty, pos, after, none⟩ :: l) a s) = fun ih => goInv2 (goPut ⟨d, .call { callee := .value f, args := xs, argTypes := ats }, ty, pos, after, none⟩ a fun a s => ih (.run fn rd ops l a s)) (ih (.inv (.fn g cap) (first.toList ++ args) s)) := by
    funext ih
    show (a.ev f).bind (fun f => (mapR a.ev xs.toList).bind fun args => goInv ih s _ args f) = _
    rw [hf]
    show (mapR a.ev xs.toList).bind (fun args => goInv ih s _ args (.func g first cap)) = _
    rw [hx]
    rfl
  rw [e]
  refine EvF.then (f := fun ih r => goInv2 (goPut ⟨d, .call { callee := .value f, args := xs, argTypes := ats }, ty, pos, after, none⟩ a fun a s => ih (.run fn rd ops l a s)) r) k fun r hr => ?_
  obtain ⟨v, s', rfl, hr⟩ := hr
  show EvF P Sm (fun ih => a.put d v fun a => ih (.run fn rd ops l a s')) Q
  have e2 : (fun ih : Rq → Rs Ans => a.put d v fun a => ih (.run fn rd ops l a s')) = fun ih => ih (.run fn rd ops l (a.upd d v) s') := by
    funext ih
    rw [Ac.put_eq hd]
  rw [e2]
  exact hr

/-! ### functions -/
def Body (P : Program) (F : Func) (Q : Ans → Prop) (r : Ans) : Prop :=
  match r with
  | .at .normal a s => a.dfs = [] ∧ ∃ v, aResults P F a s = .ok v ∧ Q (.val v s)
  | .at (.jump .ret) a s => a.dfs = [] ∧ ∃ v, aResults P F a s = .ok v ∧ Q (.val v s)
  | _ => False
theorem Body_normal {F : Func} (ts : Tr Value) (n : Nat) (s : St) : Body P F Q (.at .normal ⟨ts, n, []⟩ s) ↔ ∃ v, aResults P F ⟨ts, n, []⟩ s = .ok v ∧ Q (.val v s) := ⟨fun h => h.2, fun h => ⟨rfl, h⟩⟩
theorem Body_ret {F : Func} (ts : Tr Value) (n : Nat) (s : St) : Body P F Q (.at (.jump .ret) ⟨ts, n, []⟩ s) ↔ ∃ v, aResults P F ⟨ts, n, []⟩ s = .ok v ∧ Q (.val v s) := ⟨fun h => h.2, fun h => ⟨rfl, h⟩⟩
theorem onEnd_eq {F : Func} {a : Ac} {s : St} {v : Value} (h : aResults P F a s = .ok v) : onEnd P F a s = .ok (.val v s) := by
  unfold onEnd
  rw [h]
  show forceV v (fun v => Rs.ok (Ans.val v s)) = _
  rw [forceV_eq]
theorem Ev.func {f : FuncId} {F : Func} {c : Code} {cap : Array Value} {args : List Value} {s : St} {m : Nat} (hs : Sm f = none) (hf : P.funcs[f]? = some F) (hb : F.body = some c) (hm : max F.ntmps (lenN (args ++ cap.toList)) = m)
    (h : Ev P Sm (.code f none c ⟨Tr.ofList (args ++ cap.toList) 0 .nil, m, []⟩ s) (Body P F Q)) : Ev P Sm (.inv (.fn (.func f) cap) args s) Q := by
  subst hm
  refine Ev.of ?_
  have e : (fun ih => step P Sm ih (.inv (.fn (.func f) cap) args s)) = fun ih => onBody P ih F (ih (.code f none c ⟨Tr.ofList (args ++ cap.toList) 0 .nil, max F.ntmps (lenN (args ++ cap.toList)), []⟩ s)) := by
    funext ih
    show onInv P Sm ih (.fn (.func f) cap) args s = _
    unfold onInv
    simp only [hs]
    rw [hf]
    show onFunc P ih f F (args ++ cap.toList) s = _
    unfold onFunc
    rw [hb]
    show natK _ _ = _
    rw [natK_eq]
  rw [e]
  refine EvF.then (f := fun ih r => onBody P ih F r) h fun r hr => ?_
  cases r with
  | «at» e a s => cases e with
    | normal =>
      obtain ⟨h1, v, h2, h3⟩ := hr
      obtain ⟨ts, n, ds⟩ := a
      cases h1
      show EvF P Sm (fun ih => onEnd P F ⟨ts, n, []⟩ s) Q
      rw [onEnd_eq h2]
      exact EvF.ret h3
    | jump c => cases c with
      | ret =>
        obtain ⟨h1, v, h2, h3⟩ := hr
        obtain ⟨ts, n, ds⟩ := a
        cases h1
        show EvF P Sm (fun ih => onEnd P F ⟨ts, n, []⟩ s) Q
        rw [onEnd_eq h2]
        exact EvF.ret h3
      | _ => exact hr.elim
  | val => exact hr.elim
  | st => exact hr.elim
  | done => exact hr.elim
end
end Go.Proofs.YtihplijjkcdcjaaGreatDoor.Abs

/-
  THE EVALUATOR'S OWN WALK: operations, by rewriting. (Rules; no program in sight.)
-/
namespace Go.Proofs.YtihplijjkcdcjaaGreatDoor.Abs
section
set_option linter.unusedVariables false
set_option linter.unusedSimpArgs false
variable {P : Program} {Sm : Summ} {fn : FuncId} {rd : Option Nat} {Q : Ans → Prop}

/-- an operation without calls ends with a value, and so on -/
def EvO (F : (Rq → Rs Ans) → Kn → Rs Ans) (K : Value → St → Prop) : Prop := ∃ v s', (∀ ih k, F ih k = k v [] s') ∧ K v s'
theorem EvO_k {v : Value} {s : St} {K : Value → St → Prop} : EvO (fun _ k => k v [] s) K ↔ K v s := by
  refine ⟨fun h => ?_, fun h => ⟨v, s, fun _ _ => rfl, h⟩⟩
  obtain ⟨v', s', h1, h2⟩ := h
  have := h1 (fun _ => .no 0 "") (fun v _ s => .ok (.val v s))
  cases this
  exact h2
theorem EvO.congr {F G : (Rq → Rs Ans) → Kn → Rs Ans} {K : Value → St → Prop} (h : F = G) : EvO F K = EvO G K := by rw [h]
def isCallV (op : Op) : Bool :=
  match op with
  | .call ⟨.value _, _, _⟩ => true
  | _ => false
theorem Ev.step {ops : Array Oper} {o : Oper} {l : List Oper} {a : Ac} {s : St} (hg : o.guard = none) (hd : okDst a o.dst = true) (hc : isCallV o.op = false)
    (h : EvO (fun ih k => doOp P ih rd o a.ev s k) fun v s' => Ev P Sm (.run fn rd ops l (a.upd o.dst v) s') Q) : Ev P Sm (.run fn rd ops (o :: l) a s) Q := by
  obtain ⟨v, s', h1, h2⟩ := h
  exact Ev.op hg hd h1 h2
/-- a value, and on -/
def EvA {α : Type} (x : Rs α) (K : α → Prop) : Prop := ∃ a, x = .ok a ∧ K a
theorem EvA_ok {α : Type} {a : α} {K : α → Prop} : EvA (.ok a) K ↔ K a := ⟨fun ⟨_, h, k⟩ => by cases h; exact k, fun h => ⟨a, rfl, h⟩⟩
/-- a call of a function -/
theorem Ev.callF {ops : Array Oper} {d : Option Tmp} {F : FuncId} {xs : Array Operand} {ats : Array TypeId} {ty : TypeId} {pos : String} {af : Array Edge} {l : List Oper} {a : Ac} {s : St} (hd : okDst a d = true)
    (h : EvA (mapR a.ev xs.toList) fun args => Ev P Sm (.inv (.fn (.func F) #[]) args s) fun r => ∃ v s', r = .val v s' ∧ Ev P Sm (.run fn rd ops l (a.upd d v) s') Q) : Ev P Sm (.run fn rd ops (⟨d, .call ⟨.value (.func F), xs, ats⟩, ty, pos, af, none⟩ :: l) a s) Q := by
  obtain ⟨args, hx, h⟩ := h
  exact Ev.opCall rfl rfl hx hd h
theorem Ev.stepIf {ops : Array Oper} {o : Oper} {l : List Oper} {a : Ac} {s : St} (hw : wantedA ops o a = .ok true) (hd : okDst a o.dst = true)
    (h : EvO (fun ih k => doOp P ih rd o a.ev s k) fun v s' => Ev P Sm (.run fn rd ops l (a.upd o.dst v) s') Q) : Ev P Sm (.run fn rd ops (o :: l) a s) Q := by
  obtain ⟨v, s', h1, h2⟩ := h
  exact Ev.opIf hw hd h1 h2

/-! ### small -/
theorem bind_ok {α β : Type} (a : α) (f : α → Rs β) : (Rs.ok a).bind f = f a := rfl
theorem of_some {α : Type} (c : Nat) (a : α) : Rs.of c (some a) = .ok a := rfl
theorem ifb_true {α : Type} (t e : α) : ifb true t e = t := rfl
theorem ifb_false {α : Type} (t e : α) : ifb false t e = e := rfl
theorem ifb_blt {α : Type} (a b : Nat) (t e : α) : ifb (Nat.blt a b) t e = if a < b then t else e := by
  rw [ifb_eq]
  by_cases h : a < b
  · rw [if_pos h, if_pos (by simpa using h)]
  · rw [if_neg h, if_neg (by simpa using h)]
theorem ifb_ble {α : Type} (a b : Nat) (t e : α) : ifb (Nat.ble a b) t e = if a ≤ b then t else e := by
  rw [ifb_eq]
  by_cases h : a ≤ b
  · rw [if_pos h, if_pos (by simpa using h)]
  · rw [if_neg h, if_neg (by simpa using h)]
theorem ifb_beq {α : Type} (a b : Nat) (t e : α) : ifb (Nat.beq a b) t e = if a = b then t else e := by
  rw [ifb_eq]
  by_cases h : a = b
  · rw [if_pos h, if_pos (by simpa using h)]
  · rw [if_neg h, if_neg (by simpa using h)]
theorem ifb_and {α : Type} (a b : Bool) (t e : α) : ifb (a && b) t e = ifb a (ifb b t e) e := by cases a <;> rfl
theorem ifb_or {α : Type} (a b : Bool) (t e : α) : ifb (a || b) t e = ifb a t (ifb b t e) := by cases a <;> rfl
theorem ifb_not {α : Type} (a : Bool) (t e : α) : ifb (!a) t e = ifb a e t := by cases a <;> rfl
theorem ifb_decide {α : Type} (p : Prop) [Decidable p] (t e : α) : ifb (decide p) t e = if p then t else e := by
  rw [ifb_eq]
  by_cases h : p <;> simp [h]
theorem sayV_ok (m : String) (v : Value) : sayV m (.ok v) = .ok v := rfl
theorem get_same {α : Type} (t : Tr α) (k : Nat) (v : α) : (t.set k v).get k = some v := Tr.get_put_same
theorem get_other {α : Type} (t : Tr α) (k j : Nat) (v : α) (h : j ≠ k) : (t.set k v).get j = t.get j := Tr.get_set_ne h
theorem ofList_nil {α : Type} (i : Nat) (t : Tr α) : Tr.ofList [] i t = t := rfl
theorem ofList_cons {α : Type} (v : α) (l : List α) (i : Nat) (t : Tr α) : Tr.ofList (v :: l) i t = Tr.ofList l (i + 1) (t.set i v) := by
  show (Tr.set t i v).force _ = _
  rw [Tr.force_eq]
  rfl
theorem upd_none (a : Ac) (v : Value) : a.upd none v = a := rfl
theorem upd_some (T : Tr Value) (n : Nat) (ds : List Deferred) (t : Tmp) (v : Value) : Ac.upd ⟨T, n, ds⟩ (some t) v = ⟨T.set t v, n, ds⟩ := rfl

/-- a condition -/
theorem Ev.condT {T : Tr Value} {n : Nat} {ds : List Deferred} {t : Tmp} {x y : Code} {s : St} {b : Bool} (hc : T.get t = some (.bool b)) (h : b = true → Ev P Sm (.code fn rd x ⟨T, n, ds⟩ s) Q) (k : b = false → Ev P Sm (.code fn rd y ⟨T, n, ds⟩ s) Q) : Ev P Sm (.code fn rd (.cond (.tmp t) x y) ⟨T, n, ds⟩ s) Q :=
  Ev.cond (by show Rs.of 11 (T.get t) = _; rw [hc]; rfl) h k
theorem Ev.condY {T : Tr Value} {n : Nat} {ds : List Deferred} {t : Tmp} {x y : Code} {s : St} (hc : T.get t = some (.bool true)) (h : Ev P Sm (.code fn rd x ⟨T, n, ds⟩ s) Q) : Ev P Sm (.code fn rd (.cond (.tmp t) x y) ⟨T, n, ds⟩ s) Q := Ev.condT hc (fun _ => h) fun e => by cases e
theorem Ev.condN {T : Tr Value} {n : Nat} {ds : List Deferred} {t : Tmp} {x y : Code} {s : St} (hc : T.get t = some (.bool false)) (h : Ev P Sm (.code fn rd y ⟨T, n, ds⟩ s) Q) : Ev P Sm (.code fn rd (.cond (.tmp t) x y) ⟨T, n, ds⟩ s) Q := Ev.condT hc (fun e => by cases e) fun _ => h
theorem Ev.unroll {b : Code} {a : Ac} {s : St} (h : Ev P Sm (.code fn rd b a s) (Seq P Sm fn rd (.loop b) Q)) : Ev P Sm (.code fn rd (.loop b) a s) Q := by
  refine Ev.of (EvF.then (f := fun ih r => onSeq ih fn rd (.loop b) r) h fun r hr => ?_)
  cases r with
  | «at» e a s => cases e with
    | normal => exact hr
    | jump c => exact EvF.ret hr
  | val => exact EvF.ret hr
  | st => exact EvF.ret hr
  | done => exact EvF.ret hr
theorem Ev.runNil {ops : Array Oper} {a : Ac} {s : St} (h : Q (.at .normal a s)) : Ev P Sm (.run fn rd ops [] a s) Q := (Ev_run_nil _ _ _).2 h
theorem Ev.stepsNil {ops : Array Oper} {b : Nat} {a : Ac} {s : St} (h : Q (.at .normal a s)) : Ev P Sm (.steps fn rd ops [] b a s) Q := (Ev_steps_nil _ _ _ _).2 h
theorem Seq.go {y : Code} {a : Ac} {s : St} (h : Ev P Sm (.code fn rd y a s) Q) : Seq P Sm fn rd y Q (.at .normal a s) := h
theorem Seq.off {y c : Code} {a : Ac} {s : St} (h : Q (.at (.jump c) a s)) : Seq P Sm fn rd y Q (.at (.jump c) a s) := h
theorem Blk.go {id : Nat} {a : Ac} {s : St} (h : Q (.at .normal a s)) : Blk id Q (.at .normal a s) := h
theorem Blk.here {id : Nat} {a : Ac} {s : St} (h : Q (.at .normal a s)) : Blk id Q (.at (.jump (.exit id)) a s) := by
  rw [Blk_exit, if_pos (by simp)]; exact h
theorem Blk.off {id j : Nat} {a : Ac} {s : St} (hj : Nat.beq j id = false) (h : Q (.at (.jump (.exit j)) a s)) : Blk id Q (.at (.jump (.exit j)) a s) := by
  rw [Blk_exit, hj, if_neg (by decide)]; exact h
theorem Blk.ret {id : Nat} {a : Ac} {s : St} (h : Q (.at (.jump .ret) a s)) : Blk id Q (.at (.jump .ret) a s) := h

/-! ### operands -/
theorem ev_tmp (T : Tr Value) (n : Nat) (ds : List Deferred) (t : Tmp) : Ac.ev ⟨T, n, ds⟩ (.tmp t) = Rs.of 11 (T.get t) := rfl
theorem ev_int (a : Ac) (k : IntKind) (x : Int) : a.ev (.const (.int k x)) = .ok (.int k x) := rfl
theorem ev_bool (a : Ac) (b : Bool) : a.ev (.const (.bool b)) = .ok (.bool b) := rfl
theorem ev_str (a : Ac) (b : ByteArray) : a.ev (.const (.string b)) = .ok (.string b) := rfl
theorem ev_nilp (a : Ac) : a.ev (.const (.pointer none)) = .ok (.pointer none) := rfl
theorem ev_nils (a : Ac) : a.ev (.const (.slice none 0 0)) = .ok (.slice none 0 0) := rfl
theorem ev_nilm (a : Ac) : a.ev (.const (.map none)) = .ok (.map none) := rfl
theorem ev_nilf (a : Ac) : a.ev (.const .nilFunc) = .ok .nilFunc := rfl
theorem ev_nili (a : Ac) : a.ev (.const .nilIface) = .ok .nilIface := rfl
theorem ev_global (a : Ac) (g : Nat) : a.ev (.global g) = if g < 4096 then .ok (.pointer (some ⟨g, 0, none⟩)) else .no 14 "" := ifb_blt _ _ _ _
theorem ev_func (a : Ac) (f : FuncId) : a.ev (.func f) = .ok (.func (.func f) #[] #[]) := rfl
theorem mapR_nil {α β : Type} (f : α → Rs β) : mapR f [] = .ok [] := rfl
theorem mapR_cons {α β : Type} (f : α → Rs β) (a : α) (l : List α) : mapR f (a :: l) = (f a).bind fun b => (mapR f l).bind fun bs => .ok (b :: bs) := rfl

/-! ### operations -/
section ops
variable {ih : Rq → Rs Ans} {ρ : Operand → Rs Value} {s : St} {k : Kn} {d : Option Tmp} {ty : TypeId} {pos : String} {af : Array Edge} {g : Option (Nat × Bool)}
theorem do_move (x : Operand) : doOp P ih rd ⟨d, .move x, ty, pos, af, g⟩ ρ s k = (sayV pos (ρ x)).bind fun v => k v [] s := rfl
theorem do_assign (x : Operand) : doOp P ih rd ⟨d, .assign x, ty, pos, af, g⟩ ρ s k = (sayV pos (ρ x)).bind fun v => k v [] s := rfl
theorem do_pick (c a b : Operand) : doOp P ih rd ⟨d, .pick c a b, ty, pos, af, g⟩ ρ s k = (sayV pos ((ρ c).bind (pPick ρ a b))).bind fun v => k v [] s := rfl
theorem do_binOp (op : BinOp) (t u : TypeId) (x y : Operand) : doOp P ih rd ⟨d, .binOp op t x y u, ty, pos, af, g⟩ ρ s k = (sayV pos ((ρ x).bind fun a => (ρ y).bind (aBin P s.heap op t (isC x || isC y) a))).bind fun v => k v [] s := rfl
theorem do_unOp (op : UnOp) (t : TypeId) (x : Operand) : doOp P ih rd ⟨d, .unOp op t x, ty, pos, af, g⟩ ρ s k = (sayV pos ((ρ x).bind (aUn op))).bind fun v => k v [] s := rfl
theorem do_makeIface (t : TypeId) (x : Operand) : doOp P ih rd ⟨d, .makeInterface t x, ty, pos, af, g⟩ ρ s k = (sayV pos ((ρ x).bind (pIface P t))).bind fun v => k v [] s := rfl
theorem do_makeFunc (f : Fn) (a c : Array Operand) : doOp P ih rd ⟨d, .makeFunc f a c, ty, pos, af, g⟩ ρ s k = (sayV pos (ifb (notYield f) (pFunc f a c ρ) (.no 65 ""))).bind fun v => k v [] s := rfl
theorem do_fieldAddr (t : TypeId) (x : Operand) (f : Nat) : doOp P ih rd ⟨d, .fieldAddr t x f, ty, pos, af, g⟩ ρ s k = (sayV pos ((ρ x).bind (pFieldAddr P t f))).bind fun v => k v [] s := rfl
theorem do_field (t : TypeId) (x : Operand) (f : Nat) : doOp P ih rd ⟨d, .field t x f, ty, pos, af, g⟩ ρ s k = (sayV pos ((ρ x).bind (pField P t f))).bind fun v => k v [] s := rfl
theorem do_indexAddr (t : TypeId) (x i : Operand) : doOp P ih rd ⟨d, .indexAddr t x i, ty, pos, af, g⟩ ρ s k = (sayV pos ((ρ x).bind fun a => (ρ i).bind (pIndexAddr P t a))).bind fun v => k v [] s := rfl
theorem do_index (t : TypeId) (x i : Operand) : doOp P ih rd ⟨d, .index t x i, ty, pos, af, g⟩ ρ s k = (sayV pos ((ρ x).bind fun a => (ρ i).bind (pIndex P t a))).bind fun v => k v [] s := rfl
theorem do_extract (x : Operand) (i : Nat) : doOp P ih rd ⟨d, .extract x i, ty, pos, af, g⟩ ρ s k = (sayV pos ((ρ x).bind (pExtract i))).bind fun v => k v [] s := rfl
theorem do_nilCheck (x : Operand) : doOp P ih rd ⟨d, .nilCheck x, ty, pos, af, g⟩ ρ s k = (sayV pos ((ρ x).bind pNilCheck)).bind fun v => k v [] s := rfl
theorem do_build (t : TypeId) (ps : Array (Nat × Operand)) : doOp P ih rd ⟨d, .build t ps, ty, pos, af, g⟩ ρ s k = (sayV pos (pBuild P t ps ρ)).bind fun v => k v [] s := rfl
theorem do_typeAssert (x : Operand) (t u : TypeId) (ok : Bool) : doOp P ih rd ⟨d, .typeAssert x u t ok, ty, pos, af, g⟩ ρ s k = (sayV pos ((ρ x).bind (pAssert P t ok))).bind fun v => k v [] s := rfl
theorem do_load (t : TypeId) (x : Operand) : doOp P ih rd ⟨d, .load t x, ty, pos, af, g⟩ ρ s k = (sayV pos ((ρ x).bind (pLoad P s.heap t))).bind fun v => k v [] s := rfl
theorem do_slice (t : TypeId) (x : Operand) (lo hi mx : Option Operand) : doOp P ih rd ⟨d, .slice t x lo hi mx, ty, pos, af, g⟩ ρ s k = (sayV pos (pSlice P s.heap t x lo hi mx ρ)).bind fun v => k v [] s := rfl
theorem do_lookup (t : TypeId) (m q : Operand) (ok : Bool) : doOp P ih rd ⟨d, .lookup t m q ok, ty, pos, af, g⟩ ρ s k = (sayV pos ((ρ m).bind fun m => (ρ q).bind (pLookup P s.heap t ok m))).bind fun v => k v [] s := rfl
theorem do_builtin (b : Builtin) (xs : Array Operand) (ts : Array TypeId) : doOp P ih rd ⟨d, .call ⟨.builtin b, xs, ts⟩, ty, pos, af, g⟩ ρ s k = (mapR ρ xs.toList).bind fun vs => eBuiltin P s b ts vs fun v s => k v [] s := rfl
theorem do_alloc (t : TypeId) : doOp P ih rd ⟨d, .alloc t, ty, pos, af, g⟩ ρ s k = ((zeroT P t).bind fun z => .ok (AObj.cells (cellsOf z) t 0 false (0, 0), ptrTo)).bind fun q => s.new q.1 fun n s => k (q.2 n) [] s := rfl
theorem do_box (t : TypeId) (x : Operand) : doOp P ih rd ⟨d, .box t x, ty, pos, af, g⟩ ρ s k = ((ρ x).bind fun v => .ok (AObj.cells (cellsOf v) t 0 false (0, 0), ptrTo)).bind fun q => s.new q.1 fun n s => k (q.2 n) [] s := rfl
theorem do_store (t : TypeId) (p x : Operand) : doOp P ih rd ⟨d, .store t p x, ty, pos, af, g⟩ ρ s k = (ρ p).bind fun p => (ρ x).bind fun x => eStore P s t p x fun v s => k v [] s := rfl
theorem do_convert (t u : TypeId) (x : Operand) : doOp P ih rd ⟨d, .convert t u x, ty, pos, af, g⟩ ρ s k = (match cvOf P t u with
    | .new => ((ρ x).bind fun a => (undT P t).bind fun us => (undT P u).bind fun ud => aBytes P us ud a).bind fun q => s.new q.1 fun n s => k (q.2 n) [] s
    | .same => (ρ x).bind fun x => eBytes s x fun v s => k v [] s
    | .plain => (sayV pos ((ρ x).bind (pConv P s.heap t u))).bind fun v => k v [] s) := by
  show (match cvOf P t u with
    | .new => _
    | .same => _
    | .plain => _) = _
  cases cvOf P t u <;> rfl
theorem do_makeMap (t : TypeId) (r : Option Operand) : doOp P ih rd ⟨d, .makeMap t r, ty, pos, af, g⟩ ρ s k = (aMakeMap P t r ρ).bind fun q => s.new q.1 fun n s => k (q.2 n) [] s := rfl
theorem do_mapUpdate (t : TypeId) (m q x : Operand) : doOp P ih rd ⟨d, .mapUpdate t m q x, ty, pos, af, g⟩ ρ s k = (ρ m).bind fun m => (ρ q).bind fun q => (ρ x).bind fun x => eMapPut P s t m q x fun v s => k v [] s := rfl
theorem do_range (t : TypeId) (x : Operand) : doOp P ih rd ⟨d, .range t x, ty, pos, af, g⟩ ρ s k = (ρ x).bind fun x => eRange P s t x fun v s => k v [] s := rfl
theorem do_next (it : Operand) (b : Bool) : doOp P ih rd ⟨d, .next it b, ty, pos, af, g⟩ ρ s k = (ρ it).bind fun it => eNext s b it fun v s => k v [] s := rfl
theorem do_entry (it : Operand) : doOp P ih rd ⟨d, .entry it, ty, pos, af, g⟩ ρ s k = (ρ it).bind fun it => eEntry s it fun v s => k v [] s := rfl
end ops

theorem undT_eq (t : TypeId) : undT P t = Rs.of 2 (P.underlying t) := rfl

/-! ### numbers -/
section nums
variable {h : Tr AObj} {t : TypeId} {c : Bool}
theorem bin_add (k : IntKind) (a b : Int) : aBin P h .add t c (.int k a) (.int k b) = .ok (.int k (k.wrap (a + b))) := by
  show ifb (kEq k k) (intR k (iAdd k a b)) _ = _
  rw [kEq_self, intR_eq, iAdd_eq]; rfl
theorem bin_sub (k : IntKind) (a b : Int) : aBin P h .sub t c (.int k a) (.int k b) = .ok (.int k (k.wrap (a - b))) := by
  show ifb (kEq k k) (intR k (iSub k a b)) _ = _
  rw [kEq_self, intR_eq, iSub_eq]; rfl
theorem bin_mul (k : IntKind) (a b : Int) : aBin P h .mul t c (.int k a) (.int k b) = .ok (.int k (k.wrap (a * b))) := by
  show ifb (kEq k k) (intR k (iMul k a b)) _ = _
  rw [kEq_self, intR_eq, iMul_eq]; rfl
theorem bin_rem (k : IntKind) (a b : Int) (hb : b ≠ 0) : aBin P h .rem t c (.int k a) (.int k b) = .ok (.int k (a.tmod b)) := by
  show ifb (kEq k k) (ifb (iBeq b 0) (.no 20 "") (intR k (iRem a b))) _ = _
  have : (b == 0) = false := by simpa using hb
  rw [kEq_self, intR_eq, iRem_eq, iBeq_eq, this]; rfl
theorem bin_quo (k : IntKind) (a b : Int) (hb : b ≠ 0) : aBin P h .quo t c (.int k a) (.int k b) = .ok (.int k (k.wrap (a.tdiv b))) := by
  show ifb (kEq k k) (ifb (iBeq b 0) (.no 20 "") (intR k (iQuo k a b))) _ = _
  have : (b == 0) = false := by simpa using hb
  rw [kEq_self, intR_eq, iQuo_eq, iBeq_eq, this]; rfl
theorem bit2_nat (op : BinOp) (f : Nat → Nat → Nat) (k : IntKind) (m n : Nat) (hm : m < kLim k) (hn : n < kLim k) : iBit2 op f k (m : Int) (n : Int) = ((f m n : Nat) : Int) := by
  show ifb (Nat.blt m (kLim k)) (ifb (Nat.blt n (kLim k)) (.ofNat (f m n)) (iBits op k m n)) (iBits op k m n) = _
  rw [ifb_blt, ifb_blt, if_pos hm, if_pos hn]
  rfl
theorem bin_and (k : IntKind) (m n : Nat) (hm : m < kLim k) (hn : n < kLim k) : aBin P h .and t c (.int k (m : Int)) (.int k (n : Int)) = .ok (.int k ((m &&& n : Nat) : Int)) := by
  show ifb (kEq k k) (intR k (iBit2 .and Nat.land k (m : Int) (n : Int))) _ = _
  rw [kEq_self, intR_eq, bit2_nat _ _ _ _ _ hm hn]; rfl
theorem bin_or (k : IntKind) (m n : Nat) (hm : m < kLim k) (hn : n < kLim k) : aBin P h .or t c (.int k (m : Int)) (.int k (n : Int)) = .ok (.int k ((m ||| n : Nat) : Int)) := by
  show ifb (kEq k k) (intR k (iBit2 .or Nat.lor k (m : Int) (n : Int))) _ = _
  rw [kEq_self, intR_eq, bit2_nat _ _ _ _ _ hm hn]; rfl
theorem bin_xor (k : IntKind) (m n : Nat) (hm : m < kLim k) (hn : n < kLim k) : aBin P h .xor t c (.int k (m : Int)) (.int k (n : Int)) = .ok (.int k ((m ^^^ n : Nat) : Int)) := by
  show ifb (kEq k k) (intR k (iBit2 .xor Nat.xor k (m : Int) (n : Int))) _ = _
  rw [kEq_self, intR_eq, bit2_nat _ _ _ _ _ hm hn]; rfl
theorem bin_shr (k j : IntKind) (m n : Nat) (hm : m < kMod k) : aBin P h .shr t c (.int k (m : Int)) (.int j (n : Int)) = .ok (.int k ((m >>> n : Nat) : Int)) := by
  show intR k (ifb (Nat.blt m (kMod k)) (.ofNat (Nat.shiftRight m n)) _) = _
  rw [intR_eq, ifb_blt, if_pos hm]; rfl
theorem bin_and_u8 (a b : Int) (h0 : 0 ≤ a) (h1 : a < 256) (h2 : 0 ≤ b) (h3 : b < 256) : aBin P h .and t c (.int .u8 a) (.int .u8 b) = .ok (.int .u8 ((a.toNat &&& b.toNat : Nat) : Int)) := by
  obtain ⟨m, rfl⟩ : ∃ m : Nat, a = (m : Int) := ⟨a.toNat, by omega⟩
  obtain ⟨n, rfl⟩ : ∃ n : Nat, b = (n : Int) := ⟨b.toNat, by omega⟩
  exact bin_and .u8 m n (by show m < 256; omega) (by show n < 256; omega)
theorem bin_or_u8 (a b : Int) (h0 : 0 ≤ a) (h1 : a < 256) (h2 : 0 ≤ b) (h3 : b < 256) : aBin P h .or t c (.int .u8 a) (.int .u8 b) = .ok (.int .u8 ((a.toNat ||| b.toNat : Nat) : Int)) := by
  obtain ⟨m, rfl⟩ : ∃ m : Nat, a = (m : Int) := ⟨a.toNat, by omega⟩
  obtain ⟨n, rfl⟩ : ∃ n : Nat, b = (n : Int) := ⟨b.toNat, by omega⟩
  exact bin_or .u8 m n (by show m < 256; omega) (by show n < 256; omega)
theorem bin_xor_u8 (a b : Int) (h0 : 0 ≤ a) (h1 : a < 256) (h2 : 0 ≤ b) (h3 : b < 256) : aBin P h .xor t c (.int .u8 a) (.int .u8 b) = .ok (.int .u8 ((a.toNat ^^^ b.toNat : Nat) : Int)) := by
  obtain ⟨m, rfl⟩ : ∃ m : Nat, a = (m : Int) := ⟨a.toNat, by omega⟩
  obtain ⟨n, rfl⟩ : ∃ n : Nat, b = (n : Int) := ⟨b.toNat, by omega⟩
  exact bin_xor .u8 m n (by show m < 256; omega) (by show n < 256; omega)
theorem bin_shr_u8 (j : IntKind) (a b : Int) (h0 : 0 ≤ a) (h1 : a < 256) (h2 : 0 ≤ b) : aBin P h .shr t c (.int .u8 a) (.int j b) = .ok (.int .u8 ((a.toNat >>> b.toNat : Nat) : Int)) := by
  obtain ⟨m, rfl⟩ : ∃ m : Nat, a = (m : Int) := ⟨a.toNat, by omega⟩
  obtain ⟨n, rfl⟩ : ∃ n : Nat, b = (n : Int) := ⟨b.toNat, by omega⟩
  exact bin_shr .u8 j m n (by show m < 256; omega)
theorem bin_and_u16 (a b : Int) (h0 : 0 ≤ a) (h1 : a < 65536) (h2 : 0 ≤ b) (h3 : b < 65536) : aBin P h .and t c (.int .u16 a) (.int .u16 b) = .ok (.int .u16 ((a.toNat &&& b.toNat : Nat) : Int)) := by
  obtain ⟨m, rfl⟩ : ∃ m : Nat, a = (m : Int) := ⟨a.toNat, by omega⟩
  obtain ⟨n, rfl⟩ : ∃ n : Nat, b = (n : Int) := ⟨b.toNat, by omega⟩
  exact bin_and .u16 m n (by show m < 65536; omega) (by show n < 65536; omega)
theorem bin_or_u16 (a b : Int) (h0 : 0 ≤ a) (h1 : a < 65536) (h2 : 0 ≤ b) (h3 : b < 65536) : aBin P h .or t c (.int .u16 a) (.int .u16 b) = .ok (.int .u16 ((a.toNat ||| b.toNat : Nat) : Int)) := by
  obtain ⟨m, rfl⟩ : ∃ m : Nat, a = (m : Int) := ⟨a.toNat, by omega⟩
  obtain ⟨n, rfl⟩ : ∃ n : Nat, b = (n : Int) := ⟨b.toNat, by omega⟩
  exact bin_or .u16 m n (by show m < 65536; omega) (by show n < 65536; omega)
theorem bin_xor_u16 (a b : Int) (h0 : 0 ≤ a) (h1 : a < 65536) (h2 : 0 ≤ b) (h3 : b < 65536) : aBin P h .xor t c (.int .u16 a) (.int .u16 b) = .ok (.int .u16 ((a.toNat ^^^ b.toNat : Nat) : Int)) := by
  obtain ⟨m, rfl⟩ : ∃ m : Nat, a = (m : Int) := ⟨a.toNat, by omega⟩
  obtain ⟨n, rfl⟩ : ∃ n : Nat, b = (n : Int) := ⟨b.toNat, by omega⟩
  exact bin_xor .u16 m n (by show m < 65536; omega) (by show n < 65536; omega)
theorem bin_shr_u16 (j : IntKind) (a b : Int) (h0 : 0 ≤ a) (h1 : a < 65536) (h2 : 0 ≤ b) : aBin P h .shr t c (.int .u16 a) (.int j b) = .ok (.int .u16 ((a.toNat >>> b.toNat : Nat) : Int)) := by
  obtain ⟨m, rfl⟩ : ∃ m : Nat, a = (m : Int) := ⟨a.toNat, by omega⟩
  obtain ⟨n, rfl⟩ : ∃ n : Nat, b = (n : Int) := ⟨b.toNat, by omega⟩
  exact bin_shr .u16 j m n (by show m < 65536; omega)
theorem bin_and_u32 (a b : Int) (h0 : 0 ≤ a) (h1 : a < 4294967296) (h2 : 0 ≤ b) (h3 : b < 4294967296) : aBin P h .and t c (.int .u32 a) (.int .u32 b) = .ok (.int .u32 ((a.toNat &&& b.toNat : Nat) : Int)) := by
  obtain ⟨m, rfl⟩ : ∃ m : Nat, a = (m : Int) := ⟨a.toNat, by omega⟩
  obtain ⟨n, rfl⟩ : ∃ n : Nat, b = (n : Int) := ⟨b.toNat, by omega⟩
  exact bin_and .u32 m n (by show m < 4294967296; omega) (by show n < 4294967296; omega)
theorem bin_or_u32 (a b : Int) (h0 : 0 ≤ a) (h1 : a < 4294967296) (h2 : 0 ≤ b) (h3 : b < 4294967296) : aBin P h .or t c (.int .u32 a) (.int .u32 b) = .ok (.int .u32 ((a.toNat ||| b.toNat : Nat) : Int)) := by
  obtain ⟨m, rfl⟩ : ∃ m : Nat, a = (m : Int) := ⟨a.toNat, by omega⟩
  obtain ⟨n, rfl⟩ : ∃ n : Nat, b = (n : Int) := ⟨b.toNat, by omega⟩
  exact bin_or .u32 m n (by show m < 4294967296; omega) (by show n < 4294967296; omega)
theorem bin_xor_u32 (a b : Int) (h0 : 0 ≤ a) (h1 : a < 4294967296) (h2 : 0 ≤ b) (h3 : b < 4294967296) : aBin P h .xor t c (.int .u32 a) (.int .u32 b) = .ok (.int .u32 ((a.toNat ^^^ b.toNat : Nat) : Int)) := by
  obtain ⟨m, rfl⟩ : ∃ m : Nat, a = (m : Int) := ⟨a.toNat, by omega⟩
  obtain ⟨n, rfl⟩ : ∃ n : Nat, b = (n : Int) := ⟨b.toNat, by omega⟩
  exact bin_xor .u32 m n (by show m < 4294967296; omega) (by show n < 4294967296; omega)
theorem bin_shr_u32 (j : IntKind) (a b : Int) (h0 : 0 ≤ a) (h1 : a < 4294967296) (h2 : 0 ≤ b) : aBin P h .shr t c (.int .u32 a) (.int j b) = .ok (.int .u32 ((a.toNat >>> b.toNat : Nat) : Int)) := by
  obtain ⟨m, rfl⟩ : ∃ m : Nat, a = (m : Int) := ⟨a.toNat, by omega⟩
  obtain ⟨n, rfl⟩ : ∃ n : Nat, b = (n : Int) := ⟨b.toNat, by omega⟩
  exact bin_shr .u32 j m n (by show m < 4294967296; omega)
theorem bin_and_u64 (a b : Int) (h0 : 0 ≤ a) (h1 : a < 18446744073709551616) (h2 : 0 ≤ b) (h3 : b < 18446744073709551616) : aBin P h .and t c (.int .u64 a) (.int .u64 b) = .ok (.int .u64 ((a.toNat &&& b.toNat : Nat) : Int)) := by
  obtain ⟨m, rfl⟩ : ∃ m : Nat, a = (m : Int) := ⟨a.toNat, by omega⟩
  obtain ⟨n, rfl⟩ : ∃ n : Nat, b = (n : Int) := ⟨b.toNat, by omega⟩
  exact bin_and .u64 m n (by show m < 18446744073709551616; omega) (by show n < 18446744073709551616; omega)
theorem bin_or_u64 (a b : Int) (h0 : 0 ≤ a) (h1 : a < 18446744073709551616) (h2 : 0 ≤ b) (h3 : b < 18446744073709551616) : aBin P h .or t c (.int .u64 a) (.int .u64 b) = .ok (.int .u64 ((a.toNat ||| b.toNat : Nat) : Int)) := by
  obtain ⟨m, rfl⟩ : ∃ m : Nat, a = (m : Int) := ⟨a.toNat, by omega⟩
  obtain ⟨n, rfl⟩ : ∃ n : Nat, b = (n : Int) := ⟨b.toNat, by omega⟩
  exact bin_or .u64 m n (by show m < 18446744073709551616; omega) (by show n < 18446744073709551616; omega)
theorem bin_xor_u64 (a b : Int) (h0 : 0 ≤ a) (h1 : a < 18446744073709551616) (h2 : 0 ≤ b) (h3 : b < 18446744073709551616) : aBin P h .xor t c (.int .u64 a) (.int .u64 b) = .ok (.int .u64 ((a.toNat ^^^ b.toNat : Nat) : Int)) := by
  obtain ⟨m, rfl⟩ : ∃ m : Nat, a = (m : Int) := ⟨a.toNat, by omega⟩
  obtain ⟨n, rfl⟩ : ∃ n : Nat, b = (n : Int) := ⟨b.toNat, by omega⟩
  exact bin_xor .u64 m n (by show m < 18446744073709551616; omega) (by show n < 18446744073709551616; omega)
theorem bin_shr_u64 (j : IntKind) (a b : Int) (h0 : 0 ≤ a) (h1 : a < 18446744073709551616) (h2 : 0 ≤ b) : aBin P h .shr t c (.int .u64 a) (.int j b) = .ok (.int .u64 ((a.toNat >>> b.toNat : Nat) : Int)) := by
  obtain ⟨m, rfl⟩ : ∃ m : Nat, a = (m : Int) := ⟨a.toNat, by omega⟩
  obtain ⟨n, rfl⟩ : ∃ n : Nat, b = (n : Int) := ⟨b.toNat, by omega⟩
  exact bin_shr .u64 j m n (by show m < 18446744073709551616; omega)
theorem bin_and_i64 (a b : Int) (h0 : 0 ≤ a) (h1 : a < 9223372036854775808) (h2 : 0 ≤ b) (h3 : b < 9223372036854775808) : aBin P h .and t c (.int .i64 a) (.int .i64 b) = .ok (.int .i64 ((a.toNat &&& b.toNat : Nat) : Int)) := by
  obtain ⟨m, rfl⟩ : ∃ m : Nat, a = (m : Int) := ⟨a.toNat, by omega⟩
  obtain ⟨n, rfl⟩ : ∃ n : Nat, b = (n : Int) := ⟨b.toNat, by omega⟩
  exact bin_and .i64 m n (by show m < 9223372036854775808; omega) (by show n < 9223372036854775808; omega)
theorem bin_or_i64 (a b : Int) (h0 : 0 ≤ a) (h1 : a < 9223372036854775808) (h2 : 0 ≤ b) (h3 : b < 9223372036854775808) : aBin P h .or t c (.int .i64 a) (.int .i64 b) = .ok (.int .i64 ((a.toNat ||| b.toNat : Nat) : Int)) := by
  obtain ⟨m, rfl⟩ : ∃ m : Nat, a = (m : Int) := ⟨a.toNat, by omega⟩
  obtain ⟨n, rfl⟩ : ∃ n : Nat, b = (n : Int) := ⟨b.toNat, by omega⟩
  exact bin_or .i64 m n (by show m < 9223372036854775808; omega) (by show n < 9223372036854775808; omega)
theorem bin_xor_i64 (a b : Int) (h0 : 0 ≤ a) (h1 : a < 9223372036854775808) (h2 : 0 ≤ b) (h3 : b < 9223372036854775808) : aBin P h .xor t c (.int .i64 a) (.int .i64 b) = .ok (.int .i64 ((a.toNat ^^^ b.toNat : Nat) : Int)) := by
  obtain ⟨m, rfl⟩ : ∃ m : Nat, a = (m : Int) := ⟨a.toNat, by omega⟩
  obtain ⟨n, rfl⟩ : ∃ n : Nat, b = (n : Int) := ⟨b.toNat, by omega⟩
  exact bin_xor .i64 m n (by show m < 9223372036854775808; omega) (by show n < 9223372036854775808; omega)
theorem bin_shr_i64 (j : IntKind) (a b : Int) (h0 : 0 ≤ a) (h1 : a < 9223372036854775808) (h2 : 0 ≤ b) : aBin P h .shr t c (.int .i64 a) (.int j b) = .ok (.int .i64 ((a.toNat >>> b.toNat : Nat) : Int)) := by
  obtain ⟨m, rfl⟩ : ∃ m : Nat, a = (m : Int) := ⟨a.toNat, by omega⟩
  obtain ⟨n, rfl⟩ : ∃ n : Nat, b = (n : Int) := ⟨b.toNat, by omega⟩
  exact bin_shr .i64 j m n (by show m < 18446744073709551616; omega)
theorem bin_and_i32 (a b : Int) (h0 : 0 ≤ a) (h1 : a < 2147483648) (h2 : 0 ≤ b) (h3 : b < 2147483648) : aBin P h .and t c (.int .i32 a) (.int .i32 b) = .ok (.int .i32 ((a.toNat &&& b.toNat : Nat) : Int)) := by
  obtain ⟨m, rfl⟩ : ∃ m : Nat, a = (m : Int) := ⟨a.toNat, by omega⟩
  obtain ⟨n, rfl⟩ : ∃ n : Nat, b = (n : Int) := ⟨b.toNat, by omega⟩
  exact bin_and .i32 m n (by show m < 2147483648; omega) (by show n < 2147483648; omega)
theorem bin_or_i32 (a b : Int) (h0 : 0 ≤ a) (h1 : a < 2147483648) (h2 : 0 ≤ b) (h3 : b < 2147483648) : aBin P h .or t c (.int .i32 a) (.int .i32 b) = .ok (.int .i32 ((a.toNat ||| b.toNat : Nat) : Int)) := by
  obtain ⟨m, rfl⟩ : ∃ m : Nat, a = (m : Int) := ⟨a.toNat, by omega⟩
  obtain ⟨n, rfl⟩ : ∃ n : Nat, b = (n : Int) := ⟨b.toNat, by omega⟩
  exact bin_or .i32 m n (by show m < 2147483648; omega) (by show n < 2147483648; omega)
theorem bin_xor_i32 (a b : Int) (h0 : 0 ≤ a) (h1 : a < 2147483648) (h2 : 0 ≤ b) (h3 : b < 2147483648) : aBin P h .xor t c (.int .i32 a) (.int .i32 b) = .ok (.int .i32 ((a.toNat ^^^ b.toNat : Nat) : Int)) := by
  obtain ⟨m, rfl⟩ : ∃ m : Nat, a = (m : Int) := ⟨a.toNat, by omega⟩
  obtain ⟨n, rfl⟩ : ∃ n : Nat, b = (n : Int) := ⟨b.toNat, by omega⟩
  exact bin_xor .i32 m n (by show m < 2147483648; omega) (by show n < 2147483648; omega)
theorem bin_shr_i32 (j : IntKind) (a b : Int) (h0 : 0 ≤ a) (h1 : a < 2147483648) (h2 : 0 ≤ b) : aBin P h .shr t c (.int .i32 a) (.int j b) = .ok (.int .i32 ((a.toNat >>> b.toNat : Nat) : Int)) := by
  obtain ⟨m, rfl⟩ : ∃ m : Nat, a = (m : Int) := ⟨a.toNat, by omega⟩
  obtain ⟨n, rfl⟩ : ∃ n : Nat, b = (n : Int) := ⟨b.toNat, by omega⟩
  exact bin_shr .i32 j m n (by show m < 4294967296; omega)
theorem bin_eql (k : IntKind) (a b : Int) : aBin P h .eql t c (.int k a) (.int k b) = .ok (.bool (decide (a = b))) := by
  show ifb (kEq k k) (Rs.ok (Value.bool (iBeq a b))) _ = _
  rw [kEq_self, iBeq_eq]; rfl
theorem bin_neq (k : IntKind) (a b : Int) : aBin P h .neq t c (.int k a) (.int k b) = .ok (.bool (decide (a ≠ b))) := by
  show ifb (kEq k k) (Rs.ok (Value.bool (!iBeq a b))) _ = _
  rw [kEq_self, iBeq_eq]
  show Rs.ok (Value.bool (!(a == b))) = _
  by_cases e : a = b <;> simp [e]
theorem bin_lss (k : IntKind) (a b : Int) : aBin P h .lss t c (.int k a) (.int k b) = .ok (.bool (decide (a < b))) := by
  show ifb (kEq k k) (Rs.ok (Value.bool (iBlt a b))) _ = _
  rw [kEq_self, iBlt_eq]; rfl
theorem bin_leq (k : IntKind) (a b : Int) : aBin P h .leq t c (.int k a) (.int k b) = .ok (.bool (decide (a ≤ b))) := by
  show ifb (kEq k k) (Rs.ok (Value.bool (iBle a b))) _ = _
  rw [kEq_self, iBle_eq]; rfl
theorem bin_gtr (k : IntKind) (a b : Int) : aBin P h .gtr t c (.int k a) (.int k b) = .ok (.bool (decide (b < a))) := by
  show ifb (kEq k k) (Rs.ok (Value.bool (iBlt b a))) _ = _
  rw [kEq_self, iBlt_eq]; rfl
theorem bin_geq (k : IntKind) (a b : Int) : aBin P h .geq t c (.int k a) (.int k b) = .ok (.bool (decide (b ≤ a))) := by
  show ifb (kEq k k) (Rs.ok (Value.bool (iBle b a))) _ = _
  rw [kEq_self, iBle_eq]; rfl
theorem str_eql (a b : List UInt8) : aStr .eql a b = .ok (.bool (a == b)) := by
  show Rs.ok (Value.bool (bEq a b)) = _
  rw [bEq_eq]
theorem str_neq (a b : List UInt8) : aStr .neq a b = .ok (.bool (!(a == b))) := by
  show Rs.ok (Value.bool (!bEq a b)) = _
  rw [bEq_eq]
theorem str_lss (a b : List UInt8) : aStr .lss a b = .ok (.bool (bLess a b)) := rfl
theorem str_gtr (a b : List UInt8) : aStr .gtr a b = .ok (.bool (!(bLess a b || bEq a b))) := rfl
theorem bin_str (op : BinOp) (a : ByteArray) (y : Value) : aBin P h op t c (.string a) y = aBinStr op a.data.toList y := rfl
theorem un_not (b : Bool) : aUn .not (.bool b) = .ok (.bool !b) := rfl
theorem un_xor_u32 (m : Nat) (hm : m < 4294967296) : aUn .xor (.int .u32 (m : Int)) = .ok (.int .u32 ((4294967295 ^^^ m : Nat) : Int)) := by
  show intR .u32 (iBit2 .xor Nat.xor .u32 ((4294967295 : Nat) : Int) (m : Int)) = _
  rw [bit2_nat _ _ _ _ _ (by decide) hm, intR_eq]; rfl
theorem wrap_i64 (a : Int) (h1 : -9223372036854775808 ≤ a) (h2 : a ≤ 9223372036854775807) : IntKind.i64.wrap a = a := by
  simp only [IntKind.wrap, IntKind.bits, IntKind.signed, Bool.true_and, Bool.false_and]
  split <;> (rename_i h; simp at h; try omega)
theorem wrap_u64 (a : Int) (h1 : 0 ≤ a) (h2 : a ≤ 18446744073709551615) : IntKind.u64.wrap a = a := by
  simp only [IntKind.wrap, IntKind.bits, IntKind.signed, Bool.true_and, Bool.false_and]
  split <;> (rename_i h; simp at h; try omega)
theorem wrap_u32 (a : Int) (h1 : 0 ≤ a) (h2 : a ≤ 4294967295) : IntKind.u32.wrap a = a := by
  simp only [IntKind.wrap, IntKind.bits, IntKind.signed, Bool.true_and, Bool.false_and]
  split <;> (rename_i h; simp at h; try omega)
theorem wrap_u8 (a : Int) (h1 : 0 ≤ a) (h2 : a ≤ 255) : IntKind.u8.wrap a = a := by
  simp only [IntKind.wrap, IntKind.bits, IntKind.signed, Bool.true_and, Bool.false_and]
  split <;> (rename_i h; simp at h; try omega)
end nums

/-! ### places -/
section places
variable {h : Tr AObj}
theorem idx_cast (k : IntKind) (i n : Nat) : idxN (.int k (i : Int)) n = if i < n then .ok i else .no 36 "" := ifb_blt _ _ _ _
theorem idx_int (k : IntKind) (i : Int) (n : Nat) (h0 : 0 ≤ i) : idxN (.int k i) n = if i.toNat < n then .ok i.toNat else .no 36 "" := by
  obtain ⟨m, rfl⟩ : ∃ m : Nat, i = (m : Int) := ⟨i.toNat, by omega⟩
  rw [idx_cast]
  simp
theorem bnd_cast (k : IntKind) (i n : Nat) : bndN (.int k (i : Int)) n = if i ≤ n then .ok i else .no 37 "" := ifb_ble _ _ _ _
theorem bnd_int (k : IntKind) (i : Int) (n : Nat) (h0 : 0 ≤ i) : bndN (.int k i) n = if i.toNat ≤ n then .ok i.toNat else .no 37 "" := by
  obtain ⟨m, rfl⟩ : ∃ m : Nat, i = (m : Int) := ⟨i.toNat, by omega⟩
  rw [bnd_cast]
  simp
theorem indexStr_int (l : List UInt8) (k : IntKind) (i : Int) (h0 : 0 ≤ i) : pIndexStr l (.int k i) = (Rs.of 49 l[i.toNat]?).bind fun b => .ok (.int .u8 ((b.toNat : Nat) : Int)) := by
  obtain ⟨m, rfl⟩ : ∃ m : Nat, i = (m : Int) := ⟨i.toNat, by omega⟩
  show (Rs.of 49 (nth l m)).bind _ = _
  rw [nth_eq]
  rfl
theorem cut_all {l : List Value} {n : Nat} (h : l.length = n) : cutN l 0 n = some l := by
  subst h
  rw [cutN_eq, if_pos (by omega), List.drop_zero, List.take_length]
theorem one_all {l : List Value} (h : ∀ (i : Nat) (h : i < l.length), oneB (l[i]) = true) : l.all oneB = true := by
  rw [List.all_eq_true]
  intro x hx
  obtain ⟨i, hi, rfl⟩ := List.getElem_of_mem hx
  exact h i hi
theorem over_set (l : List Value) (o : Nat) (v : Value) (h : o < l.length) : l.take o ++ ([v] ++ l.drop (o + 1)) = l.set o v := by
  rw [List.set_eq_take_append_cons_drop, if_pos h]; rfl
theorem addA_eq (b o n : Nat) : addA ⟨b, o, none⟩ n = .ok ⟨b, o + n, none⟩ := rfl
theorem objCells_cells (l : List Value) (e : TypeId) (s : Nat) (b : Bool) (fz : Nat × Nat) : objCells (some (.cells l e s b fz)) = .ok l := rfl
theorem objCells_const (l : List Value) (e : TypeId) : objCells (some (.const l e)) = .ok l := rfl
theorem ptrR_ok (a : Addr) : ptrR (.ok a) = .ok (.pointer (some a)) := rfl
end places
/-! ### the end of a function -/
section ends
variable {F : Func} {T : Tr Value} {n : Nat} {s : St}
noncomputable def resR (P : Program) (T : Tr Value) (s : St) (r : ResultVar) : Rs Value :=
  match r with
  | .tmp t => Rs.of 100 (T.get t)
  | .cell x t => (Rs.of 100 (T.get x)).bind fun p => pLoad P s.heap t p
def tup (vs : List Value) : Value :=
  match vs with
  | [v] => v
  | vs => .tuple ⟨vs⟩
theorem aResults_eq {rs : List ResultVar} {vs : List Value} (hr : F.results.toList = rs) (hv : mapR (resR P T s) rs = .ok vs) : aResults P F ⟨T, n, []⟩ s = .ok (tup vs) := by
  subst hr
  have e : aResults P F ⟨T, n, []⟩ s = (mapR (resR P T s) F.results.toList).bind fun vs => match vs with | [v] => .ok v | vs => .ok (.tuple ⟨vs⟩) := by
    unfold aResults
    have : (fun r : ResultVar => (match r with
      | .tmp t => Rs.of 100 (T.get t)
      | .cell x t => (Rs.of 100 (T.get x)).bind fun p => pLoad P s.heap t p : Rs Value)) = resR P T s := by
      funext r
      cases r <;> rfl
    rw [← this]
    rfl
  rw [e, hv]
  show (match vs with | [v] => Rs.ok v | vs => Rs.ok (Value.tuple ⟨vs⟩)) = _
  match vs with
  | [] => rfl
  | [_] => rfl
  | _ :: _ :: _ => rfl
theorem Body.ret {rs : List ResultVar} {vs : List Value} (hr : F.results.toList = rs) (hv : mapR (resR P T s) rs = .ok vs) (h : Q (.val (tup vs) s)) : Body P F Q (.at (.jump .ret) ⟨T, n, []⟩ s) := (Body_ret _ _ _).2 ⟨_, aResults_eq hr hv, h⟩
theorem Body.end {rs : List ResultVar} {vs : List Value} (hr : F.results.toList = rs) (hv : mapR (resR P T s) rs = .ok vs) (h : Q (.val (tup vs) s)) : Body P F Q (.at .normal ⟨T, n, []⟩ s) := (Body_normal _ _ _).2 ⟨_, aResults_eq hr hv, h⟩
theorem res_tmp (t : Tmp) : resR P T s (.tmp t) = Rs.of 100 (T.get t) := rfl
theorem res_cell (x : Tmp) (t : TypeId) : resR P T s (.cell x t) = (Rs.of 100 (T.get x)).bind fun p => pLoad P s.heap t p := rfl
theorem res_one {t : Tmp} {v : Value} (h : T.get t = some v) : mapR (resR P T s) [.tmp t] = .ok [v] := by
  simp only [mapR_cons, mapR_nil, res_tmp, h, of_some, bind_ok]
end ends
end
end Go.Proofs.YtihplijjkcdcjaaGreatDoor.Abs

/-
  SUMMARIES OUT OF THE EVALUATOR'S OWN WALK: what is shown of a function at the evaluator serves in the place of its walk. What it leaves behind may be forgotten.
-/
namespace Go.Proofs.YtihplijjkcdcjaaGreatDoor.Abs
section
set_option linter.unusedVariables false
variable {P : Program} {φ ψ : Phi} {w w' : World}

/-- no block beyond the next one -/
def St.wf (s : St) : Prop := ∀ b x, s.heap.get b = some x → b < s.next
theorem SF.wf {s : St} (h : SRel φ s w) : s.wf := fun b x hb => by
  obtain ⟨L, hL, _⟩ := h.mem.obj b x hb
  exact SF.lt h hL
/-- a state that knows less -/
def St.below (s1 s : St) : Prop := (∀ b x, s1.heap.get b = some x → s.heap.get b = some x) ∧ s.next ≤ s1.next
theorem St.below_refl (s : St) : s.below s := ⟨fun _ _ h => h, Nat.le_refl _⟩
theorem Post.forget {st s1 s' : St} (h : Post φ st w ψ s' w') (hb : s1.below s') : Post φ st w ψ s1 w' := by
  obtain ⟨h1, h2⟩ := hb
  refine ⟨⟨⟨fun b c x y L M hb hc => h.rel.mem.inj b c x y L M (h1 _ _ hb) (h1 _ _ hc), fun b x hb => h.rel.mem.obj b x (h1 _ _ hb)⟩, fun b hb => h.rel.fresh b (Nat.le_trans h2 hb), h.rel.globals⟩, h.le, ?_, Nat.le_trans h.next h2, h.names⟩
  exact ⟨h.fr.size, h.fr.os, h.fr.tape, h.fr.output, fun k hk hn => ⟨(h.fr.rest k hk hn).1, fun b x L hb => (h.fr.rest k hk hn).2 b x L (h1 _ _ hb)⟩⟩
/-- what is shown at the evaluator, by the values and states that a summary says -/
def EvSays (P : Program) (Sm : Summ) (f : FuncId) (g : List Value → St → Rs (Value × St)) : Prop :=
  ∀ args s v s1, s.wf → g args s = .ok (v, s1) → Ev P Sm (.inv (.fn (.func f) #[]) args s) fun r => ∃ s', r = .val v s' ∧ s1.below s'
theorem smOk_add {Sm : Summ} {f : FuncId} {g : List Value → St → Rs (Value × St)} (hmix : P.follows .mixedOrders = true) (hSm : SmOk P Sm) (hNum : NumOk P) (h : EvSays P Sm f g) : SmOk P (Sm.add f g) := by
  intro k g' hk args s v s1 hg fr cs φ w args' hS hl
  unfold Summ.add at hk
  rw [ifb_eq] at hk
  split at hk
  · rename_i e
    have e := Nat.eq_of_beq_eq_true e
    subst e
    cases hk
    obtain ⟨N, r, h1, s', rfl, h2⟩ := h args s v s1 hS.wf hg
    obtain ⟨v2, s2, ψ, n, w1, v', w', q1, q2, q3, q4, q5⟩ := (run_ok hmix hSm hNum N).inv _ _ _ _ (h1 N (Nat.le_refl _)) .normal fr cs (.inl rfl) (.inl rfl) φ w _ args' hS (.fn (.func k) (.nil φ)) hl
    cases q1
    refine ⟨ψ, n, w1, v', w', ?_, q3, q4.forget h2, q5⟩
    simpa [invoke] using q2
  · exact hSm k g' hk args s v s1 hg fr cs φ w args' hS hl
end
end Go.Proofs.YtihplijjkcdcjaaGreatDoor.Abs

/-
  THE EVALUATOR'S OWN WALK: slices, and what is put behind them. (Rules; no program in sight.)
-/
namespace Go.Proofs.YtihplijjkcdcjaaGreatDoor.Abs
section
set_option linter.unusedVariables false
variable {P : Program}

/-- nothing that was there has turned -/
structure Keep (s s' : St) : Prop where
  wf : s'.wf
  next : s.next ≤ s'.next
  old : ∀ b x, s.heap.get b = some x → s'.heap.get b = some x
theorem Keep.refl {s : St} (h : s.wf) : Keep s s := ⟨h, Nat.le_refl _, fun _ _ h => h⟩
theorem Keep.trans {s s' s'' : St} (h : Keep s s') (k : Keep s' s'') : Keep s s'' := ⟨k.wf, Nat.le_trans h.next k.next, fun b x e => k.old b x (h.old b x e)⟩
theorem Keep.below {s s' : St} (h : Keep s s') : s.below s' → True := fun _ => trivial
theorem Keep.sub {s s' : St} (h : Keep s s') : (⟨s.heap, s'.next⟩ : St).below s' := ⟨h.old, Nat.le_refl _⟩
theorem wf_new {s : St} (h : s.wf) (x : AObj) : (⟨s.heap.set s.next x, s.next + 1⟩ : St).wf := fun b y e => by
  rcases Tr.get_set e with ⟨rfl, _⟩ | ⟨_, e⟩
  · exact Nat.lt_succ_self _
  · exact Nat.lt_succ_of_lt (h b y e)
theorem Keep.new {s s' : St} (h : Keep s s') (x : AObj) : Keep s ⟨s'.heap.set s'.next x, s'.next + 1⟩ :=
  ⟨wf_new h.wf x, Nat.le_succ_of_le h.next, fun b y e => by
    have e1 := h.old b y e
    rw [get_other _ _ _ _ (Nat.ne_of_lt (h.wf b y e1))]
    exact e1⟩
/-- a block that is younger than the first state may turn -/
theorem Keep.set {s s' : St} (h : Keep s s') {b : Nat} (h1 : s.next ≤ b) (h2 : b < s'.next) (hs : s.wf) (x : AObj) : Keep s ⟨s'.heap.set b x, s'.next⟩ :=
  ⟨fun c y e => by
    rcases Tr.get_set e with ⟨rfl, _⟩ | ⟨_, e⟩
    · exact h2
    · exact h.wf c y e, h.next, fun c y e => by
    have := hs c y e
    rw [get_other _ _ _ _ (by omega)]
    exact h.old c y e⟩
theorem Keep.del {s s' : St} (h : Keep s s') {b : Nat} (h1 : s.next ≤ b) (hs : s.wf) : Keep s ⟨s'.heap.del b, s'.next⟩ :=
  ⟨fun c y e => h.wf c y (Tr.get_del e).2, h.next, fun c y e => by
    have := hs c y e
    have e1 := h.old c y e
    exact (Tr.get_put_ne (by omega)).trans e1⟩

/-- a slice that may be put something behind: none; without room; or one's own, whole -/
inductive Buf (st : St) (e : TypeId) (sz : Nat) : Value → Nat → List Value → Prop where
  | nil : Buf st e sz (.slice none 0 0) 0 []
  | full {a : Addr} {n : Nat} {cs : List Value} (h : srcCells st.heap sz (.slice (some a) n n) = .ok (n, cs)) : Buf st e sz (.slice (some a) n n) n cs
  | open_ {b n : Nat} {cs : List Value} (hb : st.heap.get b = some (.cells cs e sz true (0, 0))) (hn : cs.length = n * sz) : Buf st e sz (.slice (some ⟨b, 0, none⟩) n open_) n cs
/-- the block that a slice owns -/
def owns (v : Value) (b : Nat) : Prop := ∃ n, v = .slice (some ⟨b, 0, none⟩) n open_

theorem limit_ok {s : Value} {a : Option Addr} {n c m b : Nat} (hs : s = .slice a n c) (h1 : n + m ≤ 140737488355328) (h2 : (2 * (n + m) + 192) * b ≤ 281474976710656) : appLim s m b = true := by
  subst hs
  simp only [appLim, Bool.and_eq_true, Nat.ble_eq]
  exact ⟨h1, h2⟩
/-- AN APPEND -/
theorem append_buf {st : St} {t e : TypeId} {xt : List TypeId} {sz by_ : Nat} {z v x : Value} {n m : Nat} {cs nw : List Value} (hwf : st.wf) (hu : P.underlying t = some (.slice e)) (hsz : szT P e = .ok sz) (hby : bytesT P e = .ok by_) (hz : zeroT P e = .ok z) (hzl : (cellsOf z).length = sz) (h0 : 0 < sz)
    (hv : Buf st e sz v n cs) (hn : n < open_) (hx : appSrc P st.heap sz (cellsOf z) xt x = .ok (m, nw)) (hnw : nw.length = m * sz) (hone : nw.all oneB = true) (hm : 0 < m) (h1 : n + m ≤ 140737488355328) (h2 : (2 * (n + m) + 192) * by_ ≤ 281474976710656) :
    ∃ st', (∀ {β : Type} (k : Value → St → Rs β), aAppend P st (t :: xt) v x k = k (.slice (some ⟨st.next, 0, none⟩) (n + m) open_) st') ∧ st'.heap.get st.next = some (.cells (cs ++ nw) e sz true (0, 0)) ∧ st'.next = st.next + 1 ∧ st'.wf ∧
      ∀ b y, st.heap.get b = some y → ¬ owns v b → st'.heap.get b = some y := by
  have hu' : undT P t = .ok (.slice e) := by rw [undT_eq, hu]; rfl
  have hm0 : Nat.beq m 0 = false := by
    cases m with
    | zero => omega
    | succ m => rfl
  have hsz0 : Nat.beq sz 0 = false := by
    cases sz with
    | zero => omega
    | succ m => rfl
  have start : ∀ {β : Type} (a : Option Addr) (c : Nat) (k : Value → St → Rs β), v = .slice a n c → aAppend P st (t :: xt) v x k = appTo st e sz m nw v k := by
    intro β a c k hs
    show (undT P t).bind _ = _
    rw [hu']
    show (szT P e).bind _ = _
    rw [hsz]
    show (bytesT P e).bind _ = _
    rw [hby]
    show (zeroT P e).bind _ = _
    rw [hz]
    show (appSrc P st.heap sz (cellsOf z) xt x).bind _ = _
    rw [hx]
    show ifb (appLim v m by_ && Nat.beq (lenN (cellsOf z)) sz) (ifb (Nat.beq m 0) (k v st) (appTo st e sz m nw v k)) _ = _
    rw [limit_ok hs h1 h2, lenN_eq, hzl, Nat.beq_refl, hm0]
    rfl
  have fresh : ∀ {β : Type} (l : List Value) (j : Nat) (k : Value → St → Rs β), opened st e sz j l k = k (.slice (some ⟨st.next, 0, none⟩) j open_) ⟨st.heap.set st.next (.cells l e sz true (0, 0)), st.next + 1⟩ := by
    intro β l j k
    unfold opened
    rw [hsz0]
    show st.new _ _ = _
    rw [St.new_eq]
  have other : ∀ (l : List Value) (b : Nat) (y : AObj), st.heap.get b = some y → (st.heap.set st.next (.cells l e sz true (0, 0))).get b = some y := fun l b y hb => by
    rw [get_other _ _ _ _ (Nat.ne_of_lt (hwf b y hb))]
    exact hb
  cases hv with
  | nil =>
    refine ⟨⟨st.heap.set st.next (.cells nw e sz true (0, 0)), st.next + 1⟩, fun k => ?_, get_same _ _ _, rfl, wf_new hwf _, fun b y hb _ => other _ b y hb⟩
    rw [start _ _ k rfl, Nat.zero_add]
    exact fresh _ _ _
  | @full a _ _ hsrc =>
    refine ⟨⟨st.heap.set st.next (.cells (cs ++ nw) e sz true (0, 0)), st.next + 1⟩, fun k => ?_, get_same _ _ _, rfl, wf_new hwf _, fun b y hb _ => other _ b y hb⟩
    rw [start _ _ k rfl]
    obtain ⟨b, o, sp⟩ := a
    cases sp with
    | some _ => cases hsrc
    | none =>
      show ifb (Nat.blt n open_) (ifb (Nat.ble (n + m) n) (turn st b (o + n * sz) nw (k (sliceTo b o (n + m) n))) ((srcCells st.heap sz (.slice (some ⟨b, o, none⟩) n n)).bind fun old => opened st e sz (n + m) (old.2 ++ nw) k)) (appOpen st e sz b o n m nw k (st.heap.get b)) = _
      rw [ifb_blt, if_pos hn, ifb_ble, if_neg (by omega), hsrc]
      exact fresh _ _ _
  | @open_ b _ _ hb hn2 =>
    refine ⟨⟨(st.heap.del b).set st.next (.cells (cs ++ nw) e sz true (0, 0)), st.next + 1⟩, fun k => ?_, get_same _ _ _, rfl, fun c y hc => ?_, fun c y hc hno => ?_⟩
    · rw [start _ _ k rfl]
      show ifb (Nat.blt open_ open_) (ifb (Nat.ble (n + m) open_) (turn st b (0 + n * sz) nw (k (sliceTo b 0 (n + m) open_))) ((srcCells st.heap sz (.slice (some ⟨b, 0, none⟩) n open_)).bind fun old => opened st e sz (n + m) (old.2 ++ nw) k)) (appOpen st e sz b 0 n m nw k (st.heap.get b)) = _
      rw [ifb_blt, if_neg (Nat.lt_irrefl _), hb]
      show ifb (Nat.beq e e && Nat.beq sz sz && Nat.beq (0 % sz) 0) (appOpen2 st e sz b 0 n m nw cs (0, 0) k) (.no 79 "") = _
      rw [Nat.beq_refl, Nat.beq_refl, Nat.zero_mod]
      show appOpen2 st e sz b 0 n m nw cs (0, 0) k = _
      unfold appOpen2
      have hmsz : 0 < m * sz := Nat.mul_pos hm h0
      rw [ifb_ble, if_neg (by rw [lenN_eq, hn2, Nat.add_mul]; omega)]
      show ifb (nw.all oneB) ((Rs.of 79 (cutN cs 0 (n * sz))).bind fun old => st.kill b fun st => st.new (.cells (old ++ nw) e sz true (0, 0)) fun b => k (sliceTo b 0 (n + m) open_)) (.no 79 "") = _
      rw [hone, cut_all hn2]
      show st.kill b (fun st => st.new (.cells (cs ++ nw) e sz true (0, 0)) fun b => k (sliceTo b 0 (n + m) open_)) = _
      rw [St.kill_eq, St.new_eq]
      rfl
    · rcases Tr.get_set hc with ⟨rfl, _⟩ | ⟨_, hc⟩
      · exact Nat.lt_succ_self _
      · exact Nat.lt_succ_of_lt (hwf c y (Tr.get_del hc).2)
    · rw [get_other _ _ _ _ (Nat.ne_of_lt (hwf c y hc))]
      rw [show (st.heap.del b).get c = st.heap.get c from Tr.get_put_ne (fun e => hno ⟨n, by rw [e]⟩)]
      exact hc
theorem srcCells_mono {h h' : Tr AObj} (hk : ∀ b x, h.get b = some x → h'.get b = some x) {sz : Nat} {v : Value} {q : Nat × List Value} (e : srcCells h sz v = .ok q) : srcCells h' sz v = .ok q := by
  unfold srcCells at e ⊢
  split at e <;> first | (exact e) | skip
  split at e <;> first | (cases e; done) | skip
  · rename_i hb
    rw [hk _ _ hb]
    exact e
  · rename_i hb
    rw [hk _ _ hb]
    exact e
theorem src_cells {h : Tr AObj} {sz b n c : Nat} {cs : List Value} {e : TypeId} {s : Nat} {opn : Bool} {fz : Nat × Nat} (hb : h.get b = some (.cells cs e s opn fz)) (hn : cs.length = n * sz) : srcCells h sz (.slice (some ⟨b, 0, none⟩) n c) = .ok (n, cs) := by
  show (match h.get b with
    | some (.cells l _ _ _ _) => (Rs.of 75 (cutN l 0 (n * sz))).bind fun cs => Rs.ok (n, cs)
    | some (.const l _) => (Rs.of 75 (cutN l 0 (n * sz))).bind fun cs => Rs.ok (n, cs)
    | _ => .no 75 "") = _
  rw [hb]
  show (Rs.of 75 (cutN cs 0 (n * sz))).bind _ = _
  rw [cut_all hn]
  rfl
theorem Buf.mono {s s' : St} {e : TypeId} {sz : Nat} {v : Value} {n : Nat} {cs : List Value} (hk : ∀ b x, s.heap.get b = some x → s'.heap.get b = some x) (h : Buf s e sz v n cs) : Buf s' e sz v n cs := by
  cases h with
  | nil => exact .nil
  | full h => exact .full (srcCells_mono hk h)
  | open_ hb hn => exact .open_ (hk _ _ hb) hn
theorem Buf.src {s : St} {e : TypeId} {sz : Nat} {v : Value} {n : Nat} {cs : List Value} (h : Buf s e sz v n cs) : srcCells s.heap sz v = .ok (n, cs) ∧ ∃ a c, v = .slice a n c := by
  cases h with
  | nil => exact ⟨rfl, _, _, rfl⟩
  | full h => exact ⟨h, _, _, rfl⟩
  | open_ hb hn => exact ⟨src_cells hb hn, _, _, rfl⟩
theorem Keep.append {s s' st' : St} {v : Value} (h : Keep s s') (h1 : st'.next = s'.next + 1) (h2 : st'.wf) (h3 : ∀ b y, s'.heap.get b = some y → ¬ owns v b → st'.heap.get b = some y) (hs : s.wf) (ho : ∀ b, owns v b → s.next ≤ b) : Keep s st' :=
  ⟨h2, by have := h.next; omega, fun b y e => h3 b y (h.old b y e) fun hx => by have := ho b hx; have := hs b y e; omega⟩
end
end Go.Proofs.YtihplijjkcdcjaaGreatDoor.Abs

/-
  THE EVALUATOR'S OWN WALK: regions whose order is open, new blocks, comparisons, maps. (Rules; no program in sight.)
-/
namespace Go.Proofs.YtihplijjkcdcjaaGreatDoor.Abs
section
set_option linter.unusedVariables false
set_option linter.unusedSimpArgs false
variable {P : Program} {Sm : Summ} {fn : FuncId} {rd : Option Nat} {Q : Ans → Prop}

/-! ### regions whose order is open -/
theorem Ev.goS {ops : Array Oper} {i b : Nat} {l : List PStep} {o : Oper} {a : Ac} {s : St} (hi : ops[i]? = some o) (hg : o.guard = none) (hd : okDst a o.dst = true) (hc : isCallV o.op = false)
    (h : EvO (fun ih k => doOp P ih rd o a.ev s k) fun v s' => Ev P Sm (.steps fn rd ops l b (a.upd o.dst v) s') Q) : Ev P Sm (.steps fn rd ops (.go i :: l) b a s) Q := by
  obtain ⟨v, s', h1, h2⟩ := h
  have h1 : ∀ ih k, doOp P ih rd o a.ev s k = k v [] s' := h1
  rw [Ev_steps_cons]
  have e : (fun ih => onSteps P ih fn rd ops (.go i :: l) b a s) = fun ih => ih (.steps fn rd ops l b (a.upd o.dst v) s') := by
    funext ih
    show (Rs.of 118 ops[i]?).bind _ = _
    rw [hi]
    show (wantedA ops o a).bind _ = _
    have hw : wantedA ops o a = .ok true := by unfold wantedA; rw [hg]
    rw [hw]
    show onRec (goPut o a fun a s => ih (.steps fn rd ops l b a s)) (doOp P ih rd o a.ev s recK) = _
    rw [h1]
    show a.put o.dst v (fun a => ih (.steps fn rd ops l b a s')) = _
    rw [Ac.put_eq hd]
  rw [e]
  exact h2
theorem Ev.goY {ops : Array Oper} {i b : Nat} {l : List PStep} {o : Oper} {a : Ac} {s : St} {j : Nat} {want : Bool} {t : Tmp} (hi : ops[i]? = some o) (hg : o.guard = some (j, want)) (hj : (ops[j]?).bind (·.dst) = some t) (ht : a.tmps.get t = some (.bool want)) (hd : okDst a o.dst = true) (hc : isCallV o.op = false)
    (h : EvO (fun ih k => doOp P ih rd o a.ev s k) fun v s' => Ev P Sm (.steps fn rd ops l b (a.upd o.dst v) s') Q) : Ev P Sm (.steps fn rd ops (.go i :: l) b a s) Q := by
  obtain ⟨v, s', h1, h2⟩ := h
  have h1 : ∀ ih k, doOp P ih rd o a.ev s k = k v [] s' := h1
  rw [Ev_steps_cons]
  have e : (fun ih => onSteps P ih fn rd ops (.go i :: l) b a s) = fun ih => ih (.steps fn rd ops l b (a.upd o.dst v) s') := by
    funext ih
    show (Rs.of 118 ops[i]?).bind _ = _
    rw [hi]
    show (wantedA ops o a).bind _ = _
    have hw : wantedA ops o a = .ok true := by
      unfold wantedA
      rw [hg]
      show (Rs.of 105 (((ops[j]?).bind (·.dst)).bind a.tmps.get)).bind _ = _
      rw [hj]
      show (Rs.of 105 (a.tmps.get t)).bind _ = _
      rw [ht]
      cases want <;> rfl
    rw [hw]
    show onRec (goPut o a fun a s => ih (.steps fn rd ops l b a s)) (doOp P ih rd o a.ev s recK) = _
    rw [h1]
    show a.put o.dst v (fun a => ih (.steps fn rd ops l b a s')) = _
    rw [Ac.put_eq hd]
  rw [e]
  exact h2
theorem Ev.goN {ops : Array Oper} {i b : Nat} {l : List PStep} {o : Oper} {a : Ac} {s : St} {j : Nat} {want c : Bool} {t : Tmp} (hi : ops[i]? = some o) (hg : o.guard = some (j, want)) (hj : (ops[j]?).bind (·.dst) = some t) (ht : a.tmps.get t = some (.bool c)) (hb : (c == want) = false) (hd : okDst a o.dst = true)
    (h : Ev P Sm (.steps fn rd ops l b (a.upd o.dst undefV) s) Q) : Ev P Sm (.steps fn rd ops (.go i :: l) b a s) Q := by
  rw [Ev_steps_cons]
  have e : (fun ih => onSteps P ih fn rd ops (.go i :: l) b a s) = fun ih => ih (.steps fn rd ops l b (a.upd o.dst undefV) s) := by
    funext ih
    show (Rs.of 118 ops[i]?).bind _ = _
    rw [hi]
    show (wantedA ops o a).bind _ = _
    have hw : wantedA ops o a = .ok false := by
      unfold wantedA
      rw [hg]
      show (Rs.of 105 (((ops[j]?).bind (·.dst)).bind a.tmps.get)).bind _ = _
      rw [hj]
      show (Rs.of 105 (a.tmps.get t)).bind _ = _
      rw [ht]
      show Rs.ok (c == want) = _
      rw [hb]
    rw [hw]
    show a.put o.dst undefV (fun a => ih (.steps fn rd ops l b a s)) = _
    rw [Ac.put_eq hd]
  rw [e]
  exact h
theorem Ev.goCall {ops : Array Oper} {i b : Nat} {l : List PStep} {d : Option Tmp} {F : FuncId} {xs : Array Operand} {ats : Array TypeId} {ty : TypeId} {pos : String} {af : Array Edge} {a : Ac} {s : St} (hi : ops[i]? = some ⟨d, .call ⟨.value (.func F), xs, ats⟩, ty, pos, af, none⟩) (hd : okDst a d = true)
    (h : EvA (mapR a.ev xs.toList) fun args => Ev P Sm (.inv (.fn (.func F) #[]) args s) fun r => ∃ v s', r = .val v s' ∧ Ev P Sm (.steps fn rd ops l b (a.upd d v) s') Q) : Ev P Sm (.steps fn rd ops (.go i :: l) b a s) Q := by
  obtain ⟨args, hx, h⟩ := h
  rw [Ev_steps_cons]
  let o : Oper := ⟨d, .call ⟨.value (.func F), xs, ats⟩, ty, pos, af, none⟩
  have e : (fun ih => onSteps P ih fn rd ops (.go i :: l) b a s) = fun ih => onRec (goPut o a fun a s => ih (.steps fn rd ops l b a s)) (goInv2 recK (ih (.inv (.fn (.func F) #[]) args s))) := by
    funext ih
    show (Rs.of 118 ops[i]?).bind _ = _
    rw [hi]
    show onRec (goPut o a fun a s => ih (.steps fn rd ops l b a s)) ((mapR a.ev xs.toList).bind fun args => goInv ih s recK args (.func (.func F) #[] #[])) = _
    rw [hx]
    rfl
  rw [e]
  refine EvF.then (f := fun ih r => onRec (goPut o a fun a s => ih (.steps fn rd ops l b a s)) (goInv2 recK r)) h fun r hr => ?_
  obtain ⟨v, s', rfl, hr⟩ := hr
  show EvF P Sm (fun ih => a.put d v fun a => ih (.steps fn rd ops l b a s')) Q
  have e2 : (fun ih : Rq → Rs Ans => a.put d v fun a => ih (.steps fn rd ops l b a s')) = fun ih => ih (.steps fn rd ops l b (a.upd d v) s') := by
    funext ih
    rw [Ac.put_eq hd]
  rw [e2]
  exact hr
/-- a value that is held, and read again -/
def EvAg (o : Option Value) (v : Value) (p : Prop) : Prop := ∃ u, o = some u ∧ vEq2 u v = true ∧ p
theorem EvAg_some (u v : Value) (p : Prop) : EvAg (some u) v p ↔ (vEq2 u v = true ∧ p) := ⟨fun ⟨_, h, k⟩ => by cases h; exact k, fun h => ⟨u, rfl, h⟩⟩
/-- a value that is read again -/
theorem Ev.againS {ops : Array Oper} {i b : Nat} {l : List PStep} {o : Oper} {a : Ac} {s : St} {t : Tmp} (hi : ops[i]? = some o) (hg : o.guard = none) (hd : o.dst = some t)
    (h : EvA (pOp P s.heap o.op a.ev) fun v => EvAg (a.tmps.get t) v (Ev P Sm (.steps fn rd ops l b a s) Q)) : Ev P Sm (.steps fn rd ops (.again i :: l) b a s) Q := by
  obtain ⟨v, h1, u, h2, h3, h4⟩ := h
  rw [Ev_steps_cons]
  have e : (fun ih => onSteps P ih fn rd ops (.again i :: l) b a s) = fun ih => ih (.steps fn rd ops l b a s) := by
    funext ih
    show (Rs.of 118 ops[i]?).bind _ = _
    rw [hi]
    show (wantedA ops o a).bind _ = _
    have hw : wantedA ops o a = .ok true := by unfold wantedA; rw [hg]
    rw [hw]
    show onAgain ih fn rd ops l b a s o (pOp P s.heap o.op a.ev) = _
    rw [h1]
    unfold onAgain
    rw [hd]
    show (match Rs.ok v, a.tmps.get t with
      | .ok v, some u => ifb (vEq2 u v) (ih (.steps fn rd ops l b a s)) (.no 119 o.pos)
      | _, _ => .no 119 o.pos) = _
    rw [h2]
    show ifb (vEq2 u v) _ _ = _
    rw [h3]
    rfl
  rw [e]
  exact h4
theorem Ev.newS {ops : Array Oper} {i j b : Nat} {l : List PStep} {o : Oper} {a : Ac} {s : St} (hi : ops[i]? = some o) (hg : o.guard = none) (hd : okDst a o.dst = true)
    (h : EvA (aOp P o.op a.ev) fun q => Ev P Sm (.steps fn rd ops l b (a.upd o.dst (q.2 (b + j))) ⟨s.heap.set (b + j) q.1, s.next⟩) Q) : Ev P Sm (.steps fn rd ops (.new i j :: l) b a s) Q := by
  obtain ⟨q, h1, h4⟩ := h
  rw [Ev_steps_cons]
  have e : (fun ih => onSteps P ih fn rd ops (.new i j :: l) b a s) = fun ih => ih (.steps fn rd ops l b (a.upd o.dst (q.2 (b + j))) ⟨s.heap.set (b + j) q.1, s.next⟩) := by
    funext ih
    show (Rs.of 118 ops[i]?).bind _ = _
    rw [hi]
    show (wantedA ops o a).bind _ = _
    have hw : wantedA ops o a = .ok true := by unfold wantedA; rw [hg]
    rw [hw]
    show (aOp P o.op a.ev).bind _ = _
    rw [h1]
    show natK (b + j) (fun n => s.put n q.1 fun s => a.put o.dst (q.2 n) fun a => ih (.steps fn rd ops l b a s)) = _
    rw [natK_eq, St.put_eq, Ac.put_eq hd]
  rw [e]
  exact h4
theorem vEq2_int (k : IntKind) (a : Int) : vEq2 (.int k a) (.int k a) = true := by simp [vEq2, vEq]
theorem vEq2_bool (a : Bool) : vEq2 (.bool a) (.bool a) = true := by simp [vEq2, vEq]
theorem vEq2_str (a : ByteArray) : vEq2 (.string a) (.string a) = true := by simp [vEq2, vEq, bEq_eq]
theorem vEq2_ptr (b o : Nat) : vEq2 (.pointer (some ⟨b, o, none⟩)) (.pointer (some ⟨b, o, none⟩)) = true := by simp [vEq2, vEq]
theorem vEq2_slice (b o n c : Nat) : vEq2 (.slice (some ⟨b, o, none⟩) n c) (.slice (some ⟨b, o, none⟩) n c) = true := by simp [vEq2, vEq]
theorem vEq2_nils (n c : Nat) : vEq2 (.slice none n c) (.slice none n c) = true := by simp [vEq2, vEq]
theorem vEq2_map (r : Nat) : vEq2 (.map (some r)) (.map (some r)) = true := by simp [vEq2, vEq]
theorem ev_is {α : Type} {a u : α} {K : α → Prop} : (∃ x, some a = some x ∧ K x) ↔ K a := ⟨fun ⟨_, h, k⟩ => by cases h; exact k, fun h => ⟨a, rfl, h⟩⟩

/-! ### forks -/
/-- a place that holds true or false -/
def EvG (o : Option Value) (K : Bool → Prop) : Prop := ∃ b, o = some (.bool b) ∧ K b
theorem EvG_some (b : Bool) (K : Bool → Prop) : EvG (some (.bool b)) K ↔ K b := ⟨fun ⟨_, h, k⟩ => by cases h; exact k, fun h => ⟨b, rfl, h⟩⟩
/-- to be worked out next -/
def Nx (p : Prop) : Prop := p
theorem Nx.go {p : Prop} (h : p) : Nx p := h
theorem EvO.nx {F : (Rq → Rs Ans) → Kn → Rs Ans} {K : Value → St → Prop} (h : Nx (EvO F K)) : EvO F K := h
theorem EvA.nx {α : Type} {x : Rs α} {K : α → Prop} (h : Nx (EvA x K)) : EvA x K := h
theorem EvO.again {F : (Rq → Rs Ans) → Kn → Rs Ans} {K : Value → St → Prop} (h : EvO F K) : EvO F K := h
theorem EvA.again {α : Type} {x : Rs α} {K : α → Prop} (h : EvA x K) : EvA x K := h
theorem wanted_of {ops : Array Oper} {o : Oper} {a : Ac} {j : Nat} {want b : Bool} {t : Tmp} (hg : o.guard = some (j, want)) (hj : (ops[j]?).bind (·.dst) = some t) (ht : a.tmps.get t = some (.bool b)) : wantedA ops o a = .ok (b == want) := by
  unfold wantedA
  rw [hg]
  show (Rs.of 105 (((ops[j]?).bind (·.dst)).bind a.tmps.get)).bind _ = _
  rw [hj]
  show (Rs.of 105 (a.tmps.get t)).bind _ = _
  rw [ht]
  rfl
theorem bool_split {b want : Bool} {A B : Prop} (h : (b = want → A) ∧ (b = (!want) → B)) : ((b == want) = true → A) ∧ ((b == want) = false → B) :=
  ⟨fun e => h.1 (by simpa using e), fun e => h.2 (by cases b <;> cases want <;> simp_all)⟩
theorem Ev.stepG {ops : Array Oper} {o : Oper} {l : List Oper} {a : Ac} {s : St} {j : Nat} {want : Bool} {t : Tmp} (hg : o.guard = some (j, want)) (hj : (ops[j]?).bind (·.dst) = some t) (hd : okDst a o.dst = true) (hc : isCallV o.op = false)
    (h : EvG (a.tmps.get t) fun b => (b = want → EvO (fun ih k => doOp P ih rd o a.ev s k) fun v s' => Ev P Sm (.run fn rd ops l (a.upd o.dst v) s') Q) ∧ (b = (!want) → Ev P Sm (.run fn rd ops l (a.upd o.dst undefV) s) Q)) : Ev P Sm (.run fn rd ops (o :: l) a s) Q := by
  obtain ⟨b, h1, h2⟩ := h
  have hw := wanted_of hg hj h1
  obtain ⟨h3, h4⟩ := bool_split h2
  cases hb : (b == want) with
  | true =>
    rw [hb] at hw
    exact Ev.stepIf hw hd (h3 hb)
  | false =>
    rw [hb] at hw
    exact Ev.opNot hw hd (h4 hb)
theorem Ev.goG {ops : Array Oper} {i b : Nat} {l : List PStep} {o : Oper} {a : Ac} {s : St} {j : Nat} {want : Bool} {t : Tmp} (hi : ops[i]? = some o) (hg : o.guard = some (j, want)) (hj : (ops[j]?).bind (·.dst) = some t) (hd : okDst a o.dst = true) (hc : isCallV o.op = false)
    (h : EvG (a.tmps.get t) fun c => (c = want → EvO (fun ih k => doOp P ih rd o a.ev s k) fun v s' => Ev P Sm (.steps fn rd ops l b (a.upd o.dst v) s') Q) ∧ (c = (!want) → Ev P Sm (.steps fn rd ops l b (a.upd o.dst undefV) s) Q)) : Ev P Sm (.steps fn rd ops (.go i :: l) b a s) Q := by
  obtain ⟨c, h1, h2, h3⟩ := h
  by_cases hb : c = want
  · subst hb
    exact Ev.goY hi hg hj h1 hd hc (h2 rfl)
  · have hn : c = !want := by cases c <;> cases want <;> simp_all
    exact Ev.goN hi hg hj h1 (by subst hn; cases want <;> rfl) hd (h3 hn)
/-- a call under a guard -/
theorem Ev.callG {ops : Array Oper} {d : Option Tmp} {F : FuncId} {xs : Array Operand} {ats : Array TypeId} {ty : TypeId} {pos : String} {af : Array Edge} {l : List Oper} {a : Ac} {s : St} {j : Nat} {want : Bool} {t : Tmp} (hj : (ops[j]?).bind (·.dst) = some t) (hd : okDst a d = true)
    (h : EvG (a.tmps.get t) fun b => (b = want → EvA (mapR a.ev xs.toList) fun args => Ev P Sm (.inv (.fn (.func F) #[]) args s) fun r => ∃ v s', r = .val v s' ∧ Ev P Sm (.run fn rd ops l (a.upd d v) s') Q) ∧ (b = (!want) → Ev P Sm (.run fn rd ops l (a.upd d undefV) s) Q)) :
    Ev P Sm (.run fn rd ops (⟨d, .call ⟨.value (.func F), xs, ats⟩, ty, pos, af, some (j, want)⟩ :: l) a s) Q := by
  obtain ⟨b, h1, h2⟩ := h
  have hw := wanted_of (o := ⟨d, .call ⟨.value (.func F), xs, ats⟩, ty, pos, af, some (j, want)⟩) rfl hj h1
  obtain ⟨h3, h4⟩ := bool_split h2
  cases hb : (b == want) with
  | true =>
    rw [hb] at hw
    obtain ⟨args, hx, h⟩ := h3 hb
    let o : Oper := ⟨d, .call ⟨.value (.func F), xs, ats⟩, ty, pos, af, some (j, want)⟩
    rw [Ev_run_cons]
    have e : (fun ih => onRun P ih fn rd ops (o :: l) a s) = fun ih => goInv2 (goPut o a fun a s => ih (.run fn rd ops l a s)) (ih (.inv (.fn (.func F) #[]) args s)) := by
      funext ih
      show (wantedA ops o a).bind _ = _
      rw [hw]
      show (mapR a.ev xs.toList).bind (fun args => goInv ih s _ args (.func (.func F) #[] #[])) = _
      rw [hx]
      rfl
    show EvF P Sm (fun ih => onRun P ih fn rd ops (o :: l) a s) Q
    rw [e]
    refine EvF.then (f := fun ih r => goInv2 (goPut o a fun a s => ih (.run fn rd ops l a s)) r) h fun r hr => ?_
    obtain ⟨v, s', rfl, hr⟩ := hr
    show EvF P Sm (fun ih => a.put d v fun a => ih (.run fn rd ops l a s')) Q
    have e2 : (fun ih : Rq → Rs Ans => a.put d v fun a => ih (.run fn rd ops l a s')) = fun ih => ih (.run fn rd ops l (a.upd d v) s') := by
      funext ih
      rw [Ac.put_eq hd]
    rw [e2]
    exact hr
  | false =>
    rw [hb] at hw
    exact Ev.opNot hw hd (h4 hb)
theorem Ev.condG {T : Tr Value} {n : Nat} {ds : List Deferred} {t : Tmp} {x y : Code} {s : St} (h : EvG (T.get t) fun b => (b = true → Ev P Sm (.code fn rd x ⟨T, n, ds⟩ s) Q) ∧ (b = false → Ev P Sm (.code fn rd y ⟨T, n, ds⟩ s) Q)) : Ev P Sm (.code fn rd (.cond (.tmp t) x y) ⟨T, n, ds⟩ s) Q := by
  obtain ⟨b, h1, h2, h3⟩ := h
  exact Ev.condT h1 h2 h3
theorem Ev.step' {ops : Array Oper} {o : Oper} {l : List Oper} {a : Ac} {s : St} (hg : o.guard = none) (hd : okDst a o.dst = true) (hc : isCallV o.op = false)
    (h : Nx (EvO (fun ih k => doOp P ih rd o a.ev s k) fun v s' => Ev P Sm (.run fn rd ops l (a.upd o.dst v) s') Q)) : Ev P Sm (.run fn rd ops (o :: l) a s) Q := Ev.step hg hd hc h
theorem Ev.stepG' {ops : Array Oper} {o : Oper} {l : List Oper} {a : Ac} {s : St} {j : Nat} {want : Bool} {t : Tmp} (hg : o.guard = some (j, want)) (hj : (ops.toList[j]?).bind (·.dst) = some t) (hd : okDst a o.dst = true) (hc : isCallV o.op = false)
    (h : Nx (EvG (a.tmps.get t) fun b => (b = want → Nx (EvO (fun ih k => doOp P ih rd o a.ev s k) fun v s' => Ev P Sm (.run fn rd ops l (a.upd o.dst v) s') Q)) ∧ (b = (!want) → Ev P Sm (.run fn rd ops l (a.upd o.dst undefV) s) Q))) : Ev P Sm (.run fn rd ops (o :: l) a s) Q := Ev.stepG hg (by simpa using hj) hd hc h
theorem Ev.condG' {T : Tr Value} {n : Nat} {ds : List Deferred} {t : Tmp} {x y : Code} {s : St} (h : Nx (EvG (T.get t) fun b => (b = true → Ev P Sm (.code fn rd x ⟨T, n, ds⟩ s) Q) ∧ (b = false → Ev P Sm (.code fn rd y ⟨T, n, ds⟩ s) Q))) : Ev P Sm (.code fn rd (.cond (.tmp t) x y) ⟨T, n, ds⟩ s) Q := Ev.condG h
theorem Ev.goS' {ops : Array Oper} {i b : Nat} {l : List PStep} {o : Oper} {a : Ac} {s : St} (hi : ops.toList[i]? = some o) (hg : o.guard = none) (hd : okDst a o.dst = true) (hc : isCallV o.op = false)
    (h : Nx (EvO (fun ih k => doOp P ih rd o a.ev s k) fun v s' => Ev P Sm (.steps fn rd ops l b (a.upd o.dst v) s') Q)) : Ev P Sm (.steps fn rd ops (.go i :: l) b a s) Q := Ev.goS (by simpa using hi) hg hd hc h
theorem Ev.goG' {ops : Array Oper} {i b : Nat} {l : List PStep} {o : Oper} {a : Ac} {s : St} {j : Nat} {want : Bool} {t : Tmp} (hi : ops.toList[i]? = some o) (hg : o.guard = some (j, want)) (hj : (ops.toList[j]?).bind (·.dst) = some t) (hd : okDst a o.dst = true) (hc : isCallV o.op = false)
    (h : Nx (EvG (a.tmps.get t) fun c => (c = want → Nx (EvO (fun ih k => doOp P ih rd o a.ev s k) fun v s' => Ev P Sm (.steps fn rd ops l b (a.upd o.dst v) s') Q)) ∧ (c = (!want) → Ev P Sm (.steps fn rd ops l b (a.upd o.dst undefV) s) Q))) : Ev P Sm (.steps fn rd ops (.go i :: l) b a s) Q := Ev.goG (by simpa using hi) hg (by simpa using hj) hd hc h
theorem Ev.againS' {ops : Array Oper} {i b : Nat} {l : List PStep} {o : Oper} {a : Ac} {s : St} {t : Tmp} (hi : ops.toList[i]? = some o) (hg : o.guard = none) (hd : o.dst = some t)
    (h : Nx (EvA (pOp P s.heap o.op a.ev) fun v => EvAg (a.tmps.get t) v (Ev P Sm (.steps fn rd ops l b a s) Q))) : Ev P Sm (.steps fn rd ops (.again i :: l) b a s) Q := Ev.againS (by simpa using hi) hg hd h
theorem Ev.newS' {ops : Array Oper} {i j b : Nat} {l : List PStep} {o : Oper} {a : Ac} {s : St} (hi : ops.toList[i]? = some o) (hg : o.guard = none) (hd : okDst a o.dst = true)
    (h : Nx (EvA (aOp P o.op a.ev) fun q => Ev P Sm (.steps fn rd ops l b (a.upd o.dst (q.2 (b + j))) ⟨s.heap.set (b + j) q.1, s.next⟩) Q)) : Ev P Sm (.steps fn rd ops (.new i j :: l) b a s) Q := Ev.newS (by simpa using hi) hg hd h
theorem Ev.callF' {ops : Array Oper} {d : Option Tmp} {F : FuncId} {xs : Array Operand} {ats : Array TypeId} {ty : TypeId} {pos : String} {af : Array Edge} {l : List Oper} {a : Ac} {s : St} (hd : okDst a d = true)
    (h : Nx (EvA (mapR a.ev xs.toList) fun args => Ev P Sm (.inv (.fn (.func F) #[]) args s) fun r => ∃ v s', r = .val v s' ∧ Ev P Sm (.run fn rd ops l (a.upd d v) s') Q)) : Ev P Sm (.run fn rd ops (⟨d, .call ⟨.value (.func F), xs, ats⟩, ty, pos, af, none⟩ :: l) a s) Q := Ev.callF hd h
theorem Ev.callG' {ops : Array Oper} {d : Option Tmp} {F : FuncId} {xs : Array Operand} {ats : Array TypeId} {ty : TypeId} {pos : String} {af : Array Edge} {l : List Oper} {a : Ac} {s : St} {j : Nat} {want : Bool} {t : Tmp} (hj : (ops.toList[j]?).bind (·.dst) = some t) (hd : okDst a d = true)
    (h : Nx (EvG (a.tmps.get t) fun b => (b = want → Nx (EvA (mapR a.ev xs.toList) fun args => Ev P Sm (.inv (.fn (.func F) #[]) args s) fun r => ∃ v s', r = .val v s' ∧ Ev P Sm (.run fn rd ops l (a.upd d v) s') Q)) ∧ (b = (!want) → Ev P Sm (.run fn rd ops l (a.upd d undefV) s) Q))) :
    Ev P Sm (.run fn rd ops (⟨d, .call ⟨.value (.func F), xs, ats⟩, ty, pos, af, some (j, want)⟩ :: l) a s) Q := Ev.callG (by simpa using hj) hd h
theorem Ev.goCall' {ops : Array Oper} {i b : Nat} {l : List PStep} {d : Option Tmp} {F : FuncId} {xs : Array Operand} {ats : Array TypeId} {ty : TypeId} {pos : String} {af : Array Edge} {a : Ac} {s : St} (hi : ops.toList[i]? = some ⟨d, .call ⟨.value (.func F), xs, ats⟩, ty, pos, af, none⟩) (hd : okDst a d = true)
    (h : Nx (EvA (mapR a.ev xs.toList) fun args => Ev P Sm (.inv (.fn (.func F) #[]) args s) fun r => ∃ v s', r = .val v s' ∧ Ev P Sm (.steps fn rd ops l b (a.upd d v) s') Q)) : Ev P Sm (.steps fn rd ops (.go i :: l) b a s) Q := Ev.goCall (by simpa using hi) hd h
theorem Body.retE {F : Func} {T : Tr Value} {n : Nat} {s : St} {rs : List ResultVar} (hr : F.results = ⟨rs⟩) (h : Nx (EvA (mapR (resR P T s) rs) fun vs => Q (.val (tup vs) s))) : Body P F Q (.at (.jump .ret) ⟨T, n, []⟩ s) := by
  obtain ⟨vs, h1, h2⟩ := h
  exact Body.ret (by rw [hr]) h1 h2
theorem Body.endE {F : Func} {T : Tr Value} {n : Nat} {s : St} {rs : List ResultVar} (hr : F.results = ⟨rs⟩) (h : Nx (EvA (mapR (resR P T s) rs) fun vs => Q (.val (tup vs) s))) : Body P F Q (.at .normal ⟨T, n, []⟩ s) := by
  obtain ⟨vs, h1, h2⟩ := h
  exact Body.end (by rw [hr]) h1 h2
theorem tup_one (v : Value) : tup [v] = v := rfl
theorem tup_two (v w : Value) : tup [v, w] = .tuple #[v, w] := rfl
theorem tup_three (v w x : Value) : tup [v, w, x] = .tuple #[v, w, x] := rfl
theorem tup_none : tup [] = .tuple #[] := rfl
theorem pick_bool {ρ : Operand → Rs Value} {x y : Operand} {c : Bool} : pPick ρ x y (.bool c) = if c = true then ρ x else ρ y := by cases c <;> rfl
theorem true_imp {p : Prop} : ((true = true) → p) ↔ p := by simp
theorem false_imp {p : Prop} : ((false = false) → p) ↔ p := by simp
theorem true_no {p : Prop} : ((true = false) → p) ↔ True := by simp
theorem false_no {p : Prop} : ((false = true) → p) ↔ True := by simp

/-! ### signs, shifts -/
theorem un_neg (k : IntKind) (n : Int) : aUn .neg (.int k n) = .ok (.int k (k.wrap (0 - n))) := rfl
theorem shl_u32 {h : Tr AObj} {t : TypeId} {c : Bool} (j : IntKind) (m : Nat) (b : Int) (h0 : 0 ≤ b) (h1 : b ≤ 64) : aBin P h .shl t c (.int .u32 (m : Int)) (.int j b) = .ok (.int .u32 ((m <<< b.toNat % 4294967296 : Nat) : Int)) := by
  obtain ⟨n, rfl⟩ : ∃ n : Nat, b = (n : Int) := ⟨b.toNat, by omega⟩
  show intR .u32 (ifb (Nat.ble n 64) _ _) = _
  rw [ifb_ble, if_pos (by omega)]
  show intK _ _ = _
  rw [intK_eq]
  rfl
theorem shl_u64 {h : Tr AObj} {t : TypeId} {c : Bool} (j : IntKind) (m : Nat) (b : Int) (h0 : 0 ≤ b) (h1 : b ≤ 64) : aBin P h .shl t c (.int .u64 (m : Int)) (.int j b) = .ok (.int .u64 ((m <<< b.toNat % 18446744073709551616 : Nat) : Int)) := by
  obtain ⟨n, rfl⟩ : ∃ n : Nat, b = (n : Int) := ⟨b.toNat, by omega⟩
  show intR .u64 (ifb (Nat.ble n 64) _ _) = _
  rw [ifb_ble, if_pos (by omega)]
  show intK _ _ = _
  rw [intK_eq]
  rfl

/-! ### values that are read again -/
section again_
variable {h : Tr AObj} {ρ : Operand → Rs Value}
theorem p_move (x : Operand) : pOp P h (.move x) ρ = ρ x := rfl
theorem p_assign (x : Operand) : pOp P h (.assign x) ρ = ρ x := rfl
theorem p_pick (c a b : Operand) : pOp P h (.pick c a b) ρ = (ρ c).bind (pPick ρ a b) := rfl
theorem p_binOp (op : BinOp) (t u : TypeId) (x y : Operand) : pOp P h (.binOp op t x y u) ρ = (ρ x).bind fun a => (ρ y).bind (aBin P h op t (isC x || isC y) a) := rfl
theorem p_unOp (op : UnOp) (t : TypeId) (x : Operand) : pOp P h (.unOp op t x) ρ = (ρ x).bind (aUn op) := rfl
theorem p_convert (t u : TypeId) (x : Operand) : pOp P h (.convert t u x) ρ = (ρ x).bind (pConv P h t u) := rfl
theorem p_iface (t : TypeId) (x : Operand) : pOp P h (.makeInterface t x) ρ = (ρ x).bind (pIface P t) := rfl
theorem p_fieldAddr (t : TypeId) (x : Operand) (f : Nat) : pOp P h (.fieldAddr t x f) ρ = (ρ x).bind (pFieldAddr P t f) := rfl
theorem p_field (t : TypeId) (x : Operand) (f : Nat) : pOp P h (.field t x f) ρ = (ρ x).bind (pField P t f) := rfl
theorem p_indexAddr (t : TypeId) (x i : Operand) : pOp P h (.indexAddr t x i) ρ = (ρ x).bind fun a => (ρ i).bind (pIndexAddr P t a) := rfl
theorem p_index (t : TypeId) (x i : Operand) : pOp P h (.index t x i) ρ = (ρ x).bind fun a => (ρ i).bind (pIndex P t a) := rfl
theorem p_extract (x : Operand) (i : Nat) : pOp P h (.extract x i) ρ = (ρ x).bind (pExtract i) := rfl
theorem p_nilCheck (x : Operand) : pOp P h (.nilCheck x) ρ = (ρ x).bind pNilCheck := rfl
theorem p_build (t : TypeId) (ps : Array (Nat × Operand)) : pOp P h (.build t ps) ρ = pBuild P t ps ρ := rfl
theorem p_load (t : TypeId) (x : Operand) : pOp P h (.load t x) ρ = (ρ x).bind (pLoad P h t) := rfl
theorem p_slice (t : TypeId) (x : Operand) (lo hi mx : Option Operand) : pOp P h (.slice t x lo hi mx) ρ = pSlice P h t x lo hi mx ρ := rfl
theorem p_lookup (t : TypeId) (m q : Operand) (ok : Bool) : pOp P h (.lookup t m q ok) ρ = (ρ m).bind fun m => (ρ q).bind (pLookup P h t ok m) := rfl
theorem p_builtin (b : Builtin) (xs : Array Operand) (ts : Array TypeId) : pOp P h (.call ⟨.builtin b, xs, ts⟩) ρ = (mapR ρ xs.toList).bind fun vs => pBuiltin P h b ts vs := rfl
end again_

/-! ### new blocks -/
noncomputable def litT (P : Program) (n : Nat) (ps : List (Nat × Value)) (u : TypeDesc) : Rs (AObj × (Nat → Value)) := match u with
  | .slice e => aSliceLit P e n ps
  | _ => .no 70 ""
theorem litT_ok (e : TypeId) (n : Nat) (ps : List (Nat × Value)) : litT P n ps (.slice e) = aSliceLit P e n ps := rfl
section new_
variable {ρ : Operand → Rs Value} {ih : Rq → Rs Ans} {s : St} {k : Kn} {d : Option Tmp} {ty : TypeId} {pos : String} {af : Array Edge} {g : Option (Nat × Bool)}
theorem a_alloc (t : TypeId) : aOp P (.alloc t) ρ = (zeroT P t).bind fun z => .ok (.cells (cellsOf z) t 0 false (0, 0), ptrTo) := rfl
theorem a_box (t : TypeId) (x : Operand) : aOp P (.box t x) ρ = (ρ x).bind fun v => .ok (.cells (cellsOf v) t 0 false (0, 0), ptrTo) := rfl
theorem a_lit (t : TypeId) (n : Nat) (ps : Array (Nat × Operand)) : aOp P (.buildSlice t n ps) ρ = (mapR (fun p : Nat × Operand => (ρ p.2).bind fun v => .ok (p.1, v)) ps.toList).bind fun ps => (undT P t).bind (litT P n ps) := by
  show (mapR _ _).bind _ = _
  congr 1
theorem a_map (t : TypeId) (r : Option Operand) : aOp P (.makeMap t r) ρ = aMakeMap P t r ρ := rfl
theorem a_conv (t u : TypeId) (x : Operand) : aOp P (.convert t u x) ρ = (ρ x).bind fun a => (undT P t).bind fun us => (undT P u).bind fun ud => aBytes P us ud a := rfl
theorem do_lit (t : TypeId) (n : Nat) (ps : Array (Nat × Operand)) : doOp P ih rd ⟨d, .buildSlice t n ps, ty, pos, af, g⟩ ρ s k = (aOp P (.buildSlice t n ps) ρ).bind fun q => s.new q.1 fun n s => k (q.2 n) [] s := rfl
theorem do_mkslice (t : TypeId) (l c : Operand) : doOp P ih rd ⟨d, .makeSlice t l c, ty, pos, af, g⟩ ρ s k = (aOp P (.makeSlice t l c) ρ).bind fun q => s.new q.1 fun n s => k (q.2 n) [] s := rfl
theorem mk_map (t : TypeId) : aMakeMap P t none ρ = .ok (.map [] 0, fun n => .map (some n)) := rfl
theorem lit0 {e : TypeId} {s : Nat} {z : Value} (hs : szT P e = .ok s) (hz : zeroT P e = .ok z) (hl : (cellsOf z).length = s) : aSliceLit P e 0 [] = .ok (.cells [] e 0 false (0, 0), fun n => .slice (some ⟨n, 0, none⟩) 0 0) := by
  unfold aSliceLit
  rw [hs]
  show ifb (Nat.ble (0 * s) 16777216 && Nat.ble 0 16777216) ((zeroT P e).bind _) _ = _
  rw [Nat.zero_mul, hz]
  show ifb (Nat.beq (lenN (cellsOf z)) s) _ _ = _
  rw [lenN_eq, hl, Nat.beq_refl]
  rfl
end new_

/-! ### comparisons -/
section cmps
variable {h : Tr AObj} {t : TypeId} {c : Bool}
noncomputable def slT (u : TypeDesc) (b : Bool) : Rs Value := match u with
  | .slice _ => .ok (.bool b)
  | _ => .no 31 ""
noncomputable def ptT (u : TypeDesc) (b : Bool) : Rs Value := match u with
  | .pointer _ => .ok (.bool b)
  | _ => .no 31 ""
noncomputable def mpT (u : TypeDesc) (b : Bool) : Rs Value := match u with
  | .map _ _ => .ok (.bool b)
  | _ => .no 31 ""
theorem slT_ok (e : TypeId) (b : Bool) : slT (.slice e) b = .ok (.bool b) := rfl
theorem ptT_ok (e : TypeId) (b : Bool) : ptT (.pointer e) b = .ok (.bool b) := rfl
theorem mpT_ok (k e : TypeId) (b : Bool) : mpT (.map k e) b = .ok (.bool b) := rfl
theorem bind_bind {α β γ : Type} (x : Rs α) (f : α → Rs β) (g : β → Rs γ) : (x.bind f).bind g = x.bind fun a => (f a).bind g := by cases x <;> rfl
theorem eql_snil (n m : Nat) : aBin P h .eql t c (.slice none n m) (.slice none 0 0) = (undT P t).bind fun u => slT u true := by
  show ((undT P t).bind fun u => aEqRest u (.slice none n m) (.slice none 0 0)).bind (fun b => Rs.ok (Value.bool b)) = _
  rw [bind_bind]; congr 1; funext u; cases u <;> rfl
theorem eql_ssome (a : Addr) (n m : Nat) : aBin P h .eql t c (.slice (some a) n m) (.slice none 0 0) = (undT P t).bind fun u => slT u false := by
  show ((undT P t).bind fun u => aEqRest u (.slice (some a) n m) (.slice none 0 0)).bind (fun b => Rs.ok (Value.bool b)) = _
  rw [bind_bind]; congr 1; funext u; cases u <;> rfl
theorem neq_snil (n m : Nat) : aBin P h .neq t c (.slice none n m) (.slice none 0 0) = (undT P t).bind fun u => slT u false := by
  show ((undT P t).bind fun u => aEqRest u (.slice none n m) (.slice none 0 0)).bind (fun b => Rs.ok (Value.bool (!b))) = _
  rw [bind_bind]; congr 1; funext u; cases u <;> rfl
theorem neq_ssome (a : Addr) (n m : Nat) : aBin P h .neq t c (.slice (some a) n m) (.slice none 0 0) = (undT P t).bind fun u => slT u true := by
  show ((undT P t).bind fun u => aEqRest u (.slice (some a) n m) (.slice none 0 0)).bind (fun b => Rs.ok (Value.bool (!b))) = _
  rw [bind_bind]; congr 1; funext u; cases u <;> rfl
theorem eql_pnil : aBin P h .eql t c (.pointer none) (.pointer none) = (undT P t).bind fun u => ptT u true := by
  show ((undT P t).bind fun u => aEqPtr P h u none (.pointer none)).bind (fun b => Rs.ok (Value.bool b)) = _
  rw [bind_bind]; congr 1; funext u; cases u <;> rfl
theorem eql_psome (a : Addr) : aBin P h .eql t c (.pointer (some a)) (.pointer none) = (undT P t).bind fun u => ptT u false := by
  show ((undT P t).bind fun u => aEqPtr P h u (some a) (.pointer none)).bind (fun b => Rs.ok (Value.bool b)) = _
  rw [bind_bind]; congr 1; funext u; cases u <;> rfl
theorem neq_pnil : aBin P h .neq t c (.pointer none) (.pointer none) = (undT P t).bind fun u => ptT u false := by
  show ((undT P t).bind fun u => aEqPtr P h u none (.pointer none)).bind (fun b => Rs.ok (Value.bool (!b))) = _
  rw [bind_bind]; congr 1; funext u; cases u <;> rfl
theorem neq_psome (a : Addr) : aBin P h .neq t c (.pointer (some a)) (.pointer none) = (undT P t).bind fun u => ptT u true := by
  show ((undT P t).bind fun u => aEqPtr P h u (some a) (.pointer none)).bind (fun b => Rs.ok (Value.bool (!b))) = _
  rw [bind_bind]; congr 1; funext u; cases u <;> rfl
end cmps

/-! ### shifts -/
/-- an append, in a walk -/
theorem EvO.append {st : St} {t e : TypeId} {xt : List TypeId} {sz by_ : Nat} {z v x : Value} {n m : Nat} {cs nw : List Value} {K : Value → St → Prop} (hwf : st.wf) (hu : P.underlying t = some (.slice e)) (hsz : szT P e = .ok sz) (hby : bytesT P e = .ok by_) (hz : zeroT P e = .ok z) (hzl : (cellsOf z).length = sz) (h0 : 0 < sz)
    (hv : Buf st e sz v n cs) (hn : n < open_) (hx : appSrc P st.heap sz (cellsOf z) xt x = .ok (m, nw)) (hnw : nw.length = m * sz) (hone : nw.all oneB = true) (hm : 0 < m) (h1 : n + m ≤ 140737488355328) (h2 : (2 * (n + m) + 192) * by_ ≤ 281474976710656)
    (h : ∀ st' : St, st'.heap.get st.next = some (.cells (cs ++ nw) e sz true (0, 0)) → st'.next = st.next + 1 → st'.wf → (∀ b y, st.heap.get b = some y → ¬ owns v b → st'.heap.get b = some y) → K (.slice (some ⟨st.next, 0, none⟩) (n + m) open_) st') :
    EvO (fun _ k => aAppend P st (t :: xt) v x fun v s => k v [] s) K := by
  obtain ⟨st', k1, k2, k3, k4, k5⟩ := append_buf hwf hu hsz hby hz hzl h0 hv hn hx hnw hone hm h1 h2
  exact ⟨_, st', fun ih k => k1 _, h st' k2 k3 k4 k5⟩
end
end Go.Proofs.YtihplijjkcdcjaaGreatDoor.Abs

/-
  THE EVALUATOR'S OWN WALK: the rules again, so that each operation is worked out by itself, without what comes behind it.
-/
namespace Go.Proofs.YtihplijjkcdcjaaGreatDoor.Abs
section
set_option linter.unusedVariables false
variable {P : Program} {Sm : Summ} {fn : FuncId} {rd : Option Nat} {Q : Ans → Prop}
variable {ops : Array Oper} {op : Op} {l : List Oper} {lp : List PStep} {T : Tr Value} {n : Nat} {ds : List Deferred} {s s' : St} {t tg : Tmp} {v u : Value} {ty : TypeId} {pos : String} {af : Array Edge} {i j bs : Nat} {want b : Bool}

theorem Ev.kT (hd : Nat.blt t n = true) (h1 : ∀ ih k, doOp P ih rd ⟨some t, op, ty, pos, af, none⟩ (Ac.ev ⟨T, n, ds⟩) s k = k v [] s') (h : Ev P Sm (.run fn rd ops l ⟨T.set t v, n, ds⟩ s') Q) :
    Ev P Sm (.run fn rd ops (⟨some t, op, ty, pos, af, none⟩ :: l) ⟨T, n, ds⟩ s) Q := Ev.op rfl hd h1 h
theorem Ev.kN (h1 : ∀ ih k, doOp P ih rd ⟨none, op, ty, pos, af, none⟩ (Ac.ev ⟨T, n, ds⟩) s k = k v [] s') (h : Ev P Sm (.run fn rd ops l ⟨T, n, ds⟩ s') Q) :
    Ev P Sm (.run fn rd ops (⟨none, op, ty, pos, af, none⟩ :: l) ⟨T, n, ds⟩ s) Q := Ev.op rfl rfl h1 h
theorem doOp_guard {d : Option Tmp} {g : Option (Nat × Bool)} {ih : Rq → Rs Ans} {ρ : Operand → Rs Value} {k : Kn} : doOp P ih rd ⟨d, op, ty, pos, af, g⟩ ρ s k = doOp P ih rd ⟨d, op, ty, pos, af, none⟩ ρ s k := by
  cases op <;> rfl
theorem Ev.kG {d : Option Tmp} (hj : (ops.toList[j]?).bind (·.dst) = some tg) (hb : T.get tg = some (.bool b)) (hd : okDst ⟨T, n, ds⟩ d = true) (h1 : b = want → Ev P Sm (.run fn rd ops (⟨d, op, ty, pos, af, none⟩ :: l) ⟨T, n, ds⟩ s) Q)
    (h2 : b = (!want) → Ev P Sm (.run fn rd ops l (Ac.upd ⟨T, n, ds⟩ d undefV) s) Q) : Ev P Sm (.run fn rd ops (⟨d, op, ty, pos, af, some (j, want)⟩ :: l) ⟨T, n, ds⟩ s) Q := by
  have hw := wanted_of (o := ⟨d, op, ty, pos, af, some (j, want)⟩) (a := ⟨T, n, ds⟩) rfl (by simpa using hj) hb
  cases hbw : (b == want) with
  | true =>
    rw [hbw] at hw
    have h1 := h1 (by simpa using hbw)
    rw [Ev_run_cons] at h1 ⊢
    have e : (fun ih => onRun P ih fn rd ops (⟨d, op, ty, pos, af, some (j, want)⟩ :: l) ⟨T, n, ds⟩ s) = fun ih => onRun P ih fn rd ops (⟨d, op, ty, pos, af, none⟩ :: l) ⟨T, n, ds⟩ s := by
      funext ih
      show (wantedA ops ⟨d, op, ty, pos, af, some (j, want)⟩ ⟨T, n, ds⟩).bind (fun w => ifb w (doOp P ih rd ⟨d, op, ty, pos, af, some (j, want)⟩ (Ac.ev ⟨T, n, ds⟩) s (goPut ⟨d, op, ty, pos, af, some (j, want)⟩ ⟨T, n, ds⟩ fun a s => ih (.run fn rd ops l a s))) _) = _
      rw [hw, doOp_guard]
      rfl
    rw [e]
    exact h1
  | false =>
    rw [hbw] at hw
    exact Ev.opNot hw hd (h2 (by cases b <;> cases want <;> simp_all))
/-- a guard that was not reached itself -/
theorem Ev.kG0 {d : Option Tmp} (hj : (ops.toList[j]?).bind (·.dst) = some tg) (hb : T.get tg = some undefV) (hd : okDst ⟨T, n, ds⟩ d = true)
    (h2 : Ev P Sm (.run fn rd ops l (Ac.upd ⟨T, n, ds⟩ d undefV) s) Q) : Ev P Sm (.run fn rd ops (⟨d, op, ty, pos, af, some (j, want)⟩ :: l) ⟨T, n, ds⟩ s) Q := by
  have hw : wantedA ops ⟨d, op, ty, pos, af, some (j, want)⟩ ⟨T, n, ds⟩ = .ok false := by
    show (Rs.of 105 (((ops[j]?).bind (·.dst)).bind T.get)).bind _ = _
    rw [show (ops[j]?).bind (·.dst) = some tg by simpa using hj]
    show (Rs.of 105 (T.get tg)).bind _ = _
    rw [hb]
    rfl
  exact Ev.opNot hw hd h2
theorem Ev.kgo (hi : ops.toList[i]? = some ⟨some t, op, ty, pos, af, none⟩) (hd : Nat.blt t n = true) (hc : isCallV op = false) (h1 : ∀ ih k, doOp P ih rd ⟨some t, op, ty, pos, af, none⟩ (Ac.ev ⟨T, n, ds⟩) s k = k v [] s') (h : Ev P Sm (.steps fn rd ops lp bs ⟨T.set t v, n, ds⟩ s') Q) :
    Ev P Sm (.steps fn rd ops (.go i :: lp) bs ⟨T, n, ds⟩ s) Q := Ev.goS (o := ⟨some t, op, ty, pos, af, none⟩) (by simpa using hi) rfl hd hc ⟨v, s', h1, h⟩
theorem Ev.kgoN (hi : ops.toList[i]? = some ⟨none, op, ty, pos, af, none⟩) (hc : isCallV op = false) (h1 : ∀ ih k, doOp P ih rd ⟨none, op, ty, pos, af, none⟩ (Ac.ev ⟨T, n, ds⟩) s k = k v [] s') (h : Ev P Sm (.steps fn rd ops lp bs ⟨T, n, ds⟩ s') Q) :
    Ev P Sm (.steps fn rd ops (.go i :: lp) bs ⟨T, n, ds⟩ s) Q := Ev.goS (by simpa using hi) rfl rfl hc ⟨v, s', h1, h⟩
theorem Ev.kag (hi : ops.toList[i]? = some ⟨some t, op, ty, pos, af, none⟩) (h1 : pOp P s.heap op (Ac.ev ⟨T, n, ds⟩) = .ok v) (h2 : T.get t = some u) (h3 : vEq2 u v = true) (h : Ev P Sm (.steps fn rd ops lp bs ⟨T, n, ds⟩ s) Q) :
    Ev P Sm (.steps fn rd ops (.again i :: lp) bs ⟨T, n, ds⟩ s) Q := Ev.againS (by simpa using hi) rfl rfl ⟨v, h1, u, h2, h3, h⟩
theorem Ev.kcond {x y : Code} (hc : T.get t = some (.bool b)) (h : b = true → Ev P Sm (.code fn rd x ⟨T, n, ds⟩ s) Q) (k : b = false → Ev P Sm (.code fn rd y ⟨T, n, ds⟩ s) Q) : Ev P Sm (.code fn rd (.cond (.tmp t) x y) ⟨T, n, ds⟩ s) Q := Ev.condT hc h k
theorem Ev.kcall {F : FuncId} {xs : Array Operand} {ats : Array TypeId} {args : List Value} (hd : Nat.blt t n = true) (hx : mapR (Ac.ev ⟨T, n, ds⟩) xs.toList = .ok args)
    (h : Ev P Sm (.inv (.fn (.func F) #[]) args s) fun r => ∃ v s', r = .val v s' ∧ Ev P Sm (.run fn rd ops l ⟨T.set t v, n, ds⟩ s') Q) : Ev P Sm (.run fn rd ops (⟨some t, .call ⟨.value (.func F), xs, ats⟩, ty, pos, af, none⟩ :: l) ⟨T, n, ds⟩ s) Q := Ev.callF hd ⟨_, hx, h⟩
theorem Ev.kcallN {F : FuncId} {xs : Array Operand} {ats : Array TypeId} {args : List Value} (hx : mapR (Ac.ev ⟨T, n, ds⟩) xs.toList = .ok args)
    (h : Ev P Sm (.inv (.fn (.func F) #[]) args s) fun r => ∃ v s', r = .val v s' ∧ Ev P Sm (.run fn rd ops l ⟨T, n, ds⟩ s') Q) : Ev P Sm (.run fn rd ops (⟨none, .call ⟨.value (.func F), xs, ats⟩, ty, pos, af, none⟩ :: l) ⟨T, n, ds⟩ s) Q := Ev.callF (d := none) rfl ⟨_, hx, h⟩
theorem Ev.kgocall {F : FuncId} {xs : Array Operand} {ats : Array TypeId} {args : List Value} (hi : ops.toList[i]? = some ⟨some t, .call ⟨.value (.func F), xs, ats⟩, ty, pos, af, none⟩) (hd : Nat.blt t n = true) (hx : mapR (Ac.ev ⟨T, n, ds⟩) xs.toList = .ok args)
    (h : Ev P Sm (.inv (.fn (.func F) #[]) args s) fun r => ∃ v s', r = .val v s' ∧ Ev P Sm (.steps fn rd ops lp bs ⟨T.set t v, n, ds⟩ s') Q) : Ev P Sm (.steps fn rd ops (.go i :: lp) bs ⟨T, n, ds⟩ s) Q := Ev.goCall (d := some t) (by simpa using hi) hd ⟨_, hx, h⟩
theorem Body.kret {F : Func} {rs : List ResultVar} {vs : List Value} {w : Value} (hr : F.results = ⟨rs⟩) (hx : mapR (resR P T s) rs = .ok vs) (hw : tup vs = w) (h : Q (.val w s)) : Body P F Q (.at (.jump .ret) ⟨T, n, []⟩ s) := by
  subst hw
  exact Body.retE hr ⟨_, hx, h⟩
theorem Body.kend {F : Func} {rs : List ResultVar} {vs : List Value} {w : Value} (hr : F.results = ⟨rs⟩) (hx : mapR (resR P T s) rs = .ok vs) (hw : tup vs = w) (h : Q (.val w s)) : Body P F Q (.at .normal ⟨T, n, []⟩ s) := by
  subst hw
  exact Body.endE hr ⟨_, hx, h⟩
end
end Go.Proofs.YtihplijjkcdcjaaGreatDoor.Abs

/-
  THE EVALUATOR'S OWN WALK in few words: one rule that goes on as far as there is one way.
-/
namespace Go.Proofs.YtihplijjkcdcjaaGreatDoor.Abs
section
set_option linter.unusedVariables false
variable {P : Program} {Sm : Summ} {fn : FuncId} {rd : Option Nat} {Q : Ans → Prop}
variable {ops : Array Oper} {op : Op} {l : List Oper} {T : Tr Value} {n : Nat} {ds : List Deferred} {s : St} {t tg : Tmp} {ty : TypeId} {pos : String} {af : Array Edge} {j : Nat} {want b : Bool}
theorem Ev.kG2 {d : Option Tmp} (hj : (ops.toList[j]?).bind (·.dst) = some tg) (hb : T.get tg = some (.bool b)) (hd : okDst ⟨T, n, ds⟩ d = true) (h : (b = want → Ev P Sm (.run fn rd ops (⟨d, op, ty, pos, af, none⟩ :: l) ⟨T, n, ds⟩ s) Q)
    ∧ (b = (!want) → Ev P Sm (.run fn rd ops l (Ac.upd ⟨T, n, ds⟩ d undefV) s) Q)) : Ev P Sm (.run fn rd ops (⟨d, op, ty, pos, af, some (j, want)⟩ :: l) ⟨T, n, ds⟩ s) Q := Ev.kG hj hb hd h.1 h.2
theorem Ev.kcond2 {x y : Code} (hc : T.get t = some (.bool b)) (h : (b = true → Ev P Sm (.code fn rd x ⟨T, n, ds⟩ s) Q) ∧ (b = false → Ev P Sm (.code fn rd y ⟨T, n, ds⟩ s) Q)) : Ev P Sm (.code fn rd (.cond (.tmp t) x y) ⟨T, n, ds⟩ s) Q := Ev.kcond hc h.1 h.2
theorem goL {A B X Y : Prop} (h : ¬ B) (x : X) : (A → X) ∧ (B → Y) := ⟨fun _ => x, fun b => (h b).elim⟩
theorem goR {A B X Y : Prop} (h : ¬ A) (y : Y) : (A → X) ∧ (B → Y) := ⟨fun a => (h a).elim, fun _ => y⟩
structure Bx (K : Prop) : Prop where
  a : K
theorem cc {A B : Prop} (a : A) (b : B) : A ∧ B := ⟨a, b⟩
theorem go {P K : Prop} (k : K) (h : Bx K → P := by intro k_; (first | refine Abs.Ev.seq ?_ | refine Abs.Ev.region ?_ | refine Abs.Ev.block ?_ | refine Abs.Ev.skip ?_ | refine Abs.Ev.exit ?_ | refine Abs.Ev.ret ?_ | refine Abs.Ev.runNil ?_ | refine Abs.Ev.stepsNil ?_ | refine Abs.Seq.go ?_ | refine Abs.Seq.off ?_ | refine Abs.Blk.here ?_ | refine Abs.Blk.go ?_ | refine Abs.Blk.off rfl ?_ | refine Abs.Blk.ret ?_ | refine Abs.Ev.label ?_ | refine Abs.Ev.scope ?_ | ((first | apply Abs.Ev.kcall rfl | apply Abs.Ev.kcallN | apply Abs.Ev.kgocall rfl rfl | apply Abs.Ev.kT rfl | apply Abs.Ev.kN | apply Abs.Ev.kgo rfl rfl rfl | apply Abs.Ev.kgoN rfl rfl); (· (intros; simp (disch := first | omega | assumption) only [go_sem]; exact rfl))) | (apply Abs.Ev.kag rfl; (· (intros; simp (disch := first | omega | assumption) only [go_sem]; exact rfl)); (· (intros; simp (disch := first | omega | assumption) only [go_sem]; exact rfl)); (· simp only [go_sem])) | ((first | apply Abs.Ev.kG2 (hj := rfl) (hd := rfl) | apply Abs.Ev.kcond2); (· (intros; simp (disch := first | omega | assumption) only [go_sem]; exact rfl)); (try simp only [Abs.upd_some, Abs.upd_none])) | (apply Abs.Ev.kG0 (hj := rfl) (hd := rfl); (· (first | (intros; simp (disch := first | omega | assumption) only [go_sem]; exact rfl) | simp (disch := first | omega | assumption) only [go_sem])); (try simp only [Abs.upd_some, Abs.upd_none])) | ((first | apply Abs.Body.kret rfl | apply Abs.Body.kend rfl); (· (intros; simp (disch := first | omega | assumption) only [go_sem]; exact rfl)); (· exact rfl)) | refine Abs.Ev.step' rfl rfl rfl ?_ | refine Abs.Ev.goS' rfl rfl rfl rfl ?_ | refine Abs.Ev.goG' rfl rfl rfl rfl rfl ?_ | refine Abs.Ev.againS' rfl rfl rfl ?_ | refine Abs.Ev.newS' rfl rfl rfl ?_ | refine Abs.Body.retE rfl ?_ | refine Abs.Body.endE rfl ?_ | (refine Abs.Nx.go ?_; (first | simp (disch := first | omega | assumption) only [go_sem] | skip)) | ((with_reducible refine Abs.goL ?_ ?_); (· (intro hb; (try simp only [decide_eq_true_eq, decide_eq_false_iff_not, Bool.true_eq_false, Bool.false_eq_true, Bool.not_true, Bool.not_false, eq_self, not_true_eq_false, not_false_eq_true, ne_eq, decide_true, decide_false] at hb); (try (exfalso; omega)); done))) | ((with_reducible refine Abs.goR ?_ ?_); (· (intro hb; (try simp only [decide_eq_true_eq, decide_eq_false_iff_not, Bool.true_eq_false, Bool.false_eq_true, Bool.not_true, Bool.not_false, eq_self, not_true_eq_false, not_false_eq_true, ne_eq, decide_true, decide_false] at hb); (try (exfalso; omega)); done)))); (repeat (first | refine Abs.Ev.seq ?_ | refine Abs.Ev.region ?_ | refine Abs.Ev.block ?_ | refine Abs.Ev.skip ?_ | refine Abs.Ev.exit ?_ | refine Abs.Ev.ret ?_ | refine Abs.Ev.runNil ?_ | refine Abs.Ev.stepsNil ?_ | refine Abs.Seq.go ?_ | refine Abs.Seq.off ?_ | refine Abs.Blk.here ?_ | refine Abs.Blk.go ?_ | refine Abs.Blk.off rfl ?_ | refine Abs.Blk.ret ?_ | refine Abs.Ev.label ?_ | refine Abs.Ev.scope ?_ | ((first | apply Abs.Ev.kcall rfl | apply Abs.Ev.kcallN | apply Abs.Ev.kgocall rfl rfl | apply Abs.Ev.kT rfl | apply Abs.Ev.kN | apply Abs.Ev.kgo rfl rfl rfl | apply Abs.Ev.kgoN rfl rfl); (· (intros; simp (disch := first | omega | assumption) only [go_sem]; exact rfl))) | (apply Abs.Ev.kag rfl; (· (intros; simp (disch := first | omega | assumption) only [go_sem]; exact rfl)); (· (intros; simp (disch := first | omega | assumption) only [go_sem]; exact rfl)); (· simp only [go_sem])) | ((first | apply Abs.Ev.kG2 (hj := rfl) (hd := rfl) | apply Abs.Ev.kcond2); (· (intros; simp (disch := first | omega | assumption) only [go_sem]; exact rfl)); (try simp only [Abs.upd_some, Abs.upd_none])) | (apply Abs.Ev.kG0 (hj := rfl) (hd := rfl); (· (first | (intros; simp (disch := first | omega | assumption) only [go_sem]; exact rfl) | simp (disch := first | omega | assumption) only [go_sem])); (try simp only [Abs.upd_some, Abs.upd_none])) | ((first | apply Abs.Body.kret rfl | apply Abs.Body.kend rfl); (· (intros; simp (disch := first | omega | assumption) only [go_sem]; exact rfl)); (· exact rfl)) | refine Abs.Ev.step' rfl rfl rfl ?_ | refine Abs.Ev.goS' rfl rfl rfl rfl ?_ | refine Abs.Ev.goG' rfl rfl rfl rfl rfl ?_ | refine Abs.Ev.againS' rfl rfl rfl ?_ | refine Abs.Ev.newS' rfl rfl rfl ?_ | refine Abs.Body.retE rfl ?_ | refine Abs.Body.endE rfl ?_ | (refine Abs.Nx.go ?_; (first | simp (disch := first | omega | assumption) only [go_sem] | skip)) | ((with_reducible refine Abs.goL ?_ ?_); (· (intro hb; (try simp only [decide_eq_true_eq, decide_eq_false_iff_not, Bool.true_eq_false, Bool.false_eq_true, Bool.not_true, Bool.not_false, eq_self, not_true_eq_false, not_false_eq_true, ne_eq, decide_true, decide_false] at hb); (try (exfalso; omega)); done))) | ((with_reducible refine Abs.goR ?_ ?_); (· (intro hb; (try simp only [decide_eq_true_eq, decide_eq_false_iff_not, Bool.true_eq_false, Bool.false_eq_true, Bool.not_true, Bool.not_false, eq_self, not_true_eq_false, not_false_eq_true, ne_eq, decide_true, decide_false] at hb); (try (exfalso; omega)); done))))); exact k_.a) : P := h ⟨k⟩
end
end Go.Proofs.YtihplijjkcdcjaaGreatDoor.Abs

/-
  THE EVALUATOR'S OWN WALK: a call, or a value read again, under a guard that holds, in a drawn region. (Rules; no program in sight.)
-/
namespace Go.Proofs.YtihplijjkcdcjaaGreatDoor
open Abs
section
variable {Sm : Summ} {Q : Ans → Prop}
theorem Abs.Ev.forget {P : Program} {fn : FuncId} {rd : Option Nat} {Q : Ans → Prop} {c : Code} {T : Tr Value} {n : Nat} {s : St} (G : Tr Value → Prop) (hG : G T) (h : ∀ T, G T → Ev P Sm (.code fn rd c ⟨T, n, []⟩ s) Q) : Ev P Sm (.code fn rd c ⟨T, n, []⟩ s) Q := h T hG
end
end Go.Proofs.YtihplijjkcdcjaaGreatDoor

