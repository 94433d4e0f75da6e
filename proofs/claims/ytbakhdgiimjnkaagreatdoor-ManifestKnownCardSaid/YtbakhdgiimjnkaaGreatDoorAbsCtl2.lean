/-
  Frames; a region whose order is fixed; codes' ways out.
-/
import Derived.Test.YtbakhdgiimjnkaaGreatDoorAbsCtl
namespace Go.Proofs.YtbakhdgiimjnkaaGreatDoor.Abs
section
set_option linter.unusedVariables false
variable {P : Program} {φ : Phi} {w : World}

/-- what stays of an activation -/
structure Fm where
  fn : FuncId
  kind : CallKind
  rd : Option Nat
def Fm.at (b : Fm) (ts : Array Value) (ds : List Deferred) (todo : List Item) : Frame :=
  { fn := b.fn, tmps := ts, todo, defers := ds, mode := .run, kind := b.kind, roundOf := b.rd }
def tev (ts : Array Value) : Operand → Value
  | .tmp t => ts.getD t undef
  | .const v => v
  | .global g => .pointer (some ⟨g, 0, none⟩)
  | .func f => .func (.func f) #[] #[]
def putT (ts : Array Value) (d : Option Tmp) (v : Value) : Array Value :=
  match d with
  | some d => ts.setIfInBounds d v
  | none => ts
theorem Fm.eval_at (b : Fm) (ts : Array Value) (ds : List Deferred) (todo : List Item) : (b.at ts ds todo).eval = tev ts := by
  funext x
  cases x <;> rfl
theorem Fm.finish_at (b : Fm) (ts : Array Value) (ds : List Deferred) (ops : Array Oper) (i : Nat) (rest : List Nat) (k : List Item) (v : Value) :
    (b.at ts ds (.inRegion ops (i :: rest) :: k)).finish v = b.at (putT ts ((ops[i]?).bind (·.dst)) v) ds (.inRegion ops rest :: k) := by
  cases h : (ops[i]?).bind (·.dst) <;> simp [Frame.finish, Fm.at, putT, h]

inductive RdRel (φ : Phi) : Option Nat → Option Nat → Prop where
  | no : RdRel φ none none
  | of {l : Nat} {L : Loc} (h : φ l = some L) : RdRel φ (some l) (some L.blk)
theorem RdRel.mono {φ ψ : Phi} (h : φ.le ψ) {a b : Option Nat} (k : RdRel φ a b) : RdRel ψ a b := by
  cases k with
  | no => exact .no
  | of e => exact .of (h _ _ e)
theorem RdRel.isNone {a b : Option Nat} (k : RdRel φ a b) (h : a = none) : b = none := by
  cases k with
  | no => rfl
  | of e => cases h

structure ARel (φ : Phi) (a : Ac) (ts : Array Value) (ds : List Deferred) : Prop where
  tmps : TRel φ a.tmps a.n ts
  dfs : DsRel φ a.dfs ds
theorem ARel.mono {φ ψ : Phi} (h : φ.le ψ) {a : Ac} {ts : Array Value} {ds : List Deferred} (k : ARel φ a ts ds) : ARel ψ a ts ds := ⟨k.tmps.mono h, k.dfs.mono h⟩
/-- operands -/
theorem ev_rel {f : Nat → Option AObj} {n : Nat} (hS : SF φ f n w) {a : Ac} {ts : Array Value} (h : TRel φ a.tmps a.n ts) : ∀ x v, a.ev x = .ok v → VRel φ v (tev ts x) := by
  intro x v e
  cases x with
  | tmp t =>
    obtain ⟨v', h1, h2⟩ := h.2 t v (Rs.of_ok e)
    have : tev ts (.tmp t) = v' := by simp [tev, h1]
    rw [this]
    exact h2
  | const c =>
    obtain ⟨h1, h2⟩ := ifb_no e
    cases h2
    exact (constOk_flat h1).rel φ
  | global g =>
    obtain ⟨h1, h2⟩ := ifb_no e
    cases h2
    have := VRel.ptr (φ := φ) (b := g) (L := ⟨g, 0, 0, 0⟩) 0 (hS.globals g (by simpa using h1))
    simpa [tev] using this
  | func f =>
    cases e
    exact .func (.func f) rfl rfl (fun i v v' h => by simp at h) (fun i v v' h => by simp at h)
/-- a temporary gets a value -/
theorem TRel.put {ts : Tr Value} {n : Nat} {tmps : Array Value} (h : TRel φ ts n tmps) {t : Tmp} {v v' : Value} (ht : t < n) (hv : VRel φ v v') : TRel φ (ts.set t v) n (tmps.setIfInBounds t v') := by
  refine ⟨by simp [h.1], fun j u e => ?_⟩
  rcases Tr.get_set e with ⟨rfl, rfl⟩ | ⟨hne, e'⟩
  · exact ⟨v', by simp [h.1, ht], hv⟩
  · obtain ⟨u', h1, h2⟩ := h.2 j u e'
    exact ⟨u', by rw [Array.getElem?_setIfInBounds_ne (fun x => hne x.symm)]; exact h1, h2⟩
noncomputable def acPut (a : Ac) (o : Option Tmp) (v : Value) (d : List Deferred) : Ac :=
  match o with
  | none => ⟨a.tmps, a.n, d⟩
  | some t => ⟨a.tmps.set t v, a.n, d⟩
theorem ARel.put {a : Ac} {ts : Array Value} {ds ds2 : List Deferred} (h : ARel φ a ts ds) {o : Option Tmp} {v v' : Value} {d : List Deferred} (hv : VRel φ v v') (hd : DsRel φ d ds2) (ht : ∀ t, o = some t → t < a.n) :
    ARel φ (acPut a o v d) (putT ts o v') ds2 := by
  cases o with
  | none => exact ⟨h.tmps, hd⟩
  | some t => exact ⟨h.tmps.put (ht t rfl) hv, hd⟩
theorem goPut_ok {o : Oper} {a : Ac} {k : Ac → St → Rs Ans} {v : Value} {ds : List Deferred} {s : St} {r : Ans} (h : goPut o a k v ds s = .ok r) :
    k (acPut a o.dst v (ds ++ a.dfs)) s = .ok r ∧ ∀ t, o.dst = some t → t < a.n := by
  unfold goPut at h
  unfold acPut
  cases hd : o.dst with
  | none =>
    rw [hd] at h
    refine ⟨?_, fun t e => by cases e⟩
    split at h <;> exact (Ac.put_ok h).1
  | some t =>
    rw [hd] at h
    split at h <;> exact ⟨(Ac.put_ok h).1, (Ac.put_ok h).2⟩

section moves
variable {b : Fm} {ts : Array Value} {ds : List Deferred} {k : List Item} {cs : List Frame}
theorem mv_op_skip {ops : Array Oper} {i : Nat} {rest : List Nat} (h : ((ops[i]?).map (Region.wanted · (yielded ops ts))).getD false = false) :
    Go.step P (lone (b.at ts ds (.inRegion ops (i :: rest) :: k)) cs w) = .next (lone (b.at (putT ts ((ops[i]?).bind (·.dst)) undef) ds (.inRegion ops rest :: k)) cs w) := by
  rw [← Fm.finish_at]
  exact step_lone_go (by
    have h' := h
    simp only [Fm.at] at *
    simp [stepG, stepG.exec, h'])
theorem oper_apply {fr : Frame} {o : Oper} (ho : fr.oper? = some o) (hd : fr.roundOf = none ∨ ∀ c, o.op ≠ .defer c) : stepG.oper P true fr cs none w = stepG.apply P true fr cs none (execOp fr.eval o) w := by
  unfold stepG.oper
  rw [ho]
  simp only
  split
  · rename_i h1 h2
    rcases hd with hd | hd
    · rw [hd] at h1; cases h1
    · exact absurd h2 (hd _)
  · rfl
theorem mv_op {ops : Array Oper} {i : Nat} {rest : List Nat} {o : Oper} (ho : ops[i]? = some o) (hw : Region.wanted o (yielded ops ts) = true) (hd : b.rd = none ∨ ∀ c, o.op ≠ .defer c) :
    stepG P true { frame := b.at ts ds (.inRegion ops (i :: rest) :: k), callers := cs, status := .running, dying := none } w =
      stepG.apply P true (b.at ts ds (.inRegion ops (i :: rest) :: k)) cs none (execOp (tev ts) o) w := by
  have he := Fm.eval_at b ts ds (.inRegion ops (i :: rest) :: k)
  rw [← he, ← oper_apply (P := P) (cs := cs) (w := w) (fr := b.at ts ds (.inRegion ops (i :: rest) :: k)) (o := o) (by simp [Frame.oper?, Fm.at, ho]) hd]
  have h1 : (b.at ts ds (.inRegion ops (i :: rest) :: k)).mode = .run := rfl
  have h2 : (b.at ts ds (.inRegion ops (i :: rest) :: k)).todo = .inRegion ops (i :: rest) :: k := rfl
  have h3 : (b.at ts ds (.inRegion ops (i :: rest) :: k)).tmps = ts := rfl
  generalize b.at ts ds (.inRegion ops (i :: rest) :: k) = fr at *
  simp [stepG, stepG.exec, h1, h2, h3, ho, hw]
theorem mv_region_end {ops : Array Oper} : Go.step P (lone (b.at ts ds (.inRegion ops [] :: k)) cs w) = .next (lone (b.at ts ds k) cs w) :=
  step_lone_go (by simp [stepG, stepG.exec, Fm.at])
/-- AN OPERATION OF A REGION. -/
theorem mv_does {ops : Array Oper} {i : Nat} {rest : List Nat} {o : Oper} {v' : Value} {ds' : List Deferred} {w' : World} (ho : ops[i]? = some o) (hw : Region.wanted o (yielded ops ts) = true) (hd : Does P (b.at ts ds (.inRegion ops (i :: rest) :: k)) cs b.rd (tev ts) o w v' ds' w') :
    Steps P (lone (b.at ts ds (.inRegion ops (i :: rest) :: k)) cs w) (lone (b.at (putT ts o.dst v') (ds' ++ ds) (.inRegion ops rest :: k)) cs w') := by
  obtain ⟨n, w1, h1, h2⟩ := hd
  have hfin : ∀ v, (b.at ts ds (.inRegion ops (i :: rest) :: k)).finish v = b.at (putT ts o.dst v) ds (.inRegion ops rest :: k) := by
    intro v; rw [Fm.finish_at, ho]; rfl
  rcases h2 with ⟨rfl, h3, h4⟩ | ⟨hr, d, rfl, rfl, rfl, rfl⟩
  · have hg := mv_op (P := P) (b := b) (ds := ds) (k := k) (cs := cs) (w := w) (rest := rest) ho hw (.inr h4)
    rw [List.nil_append, ← hfin]
    cases n with
    | value u =>
      obtain ⟨rfl, rfl⟩ : u = v' ∧ w1 = w' := h3
      exact .one (step_lone_go (by rw [hg]; simp [stepG.apply, h1]))
    | skip =>
      obtain ⟨rfl, rfl⟩ : undef = v' ∧ w1 = w' := h3
      exact .one (step_lone_go (by rw [hg]; simp [stepG.apply, h1]))
    | enter f args =>
      have h5 : Go.step P (lone (b.at ts ds (.inRegion ops (i :: rest) :: k)) cs w) = .next (lone (Frame.enter P f args .normal) (b.at ts ds (.inRegion ops (i :: rest) :: k) :: cs) w1) :=
        step_lone_go (by rw [hg]; simp [stepG.apply, h1, Fm.at])
      exact .head h5 h3
    | round l f tmps as bd =>
      have h5 : Go.step P (lone (b.at ts ds (.inRegion ops (i :: rest) :: k)) cs w) = .next (lone (Frame.round l f tmps as bd .normal) (b.at ts ds (.inRegion ops (i :: rest) :: k) :: cs) w1) :=
        step_lone_go (by rw [hg]; simp [stepG.apply, h1, Fm.at])
      exact .head h5 h3
    | _ => exact h3.elim
  · have hg := mv_op (P := P) (b := b) (ds := ds) (k := k) (cs := cs) (w := w) (rest := rest) ho hw (.inl hr)
    refine .one (step_lone_go ?_)
    have : ({ b.at ts ds (.inRegion ops (i :: rest) :: k) with defers := d :: ds } : Frame).finish undef = b.at (putT ts o.dst undef) (d :: ds) (.inRegion ops rest :: k) := by
      have := Fm.finish_at b ts (d :: ds) ops i rest k undef
      rw [ho] at this; exact this
    rw [hg]; simp only [stepG.apply, Sem.runT_eq, h1, GStep.bare_after]
    exact congrArg (fun fr => GStep.go { frame := fr, callers := cs, status := .running, dying := none } w1) this
end moves

/-- is an operation asked for? -/
theorem wanted_rel {ops : Array Oper} {o : Oper} {a : Ac} {ts : Array Value} {w : Bool} (h : wantedA ops o a = .ok w) (hk : ∀ j want t v, o.guard = some (j, want) → (ops[j]?).bind (·.dst) = some t → a.tmps.get t = some v → ∃ v', ts[t]? = some v' ∧ VRel φ v v') :
    Region.wanted o (yielded ops ts) = w := by
  unfold wantedA at h
  unfold Region.wanted
  split at h
  · rename_i hg
    simp only [hg]
    cases h
    rfl
  · rename_i j want hg
    simp only [hg]
    obtain ⟨v, h1, h2⟩ := Rs.bind_ok h
    have h1 := Rs.of_ok h1
    cases h2
    cases h3 : (ops[j]?).bind (·.dst) with
    | none => rw [h3] at h1; cases h1
    | some t =>
      rw [h3] at h1
      obtain ⟨v', h4, h5⟩ := hk j want t v hg h3 h1
      cases h5 <;> simp [yielded, h3, h4, wantedB]
end
end Go.Proofs.YtbakhdgiimjnkaaGreatDoor.Abs
