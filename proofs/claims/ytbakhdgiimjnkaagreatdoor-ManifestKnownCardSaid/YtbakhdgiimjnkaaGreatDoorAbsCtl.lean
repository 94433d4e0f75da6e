/-
  Operations as steps of a region.
-/
import Derived.Test.YtbakhdgiimjnkaaGreatDoorAbsExt4
namespace Go.Proofs.YtbakhdgiimjnkaaGreatDoor.Abs
section
set_option linter.unusedVariables false
variable {P : Program} {φ : Phi} {w : World}

/-- calls put off -/
inductive DRel (φ : Phi) : Deferred → Deferred → Prop where
  | fn {f f' : Fn} {c c' a a' : Array Value} (hf : FRel φ f f') (hc : LRel φ c.toList c'.toList) (ha : LRel φ a.toList a'.toList) : DRel φ ⟨.fn f c, a⟩ ⟨.fn f' c', a'⟩
  | mark {r : Nat} {L : Loc} (h : φ r = some L) : DRel φ ⟨.collected r, #[]⟩ ⟨.collected L.blk, #[]⟩
inductive DsRel (φ : Phi) : List Deferred → List Deferred → Prop where
  | nil : DsRel φ [] []
  | cons {d d' : Deferred} {l l' : List Deferred} (h : DRel φ d d') (k : DsRel φ l l') : DsRel φ (d :: l) (d' :: l')
theorem DRel.mono {φ ψ : Phi} (h : φ.le ψ) {d d' : Deferred} (k : DRel φ d d') : DRel ψ d d' := by
  cases k with
  | fn hf hc ha => exact .fn (hf.mono h) (hc.mono h) (ha.mono h)
  | mark e => exact .mark (h _ _ e)
theorem DsRel.mono {φ ψ : Phi} (h : φ.le ψ) {d d' : List Deferred} (k : DsRel φ d d') : DsRel ψ d d' := by
  induction k with
  | nil => exact .nil
  | cons a _ ih => exact .cons (a.mono h) ih
theorem DsRel.append {φ : Phi} {a a' b b' : List Deferred} (h : DsRel φ a a') (k : DsRel φ b b') : DsRel φ (a ++ b) (a' ++ b') := by
  induction h with
  | nil => exact k
  | cons x _ ih => exact .cons x ih

/-- who is called -/
inductive TgRel (φ : Phi) : Target → Target → Prop where
  | fn {f f' : Fn} {c c' : Array Value} (hf : FRel φ f f') (hc : LRel φ c.toList c'.toList) : TgRel φ (.fn f c) (.fn f' c')

/-- where a call comes back to -/
def back (kd : CallKind) (fr : Frame) (v : Value) : Frame :=
  match kd with
  | .normal => fr.finish v
  | _ => fr
def BackOk (kd : CallKind) (fr : Frame) : Prop := kd = .normal ∨ (kd = .deferred ∧ fr.mode = .returning)
/-- what was begun comes to its end -/
def Ran (P : Program) (kd : CallKind) (fr : Frame) (cs : List Frame) (n : Next) (w : World) (v : Value) (w' : World) : Prop :=
  match n with
  | .value u => u = v ∧ w = w'
  | .skip => undef = v ∧ w = w'
  | .enter f args => Steps P (lone (Frame.enter P f args kd) (fr :: cs) w) (lone (back kd fr v) cs w')
  | .round l f tmps as bd => Steps P (lone (Frame.round l f tmps as bd kd) (fr :: cs) w) (lone (back kd fr v) cs w')
  | _ => False
theorem Ran.value (kd : CallKind) (fr : Frame) (cs : List Frame) (v : Value) (w : World) : Ran P kd fr cs (.value v) w v w := ⟨rfl, rfl⟩
theorem Ran.skip (kd : CallKind) (fr : Frame) (cs : List Frame) (w : World) : Ran P kd fr cs .skip w undef w := ⟨rfl, rfl⟩
/-- calls that the evaluator answers -/
def InvOk (P : Program) (Sm : Summ) (ih : Rq → Rs Ans) : Prop :=
  ∀ t args s r, ih (.inv t args s) = .ok r → ∀ (kd : CallKind) (fr : Frame) (cs : List Frame), BackOk kd fr → (kd = .normal ∨ ∀ f c, t = .fn f c → noSm Sm f = true) → ∀ (φ : Phi) (w : World) (t' : Target) (args' : Array Value), SRel φ s w → TgRel φ t t' → LRel φ args args'.toList →
    ∃ v s' ψ n w1 v' w', r = .val v s' ∧ (invoke t' args').run P w = .ok n w1 ∧ Ran P kd fr cs n w1 v' w' ∧ Post φ s w ψ s' w' ∧ VRel ψ v v'
/-- an operation, done -/
def Does (P : Program) (fr : Frame) (cs : List Frame) (rd : Option Nat) (ρ' : Operand → Value) (o : Oper) (w : World) (v' : Value) (ds' : List Deferred) (w' : World) : Prop :=
  ∃ n w1, (execOp ρ' o).run P w = .ok n w1 ∧ ((ds' = [] ∧ Ran P .normal fr cs n w1 v' w' ∧ ∀ c, o.op ≠ .defer c) ∨ (rd = none ∧ ∃ d, n = .defer d ∧ ds' = [d] ∧ v' = undef ∧ w1 = w'))

theorem cvOf_new {s d : TypeId} (h : cvOf P s d = .same) : s = d ∧ ∃ e, P.underlying s = some (.slice e) ∧ P.underlying e = some (.int .u8) := by
  unfold cvOf at h
  split at h <;> first | (cases h; done) | skip
  rename_i e0 e h1 h2
  split at h <;> first | (cases h; done) | skip
  rename_i h3
  rw [ifb_eq] at h
  split at h <;> first | (cases h; done) | skip
  rename_i h4
  have := Nat.eq_of_beq_eq_true h4
  subst this
  exact ⟨rfl, e, h2, h3⟩

theorem LRel.map_toArray {vs : List Value} {l : List Operand} {ρ' : Operand → Value} {a : Array Operand} (h : LRel φ vs (a.toList.map ρ')) : LRel φ vs (a.map ρ').toList := by simpa using h

theorem doOp_ok {Sm : Summ} {ih : Rq → Rs Ans} (hI : InvOk P Sm ih) (fr : Frame) (cs : List Frame) {rd rd' : Option Nat} (hrd : rd = none → rd' = none) {o : Oper} {ρ : Operand → Rs Value} {ρ' : Operand → Value} (hρ : ∀ x v, ρ x = .ok v → VRel φ v (ρ' x)) {s : St} {k : Kn} {r : Ans} (h : doOp P ih rd o ρ s k = .ok r) (hS : SRel φ s w) :
    ∃ v ds s' ψ v' ds' w', Post φ s w ψ s' w' ∧ VRel ψ v v' ∧ DsRel ψ ds ds' ∧ Does P fr cs rd' ρ' o w v' ds' w' ∧ k v ds s' = .ok r := by
  have fin : ∀ {sm : Sem Next}, (∀ c, o.op ≠ .defer c) → execOp ρ' o = sm → ActN P φ s w sm (goOn2 k) r → ∃ v ds s' ψ v' ds' w', Post φ s w ψ s' w' ∧ VRel ψ v v' ∧ DsRel ψ ds ds' ∧ Does P fr cs rd' ρ' o w v' ds' w' ∧ k v ds s' = .ok r := by
    intro sm hd he ha
    obtain ⟨v, st', ψ, n, w', h1, h2, h3, h4⟩ := ha
    rcases h3 with ⟨v', rfl, h3⟩ | ⟨rfl, rfl⟩
    · exact ⟨v, [], st', ψ, v', [], w', h2, h3, .nil, ⟨_, _, he ▸ h1, .inl ⟨rfl, Ran.value _ _ _ _ _, hd⟩⟩, h4⟩
    · exact ⟨_, [], st', ψ, undef, [], w', h2, und_rel, .nil, ⟨_, _, he ▸ h1, .inl ⟨rfl, Ran.skip _ _ _ _, hd⟩⟩, h4⟩
  have pure_ : (∀ c, o.op ≠ .defer c) → goOn o s k (pOp P s.heap o.op ρ) = .ok r → ∃ v ds s' ψ v' ds' w', Post φ s w ψ s' w' ∧ VRel ψ v v' ∧ DsRel ψ ds ds' ∧ Does P fr cs rd' ρ' o w v' ds' w' ∧ k v ds s' = .ok r := by
    intro hd e
    unfold goOn at e
    obtain ⟨v, h1, h2⟩ := Rs.bind_ok e
    have h1' : pOp P s.heap o.op ρ = .ok v := by
      unfold sayV at h1
      split at h1 <;> first | (cases h1; done) | exact h1
    obtain ⟨v', h3, h4⟩ := pOp_ok (o := o) hS.mem hρ h1'
    exact ⟨v, [], s, φ, v', [], w, .refl hS, h4, .nil, ⟨_, _, h3, .inl ⟨rfl, Ran.value _ _ _ _ _, hd⟩⟩, h2⟩
  have new_ : (∀ c, o.op ≠ .defer c) → goNew s k (aOp P o.op ρ) = .ok r → ∃ v ds s' ψ v' ds' w', Post φ s w ψ s' w' ∧ VRel ψ v v' ∧ DsRel ψ ds ds' ∧ Does P fr cs rd' ρ' o w v' ds' w' ∧ k v ds s' = .ok r := by
    intro hd e
    unfold goNew at e
    obtain ⟨⟨x, f⟩, h1, h2⟩ := Rs.bind_ok e
    rw [St.new_eq] at h2
    obtain ⟨b, L, v', d, h3, h4, h5, h6⟩ := aOp_ok (w := w) (φ := φ) hρ h1
    have hp := Post.newAt hS x b L s.next (s.next + 1) d (hS.fresh _ (Nat.le_refl _)) (Nat.le_refl _) (Nat.lt_succ_self _) (Nat.le_succ _) h4 h5
    exact ⟨_, [], _, _, v', [], _, hp, h6 _ _ hp.le (Phi.add_same _ _ _), .nil, ⟨_, _, h3, .inl ⟨rfl, Ran.value _ _ _ _ _, hd⟩⟩, h2⟩
  have nod : ∀ {op : Op}, o.op = op → (∀ c, op ≠ .defer c) → ∀ c, o.op ≠ .defer c := fun e n => e ▸ n
  unfold doOp at h
  split at h
  · rename_i c hc
    have hd := nod hc (fun _ e => by cases e)
    unfold goCall at h
    split at h
    · rename_i f hf
      obtain ⟨fv, h1, h2⟩ := Rs.bind_ok h
      obtain ⟨args, h3, h4⟩ := Rs.bind_ok h2
      have hfv := hρ _ _ h1
      have hargs := mapR_ok hρ h3
      unfold goInv at h4
      split at h4 <;> first | (cases h4; done) | skip
      rename_i fn first cap
      unfold goInv2 at h4
      split at h4 <;> first | (cases h4; done) | skip
      rename_i v s' h5
      have h6 := hI _ _ _ _ h5
      generalize hz : ρ' f = z at hfv
      cases hfv with
      | @func _ fn' _ ys _ us hf1 s1 s2 s3 s4 =>
        have ha : LRel φ (first.toList ++ args) (ys ++ c.args.map ρ').toList := by
          rw [Array.toList_append]
          exact (LRel.of_arr s1 s3).append (by simpa using hargs)
        obtain ⟨v2, s2, ψ, n, w1, v', w', e2, h7, h8, h9, h10⟩ := h6 .normal fr cs (.inl rfl) (.inl rfl) φ w (.fn fn' us) (ys ++ c.args.map ρ') hS (.fn hf1 (LRel.of_arr s2 s4)) ha
        cases e2
        refine ⟨v, [], s', ψ, v', [], w', h9, h10, .nil, ⟨n, w1, ?_, .inl ⟨rfl, h8, hd⟩⟩, h4⟩
        unfold execOp
        rw [hc]
        simp only [resolve, hf, hz, Deferred.ofValue, Sem.run_bind, Sem.run_pure, Result.andThen_ok]
        exact h7
    · rename_i b hb
      obtain ⟨vs, h1, h2⟩ := Rs.bind_ok h
      have hargs := mapR_ok hρ h1
      refine fin (sm := builtin b c.argTypes o.type (c.args.map fun | .const _ => true | _ => false) (c.args.map ρ')) hd ?_ (eBuiltin_ok hS h2 (by simpa using hargs))
      unfold execOp
      rw [hc]
      simp only [resolve, hb]
      rfl
    · cases h
  · rename_i hc; exact new_ (nod hc fun _ e => by cases e) h
  · rename_i hc; exact new_ (nod hc fun _ e => by cases e) h
  · rename_i hc; exact new_ (nod hc fun _ e => by cases e) h
  · rename_i hc; exact new_ (nod hc fun _ e => by cases e) h
  · rename_i hc; exact new_ (nod hc fun _ e => by cases e) h
  · rename_i t d x hc
    have hd := nod hc (fun _ e => by cases e)
    split at h
    · exact new_ hd h
    · rename_i hcv
      obtain ⟨rfl, e, he1, he2⟩ := cvOf_new hcv
      obtain ⟨a, h1, h2⟩ := Rs.bind_ok h
      refine fin hd ?_ (eBytes_ok hS he1 he2 h2 (hρ _ _ h1)).next
      unfold execOp
      rw [hc]
    · exact pure_ hd h
  · rename_i t p x hc
    obtain ⟨a, h1, h'⟩ := Rs.bind_ok h
    obtain ⟨b, h2, h'⟩ := Rs.bind_ok h'
    refine fin (nod hc (fun _ e => by cases e)) ?_ (eStore_ok hS h' (hρ _ _ h1) (hρ _ _ h2)).next
    unfold execOp
    rw [hc]
  · rename_i t m q x hc
    obtain ⟨a, h1, h'⟩ := Rs.bind_ok h
    obtain ⟨b, h2, h'⟩ := Rs.bind_ok h'
    obtain ⟨c, h3, h'⟩ := Rs.bind_ok h'
    refine fin (nod hc (fun _ e => by cases e)) ?_ (eMapPut_ok hS h' (hρ _ _ h1) (hρ _ _ h2) (hρ _ _ h3)).next
    unfold execOp
    rw [hc]
  · rename_i t m q x hc
    obtain ⟨a, h1, h'⟩ := Rs.bind_ok h
    obtain ⟨b, h2, h'⟩ := Rs.bind_ok h'
    obtain ⟨c, h3, h'⟩ := Rs.bind_ok h'
    refine fin (nod hc (fun _ e => by cases e)) ?_ (eMapPut_ok hS h' (hρ _ _ h1) (hρ _ _ h2) (hρ _ _ h3)).next
    unfold execOp
    rw [hc]
  · rename_i t x hc
    obtain ⟨a, h1, h'⟩ := Rs.bind_ok h
    refine fin (nod hc (fun _ e => by cases e)) ?_ (eRange_ok hS h' (hρ _ _ h1)).next
    unfold execOp
    rw [hc]
  · rename_i it b hc
    obtain ⟨a, h1, h'⟩ := Rs.bind_ok h
    refine fin (nod hc (fun _ e => by cases e)) ?_ (eNext_ok (t := o.type) hS h' (hρ _ _ h1)).next
    unfold execOp
    rw [hc]
  · rename_i it hc
    obtain ⟨a, h1, h'⟩ := Rs.bind_ok h
    refine fin (nod hc (fun _ e => by cases e)) ?_ (eEntry_ok hS h' (hρ _ _ h1)).next
    unfold execOp
    rw [hc]
  · rename_i t m q hc
    obtain ⟨a, h1, h'⟩ := Rs.bind_ok h
    obtain ⟨b, h2, h'⟩ := Rs.bind_ok h'
    refine fin (nod hc (fun _ e => by cases e)) ?_ (eMapEntry_ok hS h' (hρ _ _ h1) (hρ _ _ h2)).next
    unfold execOp
    rw [hc]
  · rename_i t m b x hc
    obtain ⟨a, h1, h'⟩ := Rs.bind_ok h
    obtain ⟨c, h2, h'⟩ := Rs.bind_ok h'
    obtain ⟨d, h3, h'⟩ := Rs.bind_ok h'
    refine fin (nod hc (fun _ e => by cases e)) ?_ (eEntryStore_ok (t := t) hS h' (hρ _ _ h1) (hρ _ _ h2) (hρ _ _ h3)).next
    unfold execOp
    rw [hc]
  · rename_i c hc
    unfold goDefer at h
    split at h <;> first | (cases h; done) | skip
    rename_i f hf
    obtain ⟨fv, h1, h2⟩ := Rs.bind_ok h
    obtain ⟨args, h3, h4⟩ := Rs.bind_ok h2
    have hfv := hρ _ _ h1
    have hargs := mapR_ok hρ h3
    unfold goDefer2 at h4
    split at h4 <;> first | (cases h4; done) | skip
    rename_i fn first cap
    generalize hz : ρ' f = z at hfv
    cases hfv with
    | @func _ fn' _ ys _ us hf1 s1 s2 s3 s4 =>
      have ha : LRel φ (first.toList ++ args) (ys ++ c.args.map ρ').toList := by
        rw [Array.toList_append]
        exact (LRel.of_arr s1 s3).append (by simpa using hargs)
      refine ⟨_, _, s, φ, undef, [⟨.fn fn' us, ys ++ c.args.map ρ'⟩], w, .refl hS, und_rel, .cons (.fn hf1 (LRel.of_arr s2 s4) ha) .nil, ⟨_, w, ?_, .inr ⟨hrd rfl, _, rfl, rfl, rfl, rfl⟩⟩, h4⟩
      unfold execOp
      rw [hc]
      simp only [resolve, hf, hz, Deferred.ofValue, Sem.run_bind, Sem.run_pure, Result.andThen_ok]
  · rename_i h1 h2 h3 h4 h5 h6 h7 h8 h9 h10 h11 h12 h13 h14 h15
    exact pure_ (fun c e => by simp_all) h
end
end Go.Proofs.YtbakhdgiimjnkaaGreatDoor.Abs
