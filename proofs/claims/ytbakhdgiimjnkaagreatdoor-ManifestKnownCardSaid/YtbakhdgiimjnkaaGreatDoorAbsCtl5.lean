/-
  Calls, rounds of loops over functions, calls put off.
-/
import Derived.Test.YtbakhdgiimjnkaaGreatDoorAbsCtl4
namespace Go.Proofs.YtbakhdgiimjnkaaGreatDoor.Abs
section
set_option linter.unusedVariables false
variable {P : Program} {φ : Phi} {w : World}

/-- what a program's summaries promise -/
def SmOk (P : Program) (Sm : Summ) : Prop :=
  ∀ f g, Sm f = some g → ∀ args s v s1, g args s = .ok (v, s1) → ∀ (fr : Frame) (cs : List Frame) (φ : Phi) (w : World) (args' : Array Value), SRel φ s w → LRel φ args args'.toList →
    ∃ ψ n w1 v' w', (callFunc f args').run P w = .ok n w1 ∧ Ran P .normal fr cs n w1 v' w' ∧ Post φ s w ψ s1 w' ∧ VRel ψ v v'
def NumOk (P : Program) : Prop := ∀ (f : FuncId) (fn : Func), P.funcs[f]? = some fn → fn.body.isSome = true → fn.name ≠ "runtime.NumGoroutine"

/-- results -/
theorem mapM_results {a : Ac} {st : St} {ts : Array Value} (hS : SRel φ st w) (hT : TRel φ a.tmps a.n ts) {g : ResultVar → Rs Value} {g' : ResultVar → Sem Value} (g1 : ∀ t, g (.tmp t) = Rs.of 100 (a.tmps.get t)) (g2 : ∀ x t, g (.cell x t) = (Rs.of 100 (a.tmps.get x)).bind fun p => pLoad P st.heap t p)
    (g1' : ∀ t, g' (.tmp t) = pure (ts.getD t undef)) (g2' : ∀ x t, g' (.cell x t) = (do loadVar t (← asAddr (ts.getD x undef)))) : ∀ {l : List ResultVar} {vs : List Value}, mapR g l = .ok vs → ∃ us, (l.mapM g').run P w = .ok us w ∧ LRel φ vs us
  | [], vs, h => by
    cases h
    exact ⟨[], by simp, .nil φ⟩
  | r :: l, vs, h => by
    have h' : ((g r).bind fun v => (mapR g l).bind fun vs => .ok (v :: vs)) = Rs.ok vs := h
    obtain ⟨v, h1, h2⟩ := Rs.bind_ok h'
    obtain ⟨vs', h3, h4⟩ := Rs.bind_ok h2
    cases h4
    obtain ⟨us, h5, h6⟩ := mapM_results hS hT g1 g2 g1' g2' h3
    rw [List.mapM_cons]
    cases r with
    | tmp t =>
      rw [g1] at h1
      obtain ⟨v', h7, h8⟩ := hT.2 t v (Rs.of_ok h1)
      refine ⟨v' :: us, ?_, LRel.cons h8 h6⟩
      simp [g1', h7, h5]
    | cell x t =>
      rw [g2] at h1
      obtain ⟨p, h7, h8⟩ := Rs.bind_ok h1
      obtain ⟨p', h9, h10⟩ := hT.2 x p (Rs.of_ok h7)
      obtain ⟨v', h11, h12⟩ := pLoad_ok (P := P) hS.mem h8 h10
      refine ⟨v' :: us, ?_, LRel.cons h12 h6⟩
      have hp : ∃ ad, p' = .pointer (some ad) := by
        unfold pLoad at h8
        split at h8 <;> first | (cases h8; done) | skip
        cases h10
        exact ⟨_, rfl⟩
      obtain ⟨ad, rfl⟩ := hp
      have h13 : (loadVar t ad).run P w = .ok v' w := by
        simpa [Instr.loadAt, Instr.sureAddr] using h11
      simp [g2', h9, asAddr, h13, h5]
theorem results_ok {fn : Func} {a : Ac} {st : St} {ts : Array Value} {v : Value} (hS : SRel φ st w) (hT : TRel φ a.tmps a.n ts) (h : aResults P fn a st = .ok v) : ∃ v', (results fn ts).run P w = .ok v' w ∧ VRel φ v v' := by
  unfold aResults at h
  obtain ⟨vs, h1, h2⟩ := Rs.bind_ok h
  unfold results
  obtain ⟨us, h3, h4⟩ := mapM_results (P := P) (g' := fun | .tmp t => pure (ts.getD t undef) | .cell a t => do loadVar t (← asAddr (ts.getD a undef))) hS hT (fun _ => rfl) (fun _ _ => rfl) (fun _ => rfl) (fun _ _ => rfl) h1
  rw [Sem.run_bind, Array.mapM_eq_mapM_toList, Sem.run_map]
  erw [h3]
  simp only [Result.andThen_ok, Sem.run_pure]
  split at h2
  · rename_i v0
    cases h2
    match us, h4 with
    | [u], h4 => exact ⟨u, by simp, h4.2 0 _ _ rfl rfl⟩
    | [], h4 => exact absurd h4.1 (by simp)
    | _ :: _ :: _, h4 => exact absurd h4.1 (by simp)
  · rename_i hne
    cases h2
    have hn : us.length ≠ 1 := by
      intro e
      match vs, h4.1.trans e, hne with
      | [v0], _, hne => exact hne v0 rfl
    refine ⟨.tuple ⟨us⟩, by simp [hn], .tuple (by simpa using h4.1) fun i v v' a b => h4.2 i v v' (by simpa using a) (by simpa using b)⟩

section moves
variable {b : Fm} {ts : Array Value} {ds : List Deferred} {k : List Item} {cs : List Frame}
theorem mv_end (h : b.rd = none) : Go.step P (lone (b.at ts ds []) cs w) = .next (lone { b.at ts ds [] with mode := .returning } cs w) := step_lone_go (by simp [stepG, stepG.exec, Fm.at, h])
theorem mv_ret (h : b.rd = none) : Go.step P (lone (b.at ts ds (.code .ret :: k)) cs w) = .next (lone { b.at ts ds (.code .ret :: k) with mode := .returning } cs w) := step_lone_go (by simp [stepG, stepG.exec, Fm.at, h])
/-- a call comes back -/
theorem mv_back {fr c : Frame} {v : Value} {fn : Func} {kd : CallKind} (hk : fr.kind = kd) (hm : fr.mode = .returning) (hd : fr.defers = []) (hf : P.funcs[fr.fn]? = some fn) (hr : (results fn fr.tmps).run P w = .ok v w) (hb : BackOk kd c) :
    Go.step P (lone fr (c :: cs) w) = .next (lone (back kd c v) cs w) := by
  rcases hb with rfl | ⟨rfl, hc⟩
  · exact step_lone_go (by simp [stepG, unwind, doReturn, hm, hd, hk, hf, hr, back])
  · exact step_lone_go (by simp [stepG, unwind, doReturn, hm, hd, hk, hf, hr, back, hc])
end moves

/-- A FUNCTION WITH A BODY, up to where it leaves. -/
theorem body_leave {ih : Rq → Rs Ans} (hC : CodeOk P ih) (hF : DfrOk P ih) {f : FuncId} {fn : Func} {c : Code} {args : List Value} {as : Array Value} {s : St} {r : Ans} (hf : P.funcs[f]? = some fn) (hb : fn.body = some c)
    (h : onBody P ih fn (ih (.code f none c ⟨Tr.ofList args 0 .nil, max fn.ntmps (lenN args), []⟩ s)) = .ok r) (hS : SRel φ s w) (hl : LRel φ args as.toList) (kd : CallKind) (cs : List Frame) :
    ∃ v s' ψ v' w', r = .val v s' ∧ Post φ s w ψ s' w' ∧ VRel ψ v v' ∧ ∃ fr, Steps P (lone (Frame.enter P f as kd) cs w) (lone fr cs w') ∧ fr.fn = f ∧ fr.kind = kd ∧ fr.mode = .returning ∧ fr.defers = [] ∧ (results fn fr.tmps).run P w' = .ok v' w' := by
  have hn : as.size = args.length := by have := hl.1; simp at this; omega
  have hT : TRel φ (Tr.ofList args 0 .nil) (max fn.ntmps (lenN args)) (as ++ Array.replicate (fn.ntmps - as.size) undef) := by
    refine ⟨by simp [lenN_eq, hn]; omega, fun t v e => ?_⟩
    rcases Tr.get_ofList e with ⟨k, rfl, h2⟩ | h2
    · obtain ⟨v', h3, h4⟩ := hl.get h2
      have h3' : as[k]? = some v' := by simpa using h3
      have := (Array.getElem?_eq_some_iff.1 h3').1
      exact ⟨v', by rw [Nat.zero_add, Array.getElem?_append_left this]; exact h3', h4⟩
    · cases h2
  have enter : Frame.enter P f as kd = (Fm.mk f kd none).at (as ++ Array.replicate (fn.ntmps - as.size) undef) [] [.code c] := by
    simp [Frame.enter, Fm.at, hf, hb]
  unfold onBody at h
  split at h <;> first | (cases h; done) | skip
  rename_i e a1 s1 h1
  obtain ⟨e', a2, s2, ψ, w', ts', ds', e1, p1, p2, p3⟩ := hC _ _ _ _ _ _ h1 φ w (Fm.mk f kd none) _ [] rfl .no hS ⟨hT, .nil⟩ (.code c) (.inl rfl) [] cs
  cases e1
  -- the frame that leaves
  have leave : ∀ (h2 : onLeave P ih fn a1 s1 = .ok r), (∃ todo, Steps P (lone (Frame.enter P f as kd) cs w) (lone { (Fm.mk f kd none).at ts' ds' todo with mode := .returning } cs w')) →
      ∃ v s' ψ v' w', r = .val v s' ∧ Post φ s w ψ s' w' ∧ VRel ψ v v' ∧ ∃ fr, Steps P (lone (Frame.enter P f as kd) cs w) (lone fr cs w') ∧ fr.fn = f ∧ fr.kind = kd ∧ fr.mode = .returning ∧ fr.defers = [] ∧ (results fn fr.tmps).run P w' = .ok v' w' := by
    intro h2 h3
    obtain ⟨todo, h9⟩ := h3
    have fin : ∀ {s3 : St} {χ : Phi} {w3 : World}, onEnd P fn a1 s3 = .ok r → Post ψ s1 w' χ s3 w3 → Steps P (lone { (Fm.mk f kd none).at ts' ds' todo with mode := .returning } cs w') (lone { (Fm.mk f kd none).at ts' ds' todo with mode := .returning, defers := [] } cs w3) →
        ∃ v s' ψ v' w', r = .val v s' ∧ Post φ s w ψ s' w' ∧ VRel ψ v v' ∧ ∃ fr, Steps P (lone (Frame.enter P f as kd) cs w) (lone fr cs w') ∧ fr.fn = f ∧ fr.kind = kd ∧ fr.mode = .returning ∧ fr.defers = [] ∧ (results fn fr.tmps).run P w' = .ok v' w' := by
      intro s3 χ w3 h4 q1 q2
      unfold onEnd at h4
      obtain ⟨v, h5, h6⟩ := Rs.bind_ok h4
      rw [forceV_eq] at h6
      cases h6
      obtain ⟨v', h7, h8⟩ := results_ok (P := P) q1.rel (p2.mono q1.le).tmps h5
      exact ⟨v, s3, χ, v', w3, rfl, p1.trans q1, h8, { (Fm.mk f kd none).at ts' ds' todo with mode := .returning, defers := [] }, h9.trans q2, rfl, rfl, rfl, rfl, h7⟩
    unfold onLeave at h2
    split at h2
    · rename_i hd
      have hds : ds' = [] := by
        have := p2.dfs
        rw [hd] at this
        cases this
        rfl
      subst hds
      exact fin h2 (.refl p1.rel) (.refl _ _)
    · rename_i d dd hd
      unfold onDfr at h2
      split at h2 <;> first | (cases h2; done) | skip
      rename_i s3 h4
      obtain ⟨s4, χ, w3, e2, q1, q2⟩ := hF _ _ _ h4 ψ w' ds' { (Fm.mk f kd none).at ts' ds' todo with mode := .returning } cs p1.rel (by rw [← hd]; exact p2.dfs) rfl rfl
      cases e2
      exact fin h2 q1 q2
  rw [enter] at leave ⊢
  split at h
  · exact leave h ⟨[], Steps.trans p3 (.one (mv_end rfl))⟩
  · split at h <;> first | (cases h; done) | skip
    obtain ⟨k0, h5, _⟩ := p3
    exact leave h ⟨_, h5.trans (.one (mv_ret rfl))⟩

/-- A FUNCTION WITH A BODY. -/
theorem body_step {ih : Rq → Rs Ans} (hC : CodeOk P ih) (hF : DfrOk P ih) {f : FuncId} {fn : Func} {c : Code} {args : List Value} {as : Array Value} {s : St} {r : Ans} (hf : P.funcs[f]? = some fn) (hb : fn.body = some c)
    (h : onBody P ih fn (ih (.code f none c ⟨Tr.ofList args 0 .nil, max fn.ntmps (lenN args), []⟩ s)) = .ok r) (hS : SRel φ s w) (hl : LRel φ args as.toList) (kd : CallKind) (fr : Frame) (cs : List Frame) (hbk : BackOk kd fr) :
    ∃ v s' ψ v' w', r = .val v s' ∧ Ran P kd fr cs (.enter f as) w v' w' ∧ Post φ s w ψ s' w' ∧ VRel ψ v v' := by
  obtain ⟨v, s', ψ, v', w', h1, h2, h3, h4⟩ := body_leave hC hF hf hb h hS hl kd (fr :: cs)
  refine ⟨v, s', ψ, v', w', h1, ?_, h2, h3⟩
  obtain ⟨fr', h5, h6, h7, h8, h9, h10⟩ := h4
  exact h5.trans (.one (mv_back h7 h8 h9 (by rw [h6]; exact hf) h10 hbk))

theorem mv_unwind {fr : Frame} {cs : List Frame} {d : Deferred} {ds : List Deferred} {n : Next} {w1 w2 : World} {v : Value} (hm : fr.mode = .returning) (hd : fr.defers = d :: ds) (hc : ∃ f c, d.target = .fn f c) (h : (invoke d.target d.args).run P w = .ok n w1) (hr : Ran P .deferred { fr with defers := ds } cs n w1 v w2) :
    Steps P (lone fr cs w) (lone { fr with defers := ds } cs w2) := by
  obtain ⟨t, as⟩ := d
  obtain ⟨f, c, hc⟩ := hc
  obtain rfl : t = .fn f c := hc
  simp only at h
  have hbk : BackOk .deferred ({ fr with defers := ds } : Frame) := .inr ⟨rfl, hm⟩
  have hg : (stepG P true { frame := fr, callers := cs, status := .running, dying := none } w).bare = (callDeferred P { fr with defers := ds } cs none ⟨.fn f c, as⟩ w).bare := by
    simp [stepG, hm, unwind, hd]
  cases n with
  | value u =>
    obtain ⟨rfl, rfl⟩ : u = v ∧ w1 = w2 := hr
    refine .one (step_lone_go ?_)
    rw [hg]
    simp [callDeferred, h]
  | skip =>
    obtain ⟨rfl, rfl⟩ : undef = v ∧ w1 = w2 := hr
    refine .one (step_lone_go ?_)
    rw [hg]
    simp [callDeferred, h]
  | enter g args =>
    have h5 : Go.step P (lone fr cs w) = .next (lone (Frame.enter P g args .deferred) ({ fr with defers := ds } :: cs) w1) := by
      refine step_lone_go ?_
      rw [hg]
      simp [callDeferred, h]
    exact .head h5 hr
  | round l g tmps as bd =>
    have h5 : Go.step P (lone fr cs w) = .next (lone (Frame.round l g tmps as bd .deferred) ({ fr with defers := ds } :: cs) w1) := by
      refine step_lone_go ?_
      rw [hg]
      simp [callDeferred, h]
    exact .head h5 hr
  | _ => exact hr.elim

/-- CALLS PUT OFF. -/
theorem dfr_step {Sm : Summ} {ih : Rq → Rs Ans} (hI : InvOk P Sm ih) (hF : DfrOk P ih) {l : List Deferred} {s : St} {r : Ans} {ds : List Deferred} {fr : Frame} {cs : List Frame} (h : onDfrs Sm ih l s = .ok r) (hS : SRel φ s w) (hl : DsRel φ l ds) (hm : fr.mode = .returning) (hfr : fr.defers = ds) :
    ∃ s1 ψ w', r = .st s1 ∧ Post φ s w ψ s1 w' ∧ Steps P (lone fr cs w) (lone { fr with defers := [] } cs w') := by
  unfold onDfrs at h
  cases hl with
  | nil =>
    cases h
    refine ⟨s, φ, w, rfl, .refl hS, ?_⟩
    obtain ⟨f1, f2, f3, f4, f5, f6, f7⟩ := fr
    cases hfr
    exact .refl _ _
  | @cons d d' l l' hd hl =>
    simp only at h
    cases hd with
    | @fn f f' c c' a a' hf hc ha =>
      simp only at h
      obtain ⟨hno, h⟩ := ifb_no h
      unfold onDeferred at h
      split at h <;> first | (cases h; done) | skip
      rename_i v s1 h1
      obtain ⟨v2, s2, ψ, n, w1, v', w', e1, h2, h3, h4, h5⟩ := hI _ _ _ _ h1 .deferred { fr with defers := l' } cs (.inr ⟨rfl, hm⟩) (.inr fun g e he => by cases he; exact hno) φ w (.fn f' c') a' hS (.fn hf hc) ha
      cases e1
      obtain ⟨s3, χ, w3, e2, q1, q2⟩ := hF _ _ _ h ψ w' l' { fr with defers := l' } cs h4.rel (hl.mono h4.le) hm rfl
      exact ⟨s3, χ, w3, e2, h4.trans q1, (mv_unwind (d := ⟨.fn f' c', a'⟩) hm hfr ⟨_, _, rfl⟩ h2 h3).trans q2⟩
    | @mark q L hL =>
      simp only at h
      split at h <;> first | (cases h; done) | skip
      rename_i hq
      rw [St.put_eq] at h
      obtain ⟨o, h1, h2⟩ := hS.mem.objAt hq hL
      cases h2
      have hp := Post.put (y := .dfs false) (q := .deferred none) hS hq rfl hL h1 .dfsDone
      obtain ⟨s3, χ, w3, e2, q1, q2⟩ := hF _ _ _ h φ _ l' { fr with defers := l' } cs hp.rel hl hm rfl
      refine ⟨s3, χ, w3, e2, hp.trans q1, .head (step_lone_go ?_) q2⟩
      have hg := run_getObj (P := P) h1 (fun _ _ _ e => by cases e)
      have hs := fun q => run_setObj (P := P) (q := q) h1 (fun _ _ _ e => by cases e)
      have ht : (Instr.takeDeferred L.blk).run P w = .ok [] { w with heap := w.heap.setIfInBounds L.blk (.deferred none) } := by
        simp [Instr.takeDeferred, hg, hs]
      simp [stepG, hm, unwind, hfr, ht]
end
end Go.Proofs.YtbakhdgiimjnkaaGreatDoor.Abs
