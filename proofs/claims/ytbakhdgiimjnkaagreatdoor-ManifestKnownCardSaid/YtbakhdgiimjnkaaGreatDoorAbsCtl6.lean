/-
  Rounds of loops over functions; all calls.
-/
import Derived.Test.YtbakhdgiimjnkaaGreatDoorAbsCtl5
namespace Go.Proofs.YtbakhdgiimjnkaaGreatDoor.Abs
section
set_option linter.unusedVariables false
variable {P : Program} {φ : Phi} {w : World}

/-- a round's arguments go to their places -/
theorem putAll_ok {ds : List Deferred} : ∀ {l : List (Tmp × Value)} {l' : List (Tmp × Value)} {a : Ac} {ts : Array Value} {k : Ac → Rs Ans} {r : Ans}, putAll k l a = .ok r → ARel φ a ts ds → l.length = l'.length →
    (∀ (i : Nat) (t : Tmp) (v : Value) (t' : Tmp) (v' : Value), l[i]? = some (t, v) → l'[i]? = some (t', v') → t = t' ∧ VRel φ v v') → ∃ a', k a' = .ok r ∧ ARel φ a' (l'.foldl (fun ts p => ts.setIfInBounds p.1 p.2) ts) ds
  | [], [], a, ts, k, r, h, hA, _, _ => ⟨a, h, hA⟩
  | [], _ :: _, _, _, _, _, _, _, hn, _ => by simp at hn
  | _ :: _, [], _, _, _, _, _, _, hn, _ => by simp at hn
  | (t, v) :: l, (t', v') :: l', a, ts, k, r, h, hA, hn, hr => by
    have h' : a.put (some t) v (putAll k l) = .ok r := h
    obtain ⟨rfl, hv⟩ := hr 0 t v t' v' rfl rfl
    obtain ⟨a', h1, hA'⟩ := put_rel h' hA hv
    exact putAll_ok (l := l) (l' := l') (ts := ts.setIfInBounds t v') h1 hA' (by simpa using hn) (fun i t v t' v' e e' => hr (i + 1) t v t' v' (by simpa using e) (by simpa using e'))

section moves
variable {b : Fm} {ts : Array Value} {ds : List Deferred} {k : List Item} {cs : List Frame}
theorem mv_begin {l : Nat} {w1 : World} (hb : b.rd = some l) (h : (Instr.beginRound l).run P w = .ok () w1) : Go.step P (lone (b.at ts ds (.beginRound :: k)) cs w) = .next (lone (b.at ts ds k) cs w1) := by
  refine step_lone_go ?_
  simp [stepG, stepG.exec, Fm.at, hb, stepG.apply, h, Frame.finish]
/-- a round ends -/
theorem mv_round {fr c : Frame} {l : Nat} {kd : CallKind} {w1 : World} {v : Value} {jump : Option Code} (hk : fr.kind = kd) (hm : fr.mode = .run) (hr : fr.roundOf = some l) (hj : (jump = none ∧ fr.todo = []) ∨ (jump = some .ret ∧ ∃ k, fr.todo = .code .ret :: k) ∨ (∃ id, jump = some (.exit id) ∧ ∃ k, fr.todo = .code (.exit id) :: k ∧ exitTo id k = none))
    (h : (Instr.endRound l jump).run P w = .ok v w1) (hb : BackOk kd c) : Go.step P (lone fr (c :: cs) w) = .next (lone (back kd c v) cs w1) := by
  have hg : (stepG P true { frame := fr, callers := c :: cs, status := .running, dying := none } w).bare = (doReturn P true fr (c :: cs) none v w1).bare := by
    rcases hj with ⟨rfl, ht⟩ | ⟨rfl, k, ht⟩ | ⟨id, rfl, k, ht, hx⟩
    · simp [stepG, hm, stepG.exec, ht, hr, h]
    · simp [stepG, hm, stepG.exec, ht, hr, h]
    · simp [stepG, hm, stepG.exec, ht, hr, h, hx]
  refine step_lone_go ?_
  rw [hg]
  rcases hb with rfl | ⟨rfl, hc⟩
  · simp [doReturn, hk, back]
  · simp [doReturn, hk, back, hc]
end moves

/-- A ROUND. -/
theorem yield_step {ih : Rq → Rs Ans} (hC : CodeOk P ih) {l : Nat} {L : Loc} {args : List Value} {as : Array Value} {s : St} {r : Ans} (h : onYield ih l args s (s.heap.get l) = .ok r) (hS : SRel φ s w) (hL : φ l = some L) (hl : LRel φ args as.toList) (kd : CallKind) (fr : Frame) (cs : List Frame) (hbk : BackOk kd fr) :
    ∃ v s' ψ n w1 v' w', r = .val v s' ∧ (Instr.yield L.blk as).run P w = .ok n w1 ∧ Ran P kd fr cs n w1 v' w' ∧ Post φ s w ψ s' w' ∧ VRel ψ v v' := by
  unfold onYield at h
  split at h <;> first | (cases h; done) | skip
  rename_i pend fn tt n ps as' bd d hb
  obtain ⟨h1, h2⟩ := ifb_no h
  have hn : args.length = ps.length := by
    have := Nat.eq_of_beq_eq_true h1
    simpa [lenN_eq] using this
  obtain ⟨tmps, D, o1, hT, M, hM, rfl⟩ := loopAt hS hb hL
  have has : as.size = args.length := by have := hl.1; simp at this; omega
  obtain ⟨a1, h3, hA⟩ := putAll_ok (φ := φ) (ts := tmps) (ds := []) (l' := ps.zip as.toList) h2 ⟨hT, .nil⟩ (by simp [hn, has]) (fun i t v t' v' e e' => by
    rw [List.getElem?_zip_eq_some] at e e'
    obtain ⟨e1, e2⟩ := e
    obtain ⟨e3, e4⟩ := e'
    rw [e1] at e3
    exact ⟨Option.some.inj e3, hl.2 i v v' e2 e4⟩)
  generalize hts : (ps.zip as.toList).foldl (fun ts p => ts.setIfInBounds p.1 p.2) tmps = ts at hA
  have hy : (Instr.yield L.blk as).run P w = .ok (.round L.blk fn ts as' bd) w := by
    have hg := run_getObj (P := P) o1 (fun _ _ _ e => by cases e)
    have hne : ¬ as.size ≠ (Array.mk ps).size := by simp [has, hn]
    unfold Instr.yield Instr.getLoop
    simp only [Sem.run_bind, hg, Result.andThen_ok, Sem.run_pure, hne, if_false]
    rw [← hts]
    have : ∀ (q : List (Tmp × Value)) (ts : Array Value), q.foldl (fun tmps (x : Tmp × Value) => match x with | (t, a) => tmps.setIfInBounds t a) ts = q.foldl (fun ts p => ts.setIfInBounds p.1 p.2) ts := fun q ts => rfl
    have hz : (Array.mk ps).zip as = ⟨ps.zip as.toList⟩ := by
      apply Array.ext'
      simp
    rw [hz]
    simp
  -- the round's frame
  let b : Fm := ⟨fn, kd, some L.blk⟩
  have hround : Frame.round L.blk fn ts as' bd kd = b.at ts [] [.code as', .beginRound, .code bd] := rfl
  unfold onRoundAssign at h3
  split at h3 <;> first | (cases h3; done) | skip
  rename_i a2 s2 h4
  obtain ⟨e, a2', s2', ψ, w2, ts2, ds2, e1, p1, p2, p3⟩ := hC _ _ _ _ _ _ h4 φ w b ts [] rfl (.of hL) hS hA (.code as') (.inl rfl) [.beginRound, .code bd] (fr :: cs)
  cases e1
  unfold onRoundGo at h3
  split at h3 <;> first | (cases h3; done) | skip
  rename_i pend2 fn2 tt2 n2 ps2 as2 bd2 d2 hb2
  rw [St.put_eq] at h3
  obtain ⟨tmps2, D2, o2, hT2, M2, hM2, rfl⟩ := loopAt p1.rel hb2 (p1.le _ _ hL)
  have hp2 := Post.put (y := .loop .busy pend2 fn2 tt2 n2 ps2 as2 bd2 d2) (q := .loop ⟨.busy, pend2, fn2, tmps2, ⟨ps2⟩, as2, bd2, M2.blk⟩) p1.rel hb2 rfl (p1.le _ _ hL) o2 (.loop (ps := ⟨ps2⟩) .busy pend2 fn2 as2 bd2 hM2 hT2)
  have hbegin : (Instr.beginRound L.blk).run P w2 = .ok () { w2 with heap := w2.heap.setIfInBounds L.blk (.loop ⟨.busy, pend2, fn2, tmps2, ⟨ps2⟩, as2, bd2, M2.blk⟩) } := by
    have hg := run_getObj (P := P) o2 (fun _ _ _ e => by cases e)
    have hs := fun q => run_setObj (P := P) (q := q) o2 (fun _ _ _ e => by cases e)
    simp [Instr.beginRound, Instr.getLoop, hg, hs]
  unfold onRoundBody at h3
  split at h3 <;> first | (cases h3; done) | skip
  rename_i e3 a3 s3 h5
  obtain ⟨e3', a3', s3', χ, w3, ts3, ds3, e2, q1, q2, q3⟩ := hC _ _ _ _ _ _ h5 ψ _ b ts2 ds2 rfl (.of (p1.le _ _ hL)) hp2.rel p2 (.code bd) (.inl rfl) [] (fr :: cs)
  cases e2
  have hpost := (p1.trans hp2).trans q1
  split at h3 <;> first | (cases h3; done) | skip
  rename_i hdf
  unfold onRoundEnd at h3
  split at h3 <;> first | (cases h3; done) | skip
  rename_i st4 pend4 fn4 tt4 n4 ps4 as4 bd4 d4 hb4
  obtain ⟨tmps4, D4, o4, hT4, M4, hM4, rfl⟩ := loopAt q1.rel hb4 (hpost.le _ _ hL)
  have hg4 := run_getObj (P := P) o4 (fun _ _ _ e => by cases e)
  have hs4 := fun q => run_setObj (P := P) (q := q) o4 (fun _ _ _ e => by cases e)
  -- how it begins
  have start : Steps P (lone (Frame.round L.blk fn ts as' bd kd) (fr :: cs) w) (lone (b.at ts2 ds2 [.code bd]) (fr :: cs) { w2 with heap := w2.heap.setIfInBounds L.blk (.loop ⟨.busy, pend2, fn2, tmps2, ⟨ps2⟩, as2, bd2, M2.blk⟩) }) := by
    rw [hround]
    exact Steps.trans p3 (.one (mv_begin rfl hbegin))
  have fin : ∀ (jump : Option Code) (q : LoopState), q = (if jump.isNone then .ready else .done) → s3.put l (.loop q jump fn4 tt4 n4 ps4 as4 bd4 d4) (fun s => Rs.ok (Ans.val (.bool jump.isNone) s)) = .ok r →
      (∃ todo, Steps P (lone (b.at ts2 ds2 [.code bd]) (fr :: cs) { w2 with heap := w2.heap.setIfInBounds L.blk (.loop ⟨.busy, pend2, fn2, tmps2, ⟨ps2⟩, as2, bd2, M2.blk⟩) }) (lone (b.at ts3 ds3 todo) (fr :: cs) w3) ∧
        ((jump = none ∧ todo = []) ∨ (jump = some .ret ∧ ∃ k, todo = .code .ret :: k) ∨ (∃ id, jump = some (.exit id) ∧ ∃ k, todo = .code (.exit id) :: k ∧ exitTo id k = none))) →
      ∃ v s' ψ n w1 v' w', r = .val v s' ∧ (Instr.yield L.blk as).run P w = .ok n w1 ∧ Ran P kd fr cs n w1 v' w' ∧ Post φ s w ψ s' w' ∧ VRel ψ v v' := by
    intro jump q hq hput hgo
    rw [St.put_eq] at hput
    cases hput
    have hp4 := Post.put (y := .loop q jump fn4 tt4 n4 ps4 as4 bd4 d4) (q := .loop ⟨q, jump, fn4, tmps4, ⟨ps4⟩, as4, bd4, M4.blk⟩) q1.rel hb4 rfl (hpost.le _ _ hL) o4 (.loop (ps := ⟨ps4⟩) q jump fn4 as4 bd4 hM4 hT4)
    have hend : (Instr.endRound L.blk jump).run P w3 = .ok (.bool jump.isNone) { w3 with heap := w3.heap.setIfInBounds L.blk (.loop ⟨q, jump, fn4, tmps4, ⟨ps4⟩, as4, bd4, M4.blk⟩) } := by
      subst hq
      simp [Instr.endRound, Instr.getLoop, hg4, hs4]
    refine ⟨_, _, χ, _, w, .bool jump.isNone, _, rfl, hy, ?_, hpost.trans hp4, .bool _⟩
    obtain ⟨todo, h6, h7⟩ := hgo
    exact start.trans (h6.trans (.one (mv_round (fr := b.at ts3 ds3 todo) rfl rfl rfl h7 hend hbk)))
  split at h3
  · exact fin none .ready rfl h3 ⟨[], q3, .inl ⟨rfl, rfl⟩⟩
  · unfold onRoundJump at h3
    split at h3 <;> first | (cases h3; done) | skip
    · refine fin (some .ret) .done rfl h3 ?_
      obtain ⟨k0, h6, _⟩ := q3
      exact ⟨_, h6, .inr (.inl ⟨rfl, k0, rfl⟩)⟩
    · rename_i id
      refine fin (some (.exit id)) .done rfl h3 ?_
      obtain ⟨k0, h6, h7⟩ := q3
      exact ⟨_, h6, .inr (.inr ⟨id, rfl, k0, rfl, by rw [h7 id rfl]; rfl⟩)⟩

/-- CALLS. -/
theorem inv_step {Sm : Summ} (hSm : SmOk P Sm) (hNum : NumOk P) {ih : Rq → Rs Ans} (hC : CodeOk P ih) (hF : DfrOk P ih) {t : Target} {args : List Value} {s : St} {r : Ans} (h : onInv P Sm ih t args s = .ok r) (kd : CallKind) (fr : Frame) (cs : List Frame) (hbk : BackOk kd fr) (hkd : kd = .normal ∨ ∀ f c, t = .fn f c → noSm Sm f = true) {t' : Target} {args' : Array Value} (hS : SRel φ s w) (ht : TgRel φ t t') (hl : LRel φ args args'.toList) :
    ∃ v s' ψ n w1 v' w', r = .val v s' ∧ (invoke t' args').run P w = .ok n w1 ∧ Ran P kd fr cs n w1 v' w' ∧ Post φ s w ψ s' w' ∧ VRel ψ v v' := by
  unfold onInv at h
  cases ht with
  | @fn f f' c c' hf hc =>
    have hargs : LRel φ (args ++ c.toList) (args' ++ c').toList := by
      rw [Array.toList_append]
      exact hl.append hc
    cases hf with
    | func f =>
      simp only at h
      split at h
      · rename_i g hg
        obtain ⟨⟨v, s1⟩, h1, h2⟩ := Rs.bind_ok h
        cases h2
        obtain rfl : kd = .normal := by
          rcases hkd with h | h
          · exact h
          · have := h _ _ rfl
            simp [noSm, hg] at this
        obtain ⟨ψ, n, w1, v', w', r1, r2, r3, r4⟩ := hSm f g hg _ _ _ _ h1 fr cs φ w _ hS hargs
        exact ⟨v, s1, ψ, n, w1, v', w', rfl, r1, r2, r3, r4⟩
      · obtain ⟨fn, h1, h2⟩ := Rs.bind_ok h
        have hfn := Rs.of_ok h1
        unfold onFunc at h2
        split at h2
        · rename_i body hb
          obtain ⟨v, s', ψ, v', w', e1, r1, r2, r3⟩ := body_step hC hF hfn hb h2 hS hargs kd fr cs hbk
          have hname := hNum f fn hfn (by rw [hb]; rfl)
          refine ⟨v, s', ψ, .enter f (args' ++ c'), w, v', w', e1, ?_, r1, r2, r3⟩
          show (callFunc f (args' ++ c')).run P w = _
          simp [callFunc, hfn, hname, hb]
        · rename_i hb
          split at h2 <;> first | (cases h2; done) | skip
          rename_i x hx
          obtain ⟨h3, h4⟩ := ifb_no h2
          have h4' : ext P s fn.resultTypes x (args ++ c.toList) (fun v s => Rs.ok (Ans.val v s)) = .ok r := by
            unfold say at h4
            split at h4 <;> first | (cases h4; done) | exact h4
          obtain ⟨v, st', ψ, v', w', r1, r2, r3, r4⟩ := callExt_ok hfn hb hx (of_decide_eq_true h3) hS h4' hargs
          cases r4
          exact ⟨v, st', ψ, .value v', w', v', w', rfl, r1, Ran.value _ _ _ _ _, r2, r3⟩
    | @yield l L hL =>
      simp only at h
      obtain ⟨v, s', ψ, n, w1, v', w', r⟩ := yield_step hC h hS hL hl kd fr cs hbk
      exact ⟨v, s', ψ, n, w1, v', w', r⟩
    | _ => cases h

/-- ALL REQUESTS, if regions whose order is open are borne. -/
structure AllOk (P : Program) (Sm : Summ) (ih : Rq → Rs Ans) : Prop where
  inv : InvOk P Sm ih
  code : CodeOk P ih
  run : RunOk P ih
  dfr : DfrOk P ih
theorem allOk_zero {Sm : Summ} : AllOk P Sm (fun _ => .no 0 "fuel") :=
  ⟨fun _ _ _ _ h => (by cases h), fun _ _ _ _ _ _ h => (by cases h), fun _ _ _ _ _ _ _ h => (by cases h), fun _ _ _ h => (by cases h)⟩
theorem allOk_succ {Sm : Summ} (hSm : SmOk P Sm) (hNum : NumOk P) {ih : Rq → Rs Ans} (h : AllOk P Sm ih) (hD : DrawOk P ih) : AllOk P Sm (step P Sm ih) :=
  ⟨fun _ _ _ _ e kd fr cs hbk hkd _ _ _ _ hS ht hl => inv_step hSm hNum h.code h.dfr e kd fr cs hbk hkd hS ht hl,
   fun _ _ _ _ _ _ e _ _ _ _ _ hb hrd hS hA _ hit _ _ => code_step h.inv h.code h.run hD e hb hrd hS hA _ hit,
   fun _ _ _ _ _ _ _ e _ _ _ _ _ _ _ _ hb hrd hS hA hl => run_step h.inv h.run e hb hrd hS hA hl,
   fun _ _ _ e _ _ _ _ _ hS hl hm hfr => dfr_step h.inv h.dfr e hS hl hm hfr⟩
end
end Go.Proofs.YtbakhdgiimjnkaaGreatDoor.Abs
