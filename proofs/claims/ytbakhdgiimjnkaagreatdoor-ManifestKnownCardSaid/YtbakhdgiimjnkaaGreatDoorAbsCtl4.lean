/-
  Codes.
-/
import Derived.Test.YtbakhdgiimjnkaaGreatDoorAbsCtl3
namespace Go.Proofs.YtbakhdgiimjnkaaGreatDoor.Abs
section
set_option linter.unusedVariables false
variable {P : Program} {φ : Phi} {w : World} {b : Fm} {ts : Array Value} {ds : List Deferred} {k : List Item} {cs : List Frame}

def DrawOk (P : Program) (ih : Rq → Rs Ans) : Prop :=
  ∀ fn rd ops n l a s r, plan P ops = some (n, l) → ih (.steps fn rd ops l s.next a ⟨s.heap, s.next + n⟩) = .ok r → ∀ (φ : Phi) (w : World) (b : Fm) (ts : Array Value) (ds : List Deferred) (id : Nat) (k : List Item) (cs : List Frame), b.fn = fn → RdRel φ rd b.rd → SRel φ s w → ARel φ a ts ds →
    ∃ a1 s1 ψ w' ts' ds', r = .at .normal a1 s1 ∧ Post φ s w ψ s1 w' ∧ ARel ψ a1 ts' ds' ∧ Steps P (lone (b.at ts ds (.code (.region id ops true) :: k)) cs w) (lone (b.at ts' ds' k) cs w')

theorem mv_range {f : Operand} {params : Array Tmp} {assign body : Code} {l : Nat} {mark : List Deferred} {w1 w2 w3 : World} {n : Next} {v : Value} {d : Deferred} (h1 : (Instr.enterLoop b.fn ts params assign body b.rd).run P w = .ok (l, mark) w1)
    (h2 : (resolve (tev ts) { callee := .value f, args := #[.const (.func (.yield l) #[] #[])], argTypes := #[] } 0).run P w1 = .ok d w1) (h3 : (invoke d.target d.args).run P w1 = .ok n w2) (h4 : Ran P .normal (b.at ts (mark ++ ds) (.inRangeFunc l :: k)) cs n w2 v w3) :
    Steps P (lone (b.at ts ds (.code (.rangeFunc f params assign body) :: k)) cs w) (lone (b.at ts (mark ++ ds) (.endRangeFunc l :: k)) cs w3) := by
  have hfin : ∀ v, (b.at ts (mark ++ ds) (.inRangeFunc l :: k)).finish v = b.at ts (mark ++ ds) (.endRangeFunc l :: k) := fun v => rfl
  have he := Fm.eval_at b ts (mark ++ ds) (.inRangeFunc l :: k)
  have hg : (stepG P true { frame := b.at ts ds (.code (.rangeFunc f params assign body) :: k), callers := cs, status := .running, dying := none } w).bare =
      (stepG.apply P true (b.at ts (mark ++ ds) (.inRangeFunc l :: k)) cs none (do let d ← resolve (tev ts) { callee := .value f, args := #[.const (.func (.yield l) #[] #[])], argTypes := #[] } 0; invoke d.target d.args) w1).bare := by
    rw [← he]
    simp only [Fm.at] at h1 ⊢
    simp [stepG, stepG.exec, h1]
  have hr : (do let d ← resolve (tev ts) { callee := .value f, args := #[.const (.func (.yield l) #[] #[])], argTypes := #[] } 0; invoke d.target d.args : Sem Next).run P w1 = .ok n w2 := by
    simp [h2, h3]
  rw [← hfin v]
  cases n with
  | value u =>
    obtain ⟨rfl, rfl⟩ : u = v ∧ w2 = w3 := h4
    exact .one (step_lone_go (by rw [hg]; simp [stepG.apply, hr]))
  | skip =>
    obtain ⟨rfl, rfl⟩ : undef = v ∧ w2 = w3 := h4
    exact .one (step_lone_go (by rw [hg]; simp [stepG.apply, hr]))
  | enter g args =>
    have h5 : Go.step P (lone (b.at ts ds (.code (.rangeFunc f params assign body) :: k)) cs w) = .next (lone (Frame.enter P g args .normal) (b.at ts (mark ++ ds) (.inRangeFunc l :: k) :: cs) w2) :=
      step_lone_go (by rw [hg]; simp [stepG.apply, hr, Fm.at])
    exact .head h5 h4
  | round l' g tmps as bd =>
    have h5 : Go.step P (lone (b.at ts ds (.code (.rangeFunc f params assign body) :: k)) cs w) = .next (lone (Frame.round l' g tmps as bd .normal) (b.at ts (mark ++ ds) (.inRangeFunc l :: k) :: cs) w2) :=
      step_lone_go (by rw [hg]; simp [stepG.apply, hr, Fm.at])
    exact .head h5 h4
  | _ => exact h4.elim
theorem mv_endRange {l : Nat} {jump : Option Code} {w1 : World} (h1 : (Instr.endLoop l).run P w = .ok jump w1) :
    Go.step P (lone (b.at ts ds (.endRangeFunc l :: k)) cs w) = .next (lone (b.at ts ds ((jump.map Item.code).toList ++ k)) cs w1) :=
  step_lone_go (by simp [stepG, stepG.exec, Fm.at, h1])

/-- a loop's object -/
theorem loopAt {st : St} (hS : SRel φ st w) {l : Nat} {L : Loc} {q : LoopState} {pend : Option Code} {fn : FuncId} {tt : Tr Value} {n : Nat} {ps : List Tmp} {as bd : Code} {d : Nat} (h : st.heap.get l = some (.loop q pend fn tt n ps as bd d)) (hL : φ l = some L) :
    ∃ tmps D, w.heap[L.blk]? = some (.loop ⟨q, pend, fn, tmps, ⟨ps⟩, as, bd, D⟩) ∧ TRel φ tt n tmps ∧ ∃ M : Loc, φ d = some M ∧ D = M.blk := by
  obtain ⟨o, h1, h2⟩ := hS.mem.objAt h hL
  cases h2 with
  | @loop _ _ D _ tmps _ _ _ ps' _ _ hd ht => exact ⟨tmps, D.blk, by simpa using h1, ht, D, hd, rfl⟩

theorem arr_pass {it : Item} {it' : Item} {e : XE} {ts' : Array Value} {ds' : List Deferred} {w w1 w' : World} {ts1 : Array Value} {ds1 : List Deferred} {k k1 : List Item} {cs : List Frame}
    (h1 : Steps P (lone (b.at ts ds (it :: k)) cs w) (lone (b.at ts1 ds1 (it' :: k1)) cs w1)) (h2 : ∀ id, exitTo id k1 = exitTo id k) (c : Code) (he : e = .jump c) (ha : Arr P b it' ts1 ds1 w1 e ts' ds' w' k1 cs) : Arr P b it ts ds w e ts' ds' w' k cs := by
  subst he
  obtain ⟨k0, h3, h4⟩ := ha
  exact ⟨k0, h1.trans h3, fun id hid => (h4 id hid).trans (h2 id)⟩
theorem arr_steps {it it' : Item} {e : XE} {ts' : Array Value} {ds' : List Deferred} {w w1 w' : World} {ts1 : Array Value} {ds1 : List Deferred} {k : List Item} {cs : List Frame}
    (h : Steps P (lone (b.at ts ds (it :: k)) cs w) (lone (b.at ts1 ds1 (it' :: k)) cs w1)) (ha : Arr P b it' ts1 ds1 w1 e ts' ds' w' k cs) : Arr P b it ts ds w e ts' ds' w' k cs := by
  cases e with
  | normal => exact h.trans ha
  | jump c =>
    obtain ⟨k0, h3, h4⟩ := ha
    exact ⟨k0, h.trans h3, h4⟩

theorem region_step {ih : Rq → Rs Ans} (hR : RunOk P ih) (hD : DrawOk P ih) {fn : FuncId} {rd : Option Nat} {id : Nat} {ops : Array Oper} {draw : Bool} {a : Ac} {s : St} {r : Ans} (h : onRegion P ih fn rd ops draw a s = .ok r)
    (hb : b.fn = fn) (hrd : RdRel φ rd b.rd) (hS : SRel φ s w) (hA : ARel φ a ts ds) : CodeAns P φ s w b (.code (.region id ops draw)) ts ds k cs r := by
  unfold onRegion at h
  rcases ifb_ok h with ⟨rfl, h1⟩ | ⟨rfl, h1⟩
  · split at h1 <;> first | (cases h1; done) | skip
    rename_i n l hp
    rw [natK_eq, natK_eq] at h1
    obtain ⟨a1, s1, ψ, w', ts', ds', e1, p1, p2, p3⟩ := hD _ _ _ _ _ _ _ _ hp h1 φ w b ts ds id k cs hb hrd hS hA
    exact ⟨_, a1, s1, ψ, w', ts', ds', e1, p1, p2, p3⟩
  · obtain ⟨a1, s1, ψ, w', ts', ds', e1, p1, p2, p3⟩ := hR _ _ _ _ _ _ _ h1 φ w b ts ds 0 k cs hb hrd hS hA rfl
    refine ⟨_, a1, s1, ψ, w', ts', ds', e1, p1, p2, .head mv_region ?_⟩
    have := p3
    rw [Nat.sub_zero, ← List.range_eq_range'] at this
    exact this

theorem seq_step {ih : Rq → Rs Ans} (hC : CodeOk P ih) {fn : FuncId} {rd : Option Nat} {x y : Code} {a : Ac} {s : St} {r : Ans} (h : onSeq ih fn rd y (ih (.code fn rd x a s)) = .ok r)
    (hb : b.fn = fn) (hrd : RdRel φ rd b.rd) (hS : SRel φ s w) (hA : ARel φ a ts ds) (it it1 : Item) (h1 : ItemOf y it1) (h2 : Steps P (lone (b.at ts ds (it :: k)) cs w) (lone (b.at ts ds (.code x :: it1 :: k)) cs w)) (h3 : ∀ id k, exitTo id (it1 :: k) = exitTo id k) :
    CodeAns P φ s w b it ts ds k cs r := by
  unfold onSeq at h
  split at h
  · rename_i a1 s1 h4
    obtain ⟨e, a2, s2, ψ, w', ts', ds', e1, p1, p2, p3⟩ := hC _ _ _ _ _ _ h4 φ w b ts ds hb hrd hS hA _ (.inl rfl) (it1 :: k) cs
    cases e1
    obtain ⟨e, a3, s3, χ, w2, ts2, ds2, e2, q1, q2, q3⟩ := hC _ _ _ _ _ _ h ψ w' b ts' ds' hb (hrd.mono p1.le) p1.rel p2 it1 h1 k cs
    exact ⟨e, a3, s3, χ, w2, ts2, ds2, e2, p1.trans q1, q2, arr_steps (h2.trans p3) q3⟩
  · rename_i hne
    obtain ⟨e, a2, s2, ψ, w', ts', ds', e1, p1, p2, p3⟩ := hC _ _ _ _ _ _ h φ w b ts ds hb hrd hS hA _ (.inl rfl) (it1 :: k) cs
    subst e1
    cases e with
    | normal => exact absurd h (hne _ _)
    | jump c => exact ⟨_, a2, s2, ψ, w', ts', ds', rfl, p1, p2, arr_pass (it' := .code x) h2 (fun id => h3 id k) c rfl p3⟩

/-- a loop over a function -/
theorem range_enter {Sm : Summ} {ih : Rq → Rs Ans} (hI : InvOk P Sm ih) {fn : FuncId} {params : Array Tmp} {assign body : Code} {a : Ac} {g : Fn} {first cap : Array Value} {mark mark' : List Deferred} {d : Nat} {D : Loc} {f : Operand} {s : St} {r : Ans} {w1 : World}
    (h : onRangeEnter ih fn params assign body a g first cap mark d s = .ok r) (hb : b.fn = fn) (hS : SRel φ s w1) (hA : ARel φ a ts ds) (hf : VRel φ (.func g first cap) (tev ts f)) (hd : φ d = some D) (hmk : DsRel φ mark mark')
    (hw : ∀ o : Obj, o = .loop ⟨.ready, none, b.fn, ts, params, assign, body, D.blk⟩ → (Instr.enterLoop b.fn ts params assign body b.rd).run P w = .ok (w1.heap.size, mark') { w1 with heap := w1.heap.push o }) :
    ∃ e a1 s1 ψ w' ts' ds', r = .at e a1 s1 ∧ Post φ s w1 ψ s1 w' ∧ ARel ψ a1 ts' ds' ∧ Arr P b (.code (.rangeFunc f params assign body)) ts ds w e ts' ds' w' k cs := by
  unfold onRangeEnter at h
  rw [St.new_eq] at h
  have hp := Post.new hS (.loop .ready none fn a.tmps a.n params.toList assign body d) (.loop ⟨.ready, none, b.fn, ts, params, assign, body, D.blk⟩) ⟨w1.heap.size, 0, 0, 0⟩ rfl
    (fun ψ hle => by rw [hb]; exact .loop .ready none fn params assign body (hle _ _ hd) (hA.tmps.mono hle))
  have hen := hw _ rfl
  generalize hz : tev ts f = z at hf
  cases hf with
  | @func _ g' _ ys _ us hf1 s1 s2 s3 s4 =>
    split at h <;> first | (cases h; done) | skip
    rename_i v s2' h1
    have hy : VRel (φ.add s.next ⟨w1.heap.size, 0, 0, 0⟩) (.func (.yield s.next) #[] #[]) (.func (.yield w1.heap.size) #[] #[]) := by
      have hk := Phi.add_same φ s.next ⟨w1.heap.size, 0, 0, 0⟩
      exact .func (.yield (L := ⟨w1.heap.size, 0, 0, 0⟩) hk) rfl rfl (fun i v v' h => by simp at h) (fun i v v' h => by simp at h)
    have ha : LRel (φ.add s.next ⟨w1.heap.size, 0, 0, 0⟩) (first.toList ++ [.func (.yield s.next) #[] #[]]) (ys ++ #[Value.func (.yield w1.heap.size) #[] #[]]).toList := by
      rw [Array.toList_append]
      exact ((LRel.of_arr s1 s3).mono hp.le).append (LRel.cons hy (.nil _))
    obtain ⟨v2, s2x, ψ, n, w2, v', w', e2, h7, h8, h9, h10⟩ := hI _ _ _ _ h1 .normal (b.at ts (mark' ++ ds) (.inRangeFunc w1.heap.size :: k)) cs (.inl rfl) (.inl rfl) _ _ (.fn g' us) (ys ++ #[Value.func (.yield w1.heap.size) #[] #[]]) hp.rel (.fn (hf1.mono hp.le) ((LRel.of_arr s2 s4).mono hp.le)) ha
    cases e2
    have hres : (resolve (tev ts) { callee := .value f, args := #[.const (.func (.yield w1.heap.size) #[] #[])], argTypes := #[] } 0).run P { w1 with heap := w1.heap.push (.loop ⟨.ready, none, b.fn, ts, params, assign, body, D.blk⟩) } =
        .ok ⟨.fn g' us, ys ++ #[.func (.yield w1.heap.size) #[] #[]]⟩ { w1 with heap := w1.heap.push (.loop ⟨.ready, none, b.fn, ts, params, assign, body, D.blk⟩) } := by
      simp only [resolve, hz, Deferred.ofValue]
      simp [tev]
    have mv := mv_range (P := P) (ds := ds) (k := k) (cs := cs) hen hres h7 h8
    unfold onRangeEnd at h
    split at h <;> first | (cases h; done) | skip
    rename_i st pend fn' tt nn ps as bd d' hl
    obtain ⟨tmps, DD, hL1, hL2, M, hM, rfl⟩ := loopAt h9.rel hl (h9.le _ _ (Phi.add_same φ s.next ⟨w1.heap.size, 0, 0, 0⟩))
    have hg := run_getObj (P := P) hL1 (fun _ _ _ e => by cases e)
    have hs := fun q => run_setObj (P := P) (q := q) hL1 (fun _ _ _ e => by cases e)
    have fin : st ≠ .busy → s2'.put s.next (.loop .exhausted pend fn' tt nn ps as bd d') (fun s => (match pend with
        | none => Rs.ok (Ans.at .normal ⟨a.tmps, a.n, mark ++ a.dfs⟩ s)
        | some c => Rs.ok (Ans.at (.jump c) ⟨a.tmps, a.n, mark ++ a.dfs⟩ s))) = .ok r → ∃ e a1 s1 ψ w' ts' ds', r = .at e a1 s1 ∧ Post φ s w1 ψ s1 w' ∧ ARel ψ a1 ts' ds' ∧ Arr P b (.code (.rangeFunc f params assign body)) ts ds w e ts' ds' w' k cs := by
      intro hst hput
      rw [St.put_eq] at hput
      have hput2 := Post.put (y := .loop .exhausted pend fn' tt nn ps as bd d') (q := .loop ⟨.exhausted, pend, fn', tmps, ⟨ps⟩, as, bd, M.blk⟩) h9.rel hl rfl (h9.le _ _ (Phi.add_same φ s.next ⟨w1.heap.size, 0, 0, 0⟩)) hL1
        (.loop (ps := ⟨ps⟩) .exhausted pend fn' as bd hM hL2)
      have hpost := (hp.trans h9).trans hput2
      have hend : (Instr.endLoop w1.heap.size).run P w' = .ok pend { w' with heap := w'.heap.setIfInBounds w1.heap.size (.loop ⟨.exhausted, pend, fn', tmps, ⟨ps⟩, as, bd, M.blk⟩) } := by
        unfold Instr.endLoop Instr.getLoop
        simp [hg, hs]
        exact fun e => absurd e hst
      have hA2 : ARel ψ ⟨a.tmps, a.n, mark ++ a.dfs⟩ ts (mark' ++ ds) := ⟨(hA.mono hpost.le).tmps, (hmk.append hA.dfs).mono hpost.le⟩
      cases pend with
      | none =>
        cases hput
        refine ⟨.normal, _, _, ψ, _, ts, _, rfl, hpost, hA2, mv.trans (.one (mv_endRange hend))⟩
      | some c =>
        cases hput
        refine ⟨.jump c, _, _, ψ, _, ts, _, rfl, hpost, hA2, ⟨k, mv.trans (.one (mv_endRange hend)), fun _ _ => rfl⟩⟩
    split at h
    · cases h
    · rename_i hst
      exact fin (fun e => hst e) h

theorem range_step {Sm : Summ} {ih : Rq → Rs Ans} (hI : InvOk P Sm ih) {fn : FuncId} {rd : Option Nat} {f : Operand} {params : Array Tmp} {assign body : Code} {a : Ac} {s : St} {r : Ans} (h : (a.ev f).bind (onRange ih fn rd params assign body a s) = .ok r)
    (hb : b.fn = fn) (hrd : RdRel φ rd b.rd) (hS : SRel φ s w) (hA : ARel φ a ts ds) : CodeAns P φ s w b (.code (.rangeFunc f params assign body)) ts ds k cs r := by
  obtain ⟨fv, h1, h2⟩ := Rs.bind_ok h
  have hf := ev_rel hS hA.tmps _ _ h1
  unfold onRange at h2
  split at h2 <;> first | (cases h2; done) | skip
  rename_i g first cap
  split at h2
  · -- no round
    have hr : b.rd = none := hrd.isNone rfl
    rw [St.new_eq] at h2
    have hp := Post.new hS (.dfs true) (.deferred (some [])) ⟨w.heap.size, 0, 0, 0⟩ rfl (fun ψ hle => .dfsOpen)
    have hk := Phi.add_same φ s.next ⟨w.heap.size, 0, 0, 0⟩
    obtain ⟨e, a1, s1, ψ, w', ts', ds', e1, p1, p2, p3⟩ := range_enter (mark' := [⟨.collected w.heap.size, #[]⟩]) (w := w) hI h2 hb hp.rel (hA.mono hp.le) (hf.mono hp.le) hk (.cons (.mark (L := ⟨w.heap.size, 0, 0, 0⟩) hk) .nil) (by
      intro o ho
      subst ho
      rw [hr]
      simp [Instr.enterLoop]
      rfl)
    exact ⟨e, a1, s1, ψ, w', ts', ds', e1, hp.trans p1, p2, p3⟩
  · rename_i l
    split at h2 <;> first | (cases h2; done) | skip
    rename_i st0 pend0 fn0 tt0 n0 ps0 as0 bd0 d hl
    generalize hr : b.rd = rr at hrd
    cases hrd with
    | @of _ L hL =>
      obtain ⟨tmps, DD, hL1, hL2, M, hM, rfl⟩ := loopAt hS hl hL
      have hg := run_getObj (P := P) hL1 (fun _ _ _ e => by cases e)
      obtain ⟨e, a1, s1, ψ, w', ts', ds', e1, p1, p2, p3⟩ := range_enter (mark' := []) (w := w) hI h2 hb hS hA hf hM .nil (by
        intro o ho
        subst ho
        rw [hr]
        simp [Instr.enterLoop, Instr.getLoop, hg])
      exact ⟨e, a1, s1, ψ, w', ts', ds', e1, p1, p2, p3⟩

/-- CODES. -/
theorem code_step {Sm : Summ} {ih : Rq → Rs Ans} (hI : InvOk P Sm ih) (hC : CodeOk P ih) (hR : RunOk P ih) (hD : DrawOk P ih) {fn : FuncId} {rd : Option Nat} {c : Code} {a : Ac} {s : St} {r : Ans} (h : onCode P ih fn rd c a s = .ok r)
    (hb : b.fn = fn) (hrd : RdRel φ rd b.rd) (hS : SRel φ s w) (hA : ARel φ a ts ds) (it : Item) (hit : ItemOf c it) : CodeAns P φ s w b it ts ds k cs r := by
  have plain : (∀ x, c ≠ .loop x) → it = .code c := fun hn => hit.resolve_right fun ⟨x, e, _⟩ => hn x e
  unfold onCode at h
  split at h <;> first | (cases h; done) | skip
  · obtain rfl := plain (fun x e => by cases e)
    cases h
    exact ⟨.normal, _, _, φ, w, ts, ds, rfl, .refl hS, hA, .one mv_skip⟩
  · obtain rfl := plain (fun x e => by cases e)
    cases h
    exact ⟨.normal, _, _, φ, w, ts, ds, rfl, .refl hS, hA, .one mv_label⟩
  · rename_i x y
    obtain rfl := plain (fun x e => by cases e)
    exact seq_step hC h hb hrd hS hA _ (.code y) (.inl rfl) (.one mv_seq) (fun id k => by simp [exitTo])
  · rename_i c x y
    obtain rfl := plain (fun x e => by cases e)
    obtain ⟨v, h1, h2⟩ := Rs.bind_ok h
    have hv := ev_rel hS hA.tmps _ _ h1
    unfold onCond at h2
    split at h2 <;> first | (cases h2; done) | skip
    · have hz : tev ts c = .bool true := by generalize tev ts c = z at hv; cases hv; rfl
      obtain ⟨e, a1, s1, ψ, w', ts', ds', e1, p1, p2, p3⟩ := hC _ _ _ _ _ _ h2 φ w b ts ds hb hrd hS hA _ (.inl rfl) k cs
      exact ⟨e, a1, s1, ψ, w', ts', ds', e1, p1, p2, arr_steps (.one (mv_cond hz)) p3⟩
    · have hz : tev ts c = .bool false := by generalize tev ts c = z at hv; cases hv; rfl
      obtain ⟨e, a1, s1, ψ, w', ts', ds', e1, p1, p2, p3⟩ := hC _ _ _ _ _ _ h2 φ w b ts ds hb hrd hS hA _ (.inl rfl) k cs
      exact ⟨e, a1, s1, ψ, w', ts', ds', e1, p1, p2, arr_steps (.one (mv_cond hz)) p3⟩
  · rename_i id x
    obtain rfl := plain (fun x e => by cases e)
    have fin : ∀ {q : Ans}, ih (.code fn rd x a s) = .ok q → ∃ e a1 s1 ψ w' ts' ds', q = .at e a1 s1 ∧ Post φ s w ψ s1 w' ∧ ARel ψ a1 ts' ds' ∧ Arr P b (.code x) ts ds w e ts' ds' w' (.inBlock id :: k) cs :=
      fun hq => hC _ _ _ _ _ _ hq φ w b ts ds hb hrd hS hA _ (.inl rfl) (.inBlock id :: k) cs
    unfold onBlock at h
    split at h
    · rename_i j a1 s1 h1
      obtain ⟨e, a2, s2, ψ, w', ts', ds', e1, p1, p2, p3⟩ := fin h1
      cases e1
      rcases ifb_ok h with ⟨hj, h2⟩ | ⟨hj, h2⟩
      · cases h2
        have hj := Nat.eq_of_beq_eq_true hj
        subst hj
        refine ⟨.normal, _, _, ψ, w', ts', ds', rfl, p1, p2, ?_⟩
        obtain ⟨k0, h3, h4⟩ := p3
        exact .head mv_block (h3.trans (.one (mv_exit (by rw [h4 j rfl]; simp [exitTo]))))
      · cases h2
        refine ⟨.jump (.exit j), _, _, ψ, w', ts', ds', rfl, p1, p2, ?_⟩
        obtain ⟨k0, h3, h4⟩ := p3
        refine ⟨k0, .head mv_block h3, fun i hi => ?_⟩
        cases hi
        rw [h4 j rfl]
        have hne : (id == j) = false := by
          rw [beq_eq_false_iff_ne]
          intro e
          subst e
          simp at hj
        simp [exitTo, hne]
    · rename_i hne
      obtain ⟨e, a2, s2, ψ, w', ts', ds', e1, p1, p2, p3⟩ := fin h
      subst e1
      cases e with
      | normal => exact ⟨_, _, _, ψ, w', ts', ds', rfl, p1, p2, .head mv_block (Steps.trans p3 (.one mv_inBlock))⟩
      | jump c =>
        refine ⟨_, _, _, ψ, w', ts', ds', rfl, p1, p2, ?_⟩
        obtain ⟨k0, h3, h4⟩ := p3
        refine ⟨k0, .head mv_block h3, fun i hi => ?_⟩
        subst hi
        exact absurd h (hne _ _ _)
  · rename_i x
    refine seq_step hC h hb hrd hS hA _ (.inLoop x) (.inr ⟨x, rfl, rfl⟩) ?_ (fun id k => by simp [exitTo])
    rcases hit with rfl | ⟨y, e, rfl⟩
    · exact .one mv_loop
    · cases e
      exact .one mv_inLoop
  · rename_i x
    obtain rfl := plain (fun x e => by cases e)
    have fin : ∀ {q : Ans}, ih (.code fn rd x a s) = .ok q → CodeAns P φ s w b (.code (.scope x)) ts ds k cs q := by
      intro q hq
      obtain ⟨e, a2, s2, ψ, w', ts', ds', e1, p1, p2, p3⟩ := hC _ _ _ _ _ _ hq φ w b ts ds hb hrd hS hA _ (.inl rfl) (.inScope x :: k) cs
      subst e1
      cases e with
      | normal => exact ⟨_, _, _, ψ, w', ts', ds', rfl, p1, p2, .head mv_scope (Steps.trans p3 (.one mv_inScope))⟩
      | jump c => exact ⟨_, _, _, ψ, w', ts', ds', rfl, p1, p2, arr_pass (it' := .code x) (.one mv_scope) (fun id => by simp [exitTo]) c rfl p3⟩
    unfold onScope at h
    split at h
    · cases h
    · exact fin h
  · obtain rfl := plain (fun x e => by cases e)
    cases h
    exact ⟨_, _, _, φ, w, ts, ds, rfl, .refl hS, hA, ⟨k, .refl _ _, fun _ _ => rfl⟩⟩
  · obtain rfl := plain (fun x e => by cases e)
    cases h
    exact ⟨_, _, _, φ, w, ts, ds, rfl, .refl hS, hA, ⟨k, .refl _ _, fun _ _ => rfl⟩⟩
  · obtain rfl := plain (fun x e => by cases e)
    exact region_step hR hD h hb hrd hS hA
  · obtain rfl := plain (fun x e => by cases e)
    exact range_step hI h hb hrd hS hA
end
end Go.Proofs.YtbakhdgiimjnkaaGreatDoor.Abs
