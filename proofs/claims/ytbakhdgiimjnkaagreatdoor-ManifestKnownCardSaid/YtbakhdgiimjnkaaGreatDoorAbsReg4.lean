/-
  The gaps of a plan that was carried out.
-/
import Derived.Test.YtbakhdgiimjnkaaGreatDoorAbsReg3
namespace Go.Proofs.YtbakhdgiimjnkaaGreatDoor.Abs
section
set_option linter.unusedVariables false
variable {P : Program} {ops : Array Oper} {I : List PI} {rd : Option Nat} {base n : Nat} {a0 am : Ac}

/-- how a state in the midst stands to the first one -/
structure Cx (ops : Array Oper) (I : List PI) (a0 : Ac) (c : Ck) (a : Ac) : Prop where
  n : a.n = a0.n
  fwd : ∀ t, (∀ j, Wr ops j t → tb c.done j = false) → a.tmps.get t = a0.tmps.get t
  closed : ∀ j q, I[j]? = some q → tb c.done j = true → ∀ k, tb q.b k = true → tb c.done k = true
/-- what was gathered in a gap -/
structure Mid (P : Program) (ops : Array Oper) (I : List PI) (base : Nat) (a0 am : Ac) (c : Ck) (s sg : St) (pn : Nat → Prop) : Prop where
  pre : c.pre = true → s = sg
  next : s.next = sg.next
  cur : ∀ i o p, ops[i]? = some o → I[i]? = some p → tb c.cur i = true → RFact P ops I a0 am i o sg.heap
  heap : ∀ b x, s.heap.get b = some x → sg.heap.get b = some x ∨ ∃ i, tb c.cn i = true ∧ ¬ pn i ∧ NewIs P ops I base a0 am i b x
  pnd : ∀ i, pn i → tb c.done i = true
  cnd : ∀ i, tb c.cn i = true → tb c.done i = true ∧ ¬ pn i

theorem WF_inj {i : Nat} {o : Oper} {x y : Bool} (h : WF ops I a0 am i o x) (k : WF ops I a0 am i o y) : x = y := by
  unfold WF at h k
  cases hg : o.guard with
  | none => rw [hg] at h k; simp only at h k; rw [h, k]
  | some jw =>
    rw [hg] at h k
    obtain ⟨t, v, h1, h2, h3⟩ := h
    obtain ⟨t', v', k1, k2, k3⟩ := k
    rw [h1] at k1
    cases k1
    rw [h2] at k2
    cases k2
    rw [h3, k3]

/-- what an operation finds -/
theorem finds (hst : Stat P ops I) {c : Ck} {a : Ac} (cx : Cx ops I a0 c a) (back : ∀ t, (∀ j, Wr ops j t → tb c.done j = true) → am.tmps.get t = a.tmps.get t) {i : Nat} {o : Oper} {p : PI} (ho : ops[i]? = some o) (hp : I[i]? = some p)
    (hsub : ∀ k, tb p.b k = true → tb c.done k = true) (hnot : ∀ j t, Wr ops j t → t ∈ o.looksAt ops → tb p.b j = false → tb c.done j = false) : ∀ t ∈ o.looksAt ops, a.tmps.get t = getIn ops I a0 am i t := by
  intro t ht
  unfold getIn
  split
  · rename_i h
    obtain ⟨j, p', h1, h2, h3⟩ := h
    rw [hp] at h1
    cases h1
    exact (back t fun k hk => by rw [hst.once k j t hk h2]; exact hsub j h3).symm
  · rename_i h
    refine cx.fwd t fun j hj => ?_
    cases hb : tb p.b j with
    | true => exact absurd ⟨j, p, hp, hj, hb⟩ h
    | false => exact hnot j t hj ht hb
theorem finds_env {a : Ac} {i : Nat} {o : Oper} (h : ∀ t ∈ o.looksAt ops, a.tmps.get t = getIn ops I a0 am i t) : ∀ x ∈ o.op.operands, a.ev x = env ops I a0 am i o x := by
  intro x hx
  unfold env
  rw [if_pos hx]
  cases x with
  | tmp t =>
    have hm : t ∈ o.looksAt ops := List.mem_append_left _ (List.mem_filterMap.2 ⟨.tmp t, by simpa using hx, rfl⟩)
    show Rs.of 11 (a.tmps.get t) = Rs.of 11 (getIn ops I a0 am i t)
    rw [h t hm]
  | const v => rfl
  | global g => rfl
  | func f => rfl
theorem finds_wf {a : Ac} {i : Nat} {o : Oper} {wb : Bool} (h : ∀ t ∈ o.looksAt ops, a.tmps.get t = getIn ops I a0 am i t) (hw : wantedA ops o a = .ok wb) : WF ops I a0 am i o wb := by
  unfold wantedA at hw
  unfold WF
  split at hw
  · rename_i hg
    simp only [hg]
    cases hw
    rfl
  · rename_i j want hg
    simp only [hg]
    obtain ⟨v, h1, h2⟩ := Rs.bind_ok hw
    have h1 := Rs.of_ok h1
    cases h2
    cases h3 : (ops[j]?).bind (·.dst) with
    | none => rw [h3] at h1; cases h1
    | some t =>
      rw [h3] at h1
      have hm : t ∈ o.looksAt ops := by
        unfold Oper.looksAt
        refine List.mem_append_right _ ?_
        rw [hg]
        simp [h3]
      exact ⟨t, v, rfl, by rw [← h t hm]; exact h1, rfl⟩

theorem build (hst : Stat P ops I) {Sm : Summ} {N : Nat} (hI : ∀ m, m ≤ N → InvOk P Sm (run P Sm m)) {fn : FuncId} {sm : St} : ∀ {l : List PStep} {fuel : Nat} {c : Ck} {a : Ac} {s : St}, fuel ≤ N → chk ops I n l c = true →
    run P Sm fuel (.steps fn rd ops l base a s) = .ok (.at .normal am sm) → Cx ops I a0 c a →
    (∀ i, tb c.done i = false → OpFact P ops I base n a0 am i) ∧
    ∀ sg pn, Mid P ops I base a0 am c s sg pn → ∃ es, Gaps P ops I rd base a0 am es c.prev c.pb pn sg a.dfs sm am.dfs ∧ (∀ i o p, ops[i]? = some o → I[i]? = some p → p.c = .e → tb c.done i = false → i ∈ es) ∧ ∀ i ∈ es, tb c.done i = false
  | _, 0, _, _, _, _, _, h, _ => by cases h
  | [], fuel + 1, c, a, s, _, hc, h, cx => by
    cases h
    obtain ⟨h1, h2⟩ := ck_end (I := I) hc
    refine ⟨fun i hi o p ho hp => ?_, fun sg pn mid => ⟨[], .last (fun i o p ho hp hr => ?_) mid.next (fun b x hx => ?_), fun i o p ho hp _ hi => ?_, fun i hi => by cases hi⟩⟩
    · have := h1 i (List.getElem?_eq_some_iff.1 hp).1
      rw [hi] at this; cases this
    · rcases closeB_spec h2 i p hp hr with ⟨x, e, _⟩ | h3 | h3
      · cases e
      · exact .inl (by simpa using h3)
      · exact .inr (mid.cur i o p ho hp (by simpa using h3))
    · rcases mid.heap b x hx with h3 | ⟨i, _, h4, h5⟩
      · exact .inl h3
      · exact .inr ⟨i, h4, h5⟩
    · have := h1 i (List.getElem?_eq_some_iff.1 hp).1
      rw [hi] at this; cases this
  | st :: l, fuel + 1, c, a, s, hN, hc, h, cx => by
    obtain ⟨a', s', h1, h2⟩ := steps_cons (P := P) (ih := run P Sm fuel) h
    have hc2 : ckStep ops I n c st (chk ops I n l) = true := hc
    have hback := (keep hc h).2
    have hfuel : fuel ≤ N := by omega
    -- an operation that was not done finds its operands
    have fnd : ∀ (i : Nat) (o : Oper) (p : PI), ops[i]? = some o → I[i]? = some p → tb c.done i = false → sub p.b c.done = true → ∀ t ∈ o.looksAt ops, a.tmps.get t = getIn ops I a0 am i t := by
      intro i o p ho hp hnd hsub
      refine finds hst cx hback ho hp (sub_spec hsub) fun j t hj ht hb => ?_
      cases hd : tb c.done j with
      | false => rfl
      | true =>
        obtain ⟨o', ho', _⟩ := id hj
        have hlt : j < I.length := by
          rw [hst.len]
          exact (Array.getElem?_eq_some_iff.1 ho').1
        rcases hst.apart i j o p I[j] t ho hp (List.getElem?_eq_getElem hlt) hj ht with h3 | h3
        · rw [hb] at h3; cases h3
        · have := cx.closed j _ (List.getElem?_eq_getElem hlt) hd i h3
          rw [hnd] at this; cases this
    -- behind it
    have cxn : ∀ (i : Nat) (o : Oper) (p : PI) (v : Value) (ds : List Deferred) (c' : Ck), ops[i]? = some o → I[i]? = some p → sub p.b c.done = true → c'.done = bit c.done i → a' = acPut a o.dst v ds → Cx ops I a0 c' a' := by
      intro i o p v ds c' ho hp hsub hd ha
      subst ha
      refine ⟨by rw [acPut_n, cx.n], fun t ht => ?_, fun j q hq hj k hk => ?_⟩
      · rw [acPut_ne, cx.fwd t fun j hj => ?_]
        · have := ht j hj
          rw [hd, tb_bit] at this
          simp only [Bool.or_eq_false_iff] at this
          exact this.1
        · intro e
          have := ht i ⟨o, ho, e⟩
          rw [hd, tb_bit] at this
          simp at this
      · rw [hd, tb_bit] at hj ⊢
        simp only [Bool.or_eq_true, decide_eq_true_eq] at hj ⊢
        rcases hj with hj | rfl
        · exact .inl (cx.closed j q hq hj k hk)
        · rw [hp] at hq
          cases hq
          exact .inl (sub_spec hsub k hk)
    -- the value it yields
    have vis : ∀ (i : Nat) (o : Oper) (v : Value) (ds : List Deferred) (c' : Ck), ops[i]? = some o → c'.done = bit c.done i → a' = acPut a o.dst v ds → chk ops I n l c' = true → ValIs am o v := by
      intro i o v ds c' ho hd ha hk t ht u hu
      rw [(keep hk h1).2 t fun j hj => ?_, ha] at hu
      · exact acPut_get hu ht
      · rw [hst.once j i t hj ⟨o, ho, ht⟩, hd, tb_bit]
        simp
    -- what holds of all others
    have others : ∀ (i : Nat) (c' : Ck), c'.done = bit c.done i → (∀ j, tb c'.done j = false → OpFact P ops I base n a0 am j) → OpFact P ops I base n a0 am i → ∀ j, tb c.done j = false → OpFact P ops I base n a0 am j := by
      intro i c' hd hall hi j hj
      by_cases e : i = j
      · subst e; exact hi
      · refine hall j ?_
        rw [hd, tb_bit, hj]
        simpa using e
    cases st with
    | go i =>
      obtain ⟨o, wb, ho, hw, hdst, hf, ht⟩ := h2
      obtain ⟨p, hp, hnd, hsub, hk⟩ := ck_go hc2
      have hfnd := fnd i o p ho hp hnd hsub
      have hwf := finds_wf hfnd hw
      have henv := finds_env hfnd
      have hcls := hst.cls i o p ho hp
      have hdst' : ∀ t, o.dst = some t → t < a0.n := fun t e => by rw [← cx.n]; exact hdst t e
      have hput : ∃ v ds, a' = acPut a o.dst v ds := by
        cases wb with
        | false => exact ⟨_, _, (hf rfl).1⟩
        | true => obtain ⟨v, ds, _, e⟩ := ht rfl; exact ⟨_, _, e⟩
      obtain ⟨v0, ds0, hput⟩ := hput
      have undef_ : ∀ c' : Ck, c'.done = bit c.done i → chk ops I n l c' = true → wb = false → ValIs am o undefV := fun c' hd hk e => vis i o _ _ c' ho hd (hf e).1 hk
      -- an operation of the first two classes
      have plain : p.c = .p ∨ p.c = .r → s' = s ∧ a'.dfs = a.dfs ∧ (wb = true → ∃ v, pOp P s.heap o.op (env ops I a0 am i o) = .ok v ∧ ∀ c' : Ck, c'.done = bit c.done i → chk ops I n l c' = true → ValIs am o v) := by
        intro hpr
        cases wb with
        | false => exact ⟨(hf rfl).2, by rw [(hf rfl).1, acPut_dfs], fun e => by cases e⟩
        | true =>
          obtain ⟨v, ds, h3, h4⟩ := ht rfl
          obtain ⟨v', h5, h6⟩ := doOp_plain (by rw [← hcls]; exact hpr) h3
          cases h6
          exact ⟨rfl, by rw [h4, acPut_dfs]; rfl, fun _ => ⟨_, by rw [← pOp_congr henv]; exact h5, fun c' hd hk => vis i o _ _ c' ho hd h4 hk⟩⟩
      rcases hk with ⟨hcl, hk⟩ | ⟨hcl, hpre, hk⟩ | ⟨hcl, hprev, hcn, hclose, hk⟩
      · obtain ⟨hs, hdf, hv⟩ := plain (.inl hcl)
        have cx' := cxn i o p _ _ ⟨c.prev, c.pb, bit c.done i, c.cur, c.cn, c.pre⟩ ho hp hsub rfl hput
        obtain ⟨f1, f2⟩ := build hst hI hfuel hk h1 cx'
        refine ⟨others i _ rfl f1 ?_, fun sg pn mid => ?_⟩
        · intro o' p' ho' hp'
          rw [ho] at ho'; cases ho'
          rw [hp] at hp'; cases hp'
          refine ⟨hdst', fun _ => ⟨wb, hwf, undef_ _ rfl hk⟩, fun _ hwt => ?_, fun e => by rw [hcl] at e; cases e⟩
          obtain rfl := WF_inj hwf hwt
          obtain ⟨v, h3, h4⟩ := hv rfl
          exact ⟨v, h4 _ rfl hk, fun hh => pOp_heap (by rw [← hcls]; exact hcl) s.heap hh h3⟩
        · obtain ⟨es, g1, g2, g3⟩ := f2 sg pn ⟨fun e => by rw [hs]; exact mid.pre e, by rw [hs]; exact mid.next, mid.cur, by rw [hs]; exact mid.heap, fun j hj => by rw [tb_bit, mid.pnd j hj]; rfl, fun j hj => ⟨by rw [tb_bit, (mid.cnd j hj).1]; rfl, (mid.cnd j hj).2⟩⟩
          refine ⟨es, by rw [← hdf]; exact g1, fun j o' p' ho' hp' he hj => g2 j o' p' ho' hp' he ?_, fun j hj => ?_⟩
          · rw [tb_bit, hj]
            by_cases e : i = j
            · subst e; rw [hp] at hp'; cases hp'; rw [hcl] at he; cases he
            · simpa using e
          · have := g3 j hj
            rw [tb_bit] at this
            simp only [Bool.or_eq_false_iff] at this
            exact this.1
      · obtain ⟨hs, hdf, hv⟩ := plain (.inr hcl)
        have cx' := cxn i o p _ _ ⟨c.prev, c.pb, bit c.done i, bit c.cur i, c.cn, c.pre⟩ ho hp hsub rfl hput
        obtain ⟨f1, f2⟩ := build hst hI hfuel hk h1 cx'
        refine ⟨others i _ rfl f1 ?_, fun sg pn mid => ?_⟩
        · intro o' p' ho' hp'
          rw [ho] at ho'; cases ho'
          rw [hp] at hp'; cases hp'
          exact ⟨hdst', fun _ => ⟨wb, hwf, undef_ _ rfl hk⟩, fun e => (by rw [hcl] at e; cases e), fun e => by rw [hcl] at e; cases e⟩
        · have hsg := mid.pre hpre
          obtain ⟨es, g1, g2, g3⟩ := f2 sg pn ⟨fun e => by rw [hs]; exact mid.pre e, by rw [hs]; exact mid.next, fun j o' p' ho' hp' hj => by
            rw [tb_bit] at hj
            simp only [Bool.or_eq_true, decide_eq_true_eq] at hj
            rcases hj with hj | rfl
            · exact mid.cur j o' p' ho' hp' hj
            · rw [ho] at ho'; cases ho'
              intro hwt
              obtain rfl := WF_inj hwf hwt
              obtain ⟨v, h3, h4⟩ := hv rfl
              rw [← hsg]
              exact ⟨v, h4 _ rfl hk, h3⟩, by rw [hs]; exact mid.heap, fun j hj => by rw [tb_bit, mid.pnd j hj]; rfl, fun j hj => ⟨by rw [tb_bit, (mid.cnd j hj).1]; rfl, (mid.cnd j hj).2⟩⟩
          refine ⟨es, by rw [← hdf]; exact g1, fun j o' p' ho' hp' he hj => g2 j o' p' ho' hp' he ?_, fun j hj => ?_⟩
          · rw [tb_bit, hj]
            by_cases e : i = j
            · subst e; rw [hp] at hp'; cases hp'; rw [hcl] at he; cases he
            · simpa using e
          · have := g3 j hj
            rw [tb_bit] at this
            simp only [Bool.or_eq_false_iff] at this
            exact this.1
      · have cx' := cxn i o p _ _ ⟨some i, p.b, bit c.done i, 0, 0, true⟩ ho hp hsub rfl hput
        obtain ⟨f1, f2⟩ := build hst hI hfuel hk h1 cx'
        refine ⟨others i _ rfl f1 ?_, fun sg pn mid => ?_⟩
        · intro o' p' ho' hp'
          rw [ho] at ho'; cases ho'
          rw [hp] at hp'; cases hp'
          exact ⟨hdst', fun e => absurd hcl e, fun e => (by rw [hcl] at e; cases e), fun e => by rw [hcl] at e; cases e⟩
        · obtain ⟨es, g1, g2, g3⟩ := f2 s' (fun j => pn j ∨ tb c.cn j = true) ⟨fun _ => rfl, rfl, fun j o' p' _ _ hj => (by rw [tb_zero] at hj; cases hj), fun b x hx => .inl hx, fun j hj => by
              rw [tb_bit]
              rcases hj with hj | hj
              · rw [mid.pnd j hj]; rfl
              · rw [(mid.cnd j hj).1]; rfl, fun j hj => (by rw [tb_zero] at hj; cases hj)⟩
          refine ⟨i :: es, .next (sp := s) (cn := c.cn) hp hcl hprev (fun j o' p' ho' hp' hr => ?_) mid.next mid.heap (sub_spec hcn) ?_ g1, fun j o' p' ho' hp' he hj => ?_, fun j hj => ?_⟩
          · rcases closeB_spec hclose j p' hp' hr with ⟨x, e, h3⟩ | h3 | h3
            · cases e; exact .inl h3
            · exact .inr (.inl (by simpa using h3))
            · exact .inr (.inr (mid.cur j o' p' ho' hp' (by simpa using h3)))
          · refine ⟨o, wb, ho, hwf, fun e => ⟨undef_ _ rfl hk e, (hf e).2, by rw [(hf e).1, acPut_dfs]⟩, fun e => ?_⟩
            obtain ⟨v, ds, h3, h4⟩ := ht e
            exact ⟨_, _, v, ds, hI fuel hfuel, by rw [← doOp_congr henv]; exact h3, vis i o _ _ _ ho rfl h4 hk, by rw [h4, acPut_dfs]⟩
          · by_cases e : i = j
            · subst e; exact List.mem_cons_self
            · exact List.mem_cons_of_mem _ (g2 j o' p' ho' hp' he (by rw [tb_bit, hj]; simpa using e))
          · rcases List.mem_cons.1 hj with rfl | hj
            · exact hnd
            · have := g3 j hj
              rw [tb_bit] at this
              simp only [Bool.or_eq_false_iff] at this
              exact this.1
    | again i =>
      obtain ⟨o, wb, ho, hw, ha, hs, ht⟩ := h2
      obtain ⟨p, o2, hp, ho2, hcl, hdone, hpre, hny, hk⟩ := ck_again hc2
      rw [ho] at ho2; cases ho2
      have hfnd : ∀ t ∈ o.looksAt ops, a.tmps.get t = getIn ops I a0 am i t := by
        refine finds hst cx hback ho hp (fun k hk => cx.closed i p hp hdone k hk) fun j t hj htl hb => ?_
        obtain ⟨o', ho', hd⟩ := hj
        rcases notYet_spec hny j o' t (by simpa using ho') hd htl with h3 | h3
        · rw [Nat.zero_add, hb] at h3; cases h3
        · simpa using h3
      have hwf := finds_wf hfnd hw
      have henv := finds_env hfnd
      obtain ⟨f1, f2⟩ := build hst hI (c := ⟨c.prev, c.pb, c.done, bit c.cur i, c.cn, c.pre⟩) hfuel hk h1 (by rw [ha]; exact ⟨cx.n, cx.fwd, cx.closed⟩)
      refine ⟨f1, fun sg pn mid => ?_⟩
      have hsg := mid.pre hpre
      obtain ⟨es, g1, g2, g3⟩ := f2 sg pn ⟨fun e => by rw [hs]; exact mid.pre e, by rw [hs]; exact mid.next, fun j o' p' ho' hp' hj => by
        rw [tb_bit] at hj
        simp only [Bool.or_eq_true, decide_eq_true_eq] at hj
        rcases hj with hj | rfl
        · exact mid.cur j o' p' ho' hp' hj
        · rw [ho] at ho'; cases ho'
          intro hwt
          obtain rfl := WF_inj hwf hwt
          obtain ⟨v, t, h3, h4, h5⟩ := ht rfl
          rw [← hsg]
          refine ⟨v, fun t' ht' u hu => ?_, by rw [← pOp_congr henv]; exact h3⟩
          rw [h4] at ht'
          cases ht'
          rw [hback t fun j hj => by rw [hst.once j i t hj ⟨o, ho, h4⟩]; exact hdone, h5] at hu
          exact (Option.some.inj hu).symm, by rw [hs]; exact mid.heap, mid.pnd, mid.cnd⟩
      refine ⟨es, by rw [← ha]; exact g1, g2, g3⟩
    | new i j =>
      obtain ⟨o, wb, ho, hw, hdst, hf, ht⟩ := h2
      obtain ⟨p, hp, hcl, hnd, hsub, hin, hij, hk⟩ := ck_new hc2
      subst hij
      have hfnd := fnd i o p ho hp hnd hsub
      have hwf := finds_wf hfnd hw
      have henv := finds_env hfnd
      have hdst' : ∀ t, o.dst = some t → t < a0.n := fun t e => by rw [← cx.n]; exact hdst t e
      have hput : ∃ v, a' = acPut a o.dst v a.dfs := by
        cases wb with
        | false => exact ⟨_, (hf rfl).1⟩
        | true => obtain ⟨x, f, _, _, e⟩ := ht rfl; exact ⟨_, e⟩
      obtain ⟨v0, hput⟩ := hput
      have hnew : wb = true → ∃ x f, aOp P o.op (env ops I a0 am i o) = .ok (x, f) ∧ s' = ⟨s.heap.set (base + i) x, s.next⟩ ∧ ValIs am o (f (base + i)) := by
        intro e
        obtain ⟨x, f, h3, h4, h5⟩ := ht e
        exact ⟨x, f, by rw [← aOp_congr henv]; exact h3, h4, vis i o _ _ _ ho rfl h5 hk⟩
      have cx' := cxn i o p _ _ ⟨c.prev, c.pb, bit c.done i, c.cur, bit c.cn i, false⟩ ho hp hsub rfl hput
      obtain ⟨f1, f2⟩ := build hst hI hfuel hk h1 cx'
      refine ⟨others i _ rfl f1 ?_, fun sg pn mid => ?_⟩
      · intro o' p' ho' hp'
        rw [ho] at ho'; cases ho'
        rw [hp] at hp'; cases hp'
        refine ⟨hdst', fun _ => ⟨wb, hwf, fun e => vis i o _ _ _ ho rfl (hf e).1 hk⟩, fun e => (by rw [hcl] at e; cases e), fun _ => ⟨hin, fun hwt => ?_⟩⟩
        obtain rfl := WF_inj hwf hwt
        obtain ⟨x, f, h3, _, h5⟩ := hnew rfl
        exact ⟨x, f, h3, h5⟩
      · have hnp : ¬ pn i := fun e => by
          have := mid.pnd i e
          rw [hnd] at this; cases this
        have mid' : Mid P ops I base a0 am ⟨c.prev, c.pb, bit c.done i, c.cur, bit c.cn i, false⟩ s' sg pn := by
          refine ⟨fun e => (by cases e), ?_, mid.cur, ?_, fun j hj => (by rw [tb_bit, mid.pnd j hj]; rfl), fun j hj => ?_⟩
          · cases wb with
            | false => rw [(hf rfl).2]; exact mid.next
            | true => obtain ⟨x, f, _, h4, _⟩ := hnew rfl; rw [h4]; exact mid.next
          · intro b x hx
            have old : s.heap.get b = some x → sg.heap.get b = some x ∨ ∃ k, tb (bit c.cn i) k = true ∧ ¬ pn k ∧ NewIs P ops I base a0 am k b x := by
              intro hx
              rcases mid.heap b x hx with h3 | ⟨k, h3, h4, h5⟩
              · exact .inl h3
              · exact .inr ⟨k, by rw [tb_bit, h3]; rfl, h4, h5⟩
            cases wb with
            | false => rw [(hf rfl).2] at hx; exact old hx
            | true =>
              obtain ⟨y, f, h3, h4, _⟩ := hnew rfl
              rw [h4] at hx
              rcases Tr.get_set hx with ⟨rfl, rfl⟩ | ⟨_, hx⟩
              · exact .inr ⟨i, by rw [tb_bit]; simp, hnp, o, p, f, ho, hp, hcl, hwf, h3, rfl⟩
              · exact old hx
          · rw [tb_bit] at hj
            simp only [Bool.or_eq_true, decide_eq_true_eq] at hj
            rcases hj with hj | rfl
            · exact ⟨by rw [tb_bit, (mid.cnd j hj).1]; rfl, (mid.cnd j hj).2⟩
            · exact ⟨by rw [tb_bit]; simp, hnp⟩
        obtain ⟨es, g1, g2, g3⟩ := f2 sg pn mid'
        refine ⟨es, by rw [show a'.dfs = a.dfs by rw [hput, acPut_dfs]] at g1; exact g1, fun j o' p' ho' hp' he hj => g2 j o' p' ho' hp' he ?_, fun j hj => ?_⟩
        · rw [tb_bit, hj]
          by_cases e : i = j
          · subst e; rw [hp] at hp'; cases hp'; rw [hcl] at he; cases he
          · simpa using e
        · have := g3 j hj
          rw [tb_bit] at this
          simp only [Bool.or_eq_false_iff] at this
          exact this.1
end
end Go.Proofs.YtbakhdgiimjnkaaGreatDoor.Abs
